/-
  From the top the oldest goes first, from the bottom the newest: the law, walked.
-/
import Derived.Test.YtniekhedpdkmiaaDeqAl
import Derived.Test.YtniekhedpdkmiaaTwo
import Derived.Deep.RegionHeld3
namespace Go.Proofs.Ytniekhedpdkmiaa
set_option linter.unusedVariables false
set_option linter.unusedSimpArgs false
open Go.RowKit

theorem Deq.pushes_succ (l : List Int) (k : Nat) (h : k < l.length) : Deq.pushes (l.take (k + 1)) = Deq.pushes (l.take k) ++ [⟨1, l[k]⟩] := by
  rw [List.take_succ_eq_append_getElem h]
  unfold Deq.pushes
  rw [List.map_append]
  rfl
theorem Deq.steals_succ (k : Nat) : Deq.steals (k + 1) = Deq.steals k ++ [⟨3, 0⟩] := by simp [Deq.steals, List.replicate_succ']
theorem Deq.pops_succ (k : Nat) : Deq.pops (k + 1) = Deq.pops k ++ [⟨2, 0⟩] := by simp [Deq.pops, List.replicate_succ']

/-- the last of a row -/
theorem SlV.from_ {w : World} {b o n c m : Nat} {k : IntKind} {xs ys : List Int} (h : Cells w w.heap.size (some ⟨b, o, none⟩) (ints k (xs ++ ys))) (hn : (xs ++ ys).length = n) (hm : xs.length = m) (hc : n ≤ c) (hM : c ≤ maxLen) (hlt : m < c) :
    SlV w 1 (.slice (some ⟨b, o + m, none⟩) (n - m) (c - m)) ys.length (ints k ys) := by
  have hl : n - m = ys.length := by rw [List.length_append] at hn; omega
  rw [hl]
  refine ⟨_, _, rfl, by omega, by omega, by simp [ints], b, o + m, fun hne => ⟨rfl, ?_⟩, fun j u hu => ?_⟩
  · obtain ⟨b', o', h1, _⟩ := h
    have := h1 (by intro h0; apply hne; simp [ints] at h0 ⊢; exact h0.2)
    have e := this.1
    injection e with e
    injection e with e
    rw [e]; exact this.2
  · obtain ⟨b', o', h1, h2⟩ := h
    have hne : ints k (xs ++ ys) ≠ [] := by
      intro h0
      have : ints k ys = [] := by simp [ints] at h0 ⊢; exact h0.2
      rw [this] at hu; simp at hu
    obtain ⟨e, _⟩ := h1 hne
    injection e with e
    injection e with e1 e2
    subst e1 e2
    have := h2 (m + j) u (by
      unfold ints at hu ⊢
      rw [List.map_append, List.getElem?_append_right (by simp; omega)]
      simpa [hm] using hu)
    rwa [← Nat.add_assoc] at this

set_option maxHeartbeats 8000000 in
set_option maxRecDepth 100000 in
theorem dequeEnds_walk (v v' : Value) (ops : List Deq.Op) (l : List Int) (w : World) (h : SlV w 2 v ops.length (Dq.opcs ops)) (h' : SlV w 1 v' l.length (ints .i64 l)) (hr : ops.length + l.length ≤ 4194304) :
    Calls Try.prog 3 #[v, v'] w fun e w' => e = .returned (.bool true) ∧ Below w.heap.size w w' := by
  obtain ⟨A, c, rfl, hle, hm, hlen, hc⟩ := h
  unfold maxLen at hm
  have h : SlV w 2 (.slice A ops.length c) ops.length (Dq.opcs ops) := ⟨A, c, rfl, hle, by unfold maxLen; exact hm, hlen, hc⟩
  obtain ⟨A', c', rfl, hle', hm', hlen', hc'⟩ := h'
  unfold maxLen at hm'
  have h' : SlV w 1 (.slice A' l.length c') l.length (ints .i64 l) := ⟨A', c', rfl, hle', by unfold maxLen; exact hm', hlen', hc'⟩
  clear hc hlen hlen'
  go_enter Try.func3, Try.ntmps3
  go_wp2_with fail
  refine (alive21_any w).mono ?_
  rintro e w1 ⟨rfl, hb1⟩
  go_wp2_with fail
  refine (clone_dq _ _ _ _ (show SlV w1 2 (.slice A ops.length c) ops.length (Dq.opcs ops) from (by repeat (first | assumption | exact SlI.nil _ _ | exact SlV.nil _ _ | apply SlI.alloc | apply SlV.alloc | (apply SlI.step; assumption) | (apply SlV.step; assumption)))) (Dq.opcs_one _) (by omega)).mono ?_
  rintro e w3 ⟨u3, rfl, hown3, hb3⟩
  have hbw3 : Below w.heap.size w w3 := (by repeat (first | exact Below.refl _ _ | assumption | apply below_alloc | apply below_drew | (apply below_next; assumption)))
  have hown := own_base hown3 (base' := w.heap.size) hb1.size
  clear hown3 hb1 hb3 h
  go_wp2_with fail
  go_loopw [5, 23] (fun v i wr => ∃ j : Nat, j ≤ l.length ∧ i = .int .i64 j ∧ wr.ownsRow w.heap.size 27 2 v (ops.length + j) (Dq.opcs (ops ++ Deq.pushes (l.take j))) ∧ Below w.heap.size w wr) (fun _ i _ => l.length - (intOf i).toNat)
  case atStart => exact ⟨0, Nat.zero_le _, rfl, by simpa [Deq.pushes] using hown, hbw3⟩
  case round =>
    clear hown hbw3
    obtain ⟨j, hj, rfl, hown, hb⟩ := hrel
    obtain ⟨A2, c2, rfl, hle2, hm2⟩ := own_slice hown
    have hm2' := hm2
    unfold maxLen at hm2
    have n63 : ops.length + j + 1 ≤ maxLen := by unfold maxLen; omega
    have n47 : (ops.length + j + 1) * 16 ≤ 140737488355328 := by omega
    by_cases hlt : j < l.length
    · obtain ⟨b, o, x, rfl, hbl, hx, hcc⟩ := hc'.one hlt
      have hcx : wr.cell? ⟨b, o + j, none⟩ = some (.int .i64 x) := (hb.cell hbl).trans hcc
      have ex : Deq.pushes (l.take (j + 1)) = Deq.pushes (l.take j) ++ [⟨1, x⟩] := by
        obtain ⟨h', rfl⟩ := List.getElem?_eq_some_iff.1 hx.out
        exact Deq.pushes_succ l j hlt
      have EX := Lib.hid ex
      clear ex hc' hcc h'
      go_wp2_with (at_builtin; (refine wp_push wr _ _ _ _ _ _ _ _ Try.underlying22 Dq.info_op rfl (by decide) hown (Dq.opc ⟨1, x⟩) rfl (Dq.opcs_one [⟨1, x⟩]) n63 n47 hb.size rfl rfl rfl rfl ?_); intro v' w4 hown4 _ _ hb4)
      go_roundw
      case rel => exact ⟨j + 1, by omega, by go_num, by rw [EX.out]; simpa [Dq.opcs, Nat.add_assoc] using hown4, hb.trans hb4⟩
      case measure => simp [intOf]; omega
    · have hjl : j = l.length := by omega
      rw [hjl, List.take_length] at hown
      obtain ⟨all, hall⟩ : ∃ all, all = ops ++ Deq.pushes l := ⟨_, rfl⟩
      have hal : all.length = ops.length + l.length := by rw [hall]; simp [Deq.pushes]
      rw [← hall, ← hal] at hown
      have eN : ops.length + j = all.length := by omega
      rw [eN] at hle2 ⊢
      have hsa := SlV.of_own hown
      obtain ⟨lf, hlf⟩ : ∃ lf, lf = Deq.after [] all := ⟨_, rfl⟩
      obtain ⟨fr, hfr⟩ : ∃ fr, fr = Deq.after [] ops := ⟨_, rfl⟩
      have hlfr : lf = fr ++ l := by rw [hlf, hall, Deq.after_append, Deq.after_pushes, hfr]
      have hlfl : lf.length = fr.length + l.length := by rw [hlfr]; simp
      have hlfN : lf.length ≤ all.length := by rw [hlf]; have := Deq.after_length [] all; simpa using this
      have hallN : all.length ≤ 4194304 := by omega
      have HLF := Lib.hid hlf
      have HLFR := Lib.hid hlfr
      have HLL := Lib.hid hlfl
      have hll : l.length ≤ lf.length := by omega
      have hdl : decide (lf.length < l.length) = false := by simp; omega
      have hsl := h'.below hb
      clear hown hall hal eN hjl hlf hfr hlfr hlfl n63 n47 h' hc' hm2' hj
      go_wp2_with fail
      refine (dqplay_any _ all _ hsa (by omega)).mono ?_
      rintro e w2 ⟨u2, v2, rfl, -, g2, hb2⟩
      rw [← HLF.out] at g2
      have hbw2 := below_next hb2 hb
      have hsa2 := hsa.below hb2
      have hsl2 := hsl.below hb2
      clear hsa hsl hb hb2
      go_wp2_with fail
      refine (clone_dq _ _ _ _ hsa2 (Dq.opcs_one _) (by omega)).mono ?_
      rintro e w4 ⟨u4, rfl, hown4, hb4⟩
      have hsa4 := hsa2.below hb4
      have hsl4 := hsl2.below hb4
      have g4 := g2.below hb4
      have hbw4 := below_next hb4 hbw2
      have hlt4 : ∀ i, u4.ownBlock = some i → i < w4.heap.size := fun i hi => (hown4.lt i hi).2
      go_wp2_with fail
      refine (clone_dq _ _ _ _ hsa4 (Dq.opcs_one _) (by omega)).mono ?_
      rintro e w5 ⟨u5, rfl, hown5, hb5⟩
      have hsl5 := hsl4.below hb5
      have g5 := g4.below hb5
      have hbw5 := below_next hb5 hbw4
      have hap5 : ∀ i, u4.ownBlock = some i → u5.ownBlock ≠ some i := fun i hi hi' => by
        have h1 := hlt4 i hi
        have h2 := own_ge hown5 i hi'
        omega
      have o4 : w5.ownsRow w2.heap.size 27 2 u4 all.length (Dq.opcs all) := own_keeps hown4 (Keeps.of_below hb5 (fun _ => False)) (fun _ _ h => h)
      have o5 : w5.ownsRow w2.heap.size 27 2 u5 all.length (Dq.opcs all) := own_base hown5 hb4.size
      have hb25 : w2.heap.size ≤ w5.heap.size := Nat.le_trans hb4.size hb5.size
      have g5' := g2
      obtain ⟨A9, c9, rfl, hle9, hm9, hl9, hc9⟩ := g5'
      have hm9' := hm9
      unfold maxLen at hm9
      have hb225 : Below w2.heap.size w2 w5 := below_next hb5 hb4
      clear hown4 hown5 hsa2 hsa4 hsl4 g4 hbw4 hb4 hb5 hlt4 hl9 hsl5 g5 hbw5
      go_wp2_with fail
      go_loopw [10, 11, 44] (fun vs vp i wr => ∃ k : Nat, k ≤ lf.length ∧ i = .int .i64 k ∧ wr.ownsRow w2.heap.size 27 2 vs (all.length + k) (Dq.opcs (all ++ Deq.steals k)) ∧ wr.ownsRow w2.heap.size 27 2 vp (all.length + k) (Dq.opcs (all ++ Deq.pops k)) ∧ (∀ i, vs.ownBlock = some i → vp.ownBlock ≠ some i) ∧ Below w2.heap.size w2 wr) (fun _ _ i _ => lf.length - (intOf i).toNat)
      case atStart => exact ⟨0, Nat.zero_le _, rfl, by simpa [Deq.steals] using o4, by simpa [Deq.pops] using o5, hap5, hb225⟩
      case round =>
        clear o4 o5 hap5 hb225 hb25
        obtain ⟨k, hk, rfl, r1, r2, hap, hbr⟩ := hrel
        have hbs := hbr.size
        by_cases hlt : k < lf.length
        · have n63 : all.length + k + 1 ≤ maxLen := by unfold maxLen; omega
          have n47 : (all.length + k + 1) * 16 ≤ 140737488355328 := by omega
          have hT := Two.start r1 r2 hbs hap
          have hg1 := own_ge r1
          have hg2 := own_ge r2
          clear r1 r2 hap hc9 g2 hsl2
          go_wp2_with (at_builtin; first
            | (refine twl_append1 (by first | assumption | exact Two.drew (by assumption) | exact Two.drew (Two.alloc (by assumption) _ _) | exact Two.alloc (by assumption) _ _ | exact Two.drew (Two.alloc (Two.alloc (by assumption) _ _) _ _) | exact Two.alloc (Two.alloc (by assumption) _ _) _ _) Try.underlying22 Dq.info_op rfl (by decide) (show (_, 27, Dq.opc ⟨3, 0⟩) ∈ _ from by simp [Dq.opc]) rfl (Dq.opcs_one [⟨3, 0⟩]) n63 n47 rfl rfl rfl rfl ?_; intro v' w' hT)
            | (refine twl_append2 (by first | assumption | exact Two.drew (by assumption) | exact Two.drew (Two.alloc (by assumption) _ _) | exact Two.alloc (by assumption) _ _ | exact Two.drew (Two.alloc (Two.alloc (by assumption) _ _) _ _) | exact Two.alloc (Two.alloc (by assumption) _ _) _ _) Try.underlying22 Dq.info_op rfl (by decide) (show (_, 27, Dq.opc ⟨2, 0⟩) ∈ _ from by simp [Dq.opc]) rfl (Dq.opcs_one [⟨2, 0⟩]) n63 n47 rfl rfl rfl rfl ?_; intro v' w' hT))
          all_goals
            have hkF : Below w2.heap.size w2 _ := hbr.trans (hT.k.below hbs (fun i hi => hi.elim (hg1 i) (hg2 i)))
            have q1 := hT.r1
            have q2 := hT.r2
            have q3 := hT.ap
            clear hT hg1 hg2 hbr
            go_roundw
            case rel => exact ⟨k + 1, by omega, by go_num, by rw [Deq.steals_succ]; simpa [Dq.opcs, Nat.add_assoc] using q1, by rw [Deq.pops_succ]; simpa [Dq.opcs, Nat.add_assoc] using q2, q3, hkF⟩
            case measure => simp [intOf]; omega
        · have hkn : k = lf.length := by omega
          rw [hkn] at r1 r2
          rw [hkn]
          obtain ⟨S1, c1, rfl, hs1, hs1m⟩ := own_slice r1
          obtain ⟨S2, c2', rfl, hs2, hs2m⟩ := own_slice r2
          have es : (all ++ Deq.steals lf.length).length = all.length + lf.length := by simp [Deq.steals]
          have ep : (all ++ Deq.pops lf.length).length = all.length + lf.length := by simp [Deq.pops]
          have hsS : SlV wr 2 (.slice S1 (all.length + lf.length) c1) (all ++ Deq.steals lf.length).length (Dq.opcs (all ++ Deq.steals lf.length)) := by rw [es]; exact SlV.of_own r1
          have hsP : SlV wr 2 (.slice S2 (all.length + lf.length) c2') (all ++ Deq.pops lf.length).length (Dq.opcs (all ++ Deq.pops lf.length)) := by rw [ep]; exact SlV.of_own r2
          have sa := Deq.steals_all lf
          have pa := Deq.pops_all lf
          have aS : Deq.after [] (all ++ Deq.steals lf.length) = [] := by rw [Deq.after_append, ← HLF.out]; exact sa.1
          have aP : Deq.after [] (all ++ Deq.pops lf.length) = [] := by rw [Deq.after_append, ← HLF.out]; exact pa.1
          have nS : Deq.answers [] (all ++ Deq.steals lf.length) = Deq.answers [] all ++ Deq.answers lf (Deq.steals lf.length) := by rw [Deq.answers_append, ← HLF.out]
          have nP : Deq.answers [] (all ++ Deq.pops lf.length) = Deq.answers [] all ++ Deq.answers lf (Deq.pops lf.length) := by rw [Deq.answers_append, ← HLF.out]
          have an := Deq.answers_length [] all
          have tS : ∀ i (hi : i < lf.length), ∃ q : Deq.Ans, (Deq.answers [] (all ++ Deq.steals lf.length))[all.length + i]? = some q ∧ q.2 = lf.getD i 0 := fun i hi => by
            rw [nS, List.getElem?_append_right (by omega), an, Nat.add_sub_cancel_left]
            have h0 : ((Deq.answers lf (Deq.steals lf.length)).map (·.2))[i]? = some lf[i] := by rw [sa.2]; exact List.getElem?_eq_getElem hi
            rw [List.getElem?_map] at h0
            obtain ⟨q, h1, h2⟩ := Option.map_eq_some_iff.1 h0
            exact ⟨q, h1, by rw [h2]; simp [List.getD, List.getElem?_eq_getElem hi]⟩
          have tP : ∀ i (hi : i < lf.length), ∃ q : Deq.Ans, (Deq.answers [] (all ++ Deq.pops lf.length))[all.length + i]? = some q ∧ q.2 = lf.getD (lf.length - 1 - i) 0 := fun i hi => by
            rw [nP, List.getElem?_append_right (by omega), an, Nat.add_sub_cancel_left]
            have h0 : ((Deq.answers lf (Deq.pops lf.length)).map (·.2))[i]? = some lf[lf.length - 1 - i] := by rw [pa.2, List.getElem?_reverse hi]; exact List.getElem?_eq_getElem (by omega)
            rw [List.getElem?_map] at h0
            obtain ⟨q, h1, h2⟩ := Option.map_eq_some_iff.1 h0
            exact ⟨q, h1, by rw [h2]; simp [List.getD, List.getElem?_eq_getElem (show lf.length - 1 - i < lf.length by omega)]⟩
          have TS := Lib.hid tS
          have TP := Lib.hid tP
          have AS := Lib.hid aS
          have AP := Lib.hid aP
          have ES := Lib.hid es
          have EP := Lib.hid ep
          unfold maxLen at hs1m hs2m
          have hbw := below_next hbr hbw2
          have g3 := g2.below hbr
          have hsl3 := hsl2.below hbr
          clear sa pa aS aP nS nP an tS tP es ep r1 r2 hkn hk hlt hap hc9 g2 hsl2 hbr hbs
          go_wp2_with fail
          refine (dqplay_any _ _ _ hsS (by rw [ES.out]; omega)).mono ?_
          rintro e w6 ⟨u6, v6, rfl, h6, g6, hb6⟩
          have hsP6 := hsP.below hb6
          have g36 := g3.below hb6
          have hsl6 := hsl3.below hb6
          have hbw6 := below_next hb6 hbw
          rw [ES.out] at h6
          rw [AS.out] at g6
          clear hsP hsS g3 hsl3 hbw hb6
          go_wp2_with fail
          refine (dqplay_any _ _ _ hsP6 (by rw [EP.out]; omega)).mono ?_
          rintro e w8 ⟨u8, v8, rfl, h8, g8, hb8⟩
          have h6' := h6.below hb8
          have g6' := g6.below hb8
          have gL := g36.below hb8
          have hsL := hsl6.below hb8
          have hbw8 := below_next hb8 hbw6
          rw [EP.out] at h8
          rw [AP.out] at g8
          clear hsP6 h6 g6 g36 hsl6 hbw6 hb8
          obtain ⟨Z1, z1, rfl, hz1, hz1m, -, -⟩ := g6'
          obtain ⟨Z2, z2, rfl, hz2, hz2m, -, -⟩ := g8
          obtain ⟨B1, d1, rfl, hd1, hd1m, -, hcA⟩ := h6'
          obtain ⟨B2, d2, rfl, hd2, hd2m, -, hcB⟩ := h8
          obtain ⟨_, _, e9, _, _, _, hcL⟩ := gL
          cases e9
          simp only [List.length_nil] at hz1 hz2
          unfold maxLen at hz1m hz2m hd1m hd2m
          go_wp2_with fail
          trace "at 96"
          go_loopw [96] (fun i wr => ∃ k : Nat, k ≤ lf.length ∧ i = .int .i64 k ∧ (∃ a, wr = w8.drewN a)) (fun i _ => lf.length - (intOf i).toNat)
          case atStart => exact ⟨0, Nat.zero_le _, rfl, ⟨0, rfl⟩⟩
          case round =>
            obtain ⟨k, hk, rfl, ⟨a, rfl⟩⟩ := hrel
            by_cases hlt : k < lf.length
            · obtain ⟨⟨p1, p2⟩, hp, hp2⟩ := TS.out k hlt
              obtain ⟨⟨q1, q2⟩, hq, hq2⟩ := TP.out k hlt
              obtain ⟨ka, oa, rfl, _, ca0, ca⟩ := Dq.ans_cells hcA hp
              obtain ⟨kb, ob, rfl, _, cb0, cb⟩ := Dq.ans_cells hcB hq
              obtain ⟨k9, o9, rfl, _, hcs⟩ := hcL.int (j := k) hlt
              obtain ⟨m, hm0⟩ : ∃ m : Nat, m = lf.length - 1 - k := ⟨_, rfl⟩
              have c1x := hcs k hlt
              have c2x := hcs m (by omega)
              have x1 : lf.getD k 0 = p2 := hp2.symm
              have x2 : lf.getD m 0 = q2 := by rw [hm0]; exact hq2.symm
              rw [x1] at c1x
              rw [x2] at c2x
              have y1 : IntKind.i64.wrap ((all.length : Int) + (k : Int)) = (all.length : Int) + (k : Int) := IntWalk.i64_in _ (by omega)
              have y2 : IntKind.i64.wrap ((lf.length : Int) - 1) = (lf.length : Int) - 1 := IntWalk.i64_in _ (by omega)
              have y3 : IntKind.i64.wrap ((lf.length : Int) - 1 - (k : Int)) = (m : Int) := by rw [IntWalk.i64_in _ (by omega)]; omega
              have y4 : ((all.length : Int) + (k : Int)).toNat = all.length + k := by omega
              have z0 : (0 : Int) ≤ (all.length : Int) + (k : Int) := by omega
              have z0' : (all.length : Int) + (k : Int) < ((all.length + lf.length : Nat) : Int) := by omega
              have z3 : (m : Int) < (lf.length : Int) := by omega
              have z4 : (k : Int) < (lf.length : Int) := by omega
              have z5 : (0 : Int) ≤ (m : Int) := by omega
              have z6 : (0 : Int) ≤ (k : Int) := by omega
              have p3 : (p2 != p2) = false := by simp
              have p4 : (q2 != q2) = false := by simp
              clear hcs hp hq hp2 hq2 x1 x2 hm0 hcA hcB hcL ca0 cb0
              go_wp2_with fail
              go_quiet (fail)
              clear y1 y2 y3 y4
              go_wp2
              go_roundw
              case rel => exact ⟨k + 1, by omega, by go_num, ⟨_, rfl⟩⟩
              case measure => simp [intOf]; omega
            · have hbf := below_drewN hbw8 a
              have hsLd : SlV (w8.drewN a) 1 (.slice A' l.length c') l.length (ints .i64 l) := hsL
              have hsub : IntKind.i64.wrap ((lf.length : Int) - (l.length : Int)) = (fr.length : Int) := by rw [IntWalk.i64_in _ (by omega)]; have := HLL.out; omega
              have f1 : (fr.length : Int) ≤ (lf.length : Int) := by have := HLL.out; omega
              have f2 : (lf.length : Int) ≤ (c9 : Int) := by omega
              have f3 : fr.length ≤ lf.length := by omega
              have f4 : fr.length ≤ c9 := by omega
              by_cases hl0 : l = []
              · have e0 : lf.length - fr.length = 0 := by have := HLL.out; rw [hl0] at this; simp at this; omega
                have E0 := Lib.hid e0
                have L0 := Lib.hid hl0
                have hem : ∀ (A : Option Addr) (c : Nat), c ≤ c9 → SlV (w8.drewN a) 1 (.slice A 0 c) ([] : List Int).length (ints .i64 []) := fun A c hc => ⟨A, c, rfl, Nat.zero_le _, by unfold maxLen; omega, rfl, Cells.nil _ _ _⟩
                have hsL0 : SlV (w8.drewN a) 1 (.slice A' l.length c') ([] : List Int).length (ints .i64 []) := by rw [L0.out] at hsLd ⊢; exact hsLd
                clear e0 hl0 hcA hcB hcL hsLd
                rcases A9 with _ | ⟨b9, o9, sp9⟩
                · go_wp2_with fail
                  simp only [E0.out]
                  refine (equal_ints _ _ [] [] _ (hem _ _ (by omega)) hsL0).mono ?_
                  rintro e w9 ⟨rfl, m9, rfl⟩
                  clear hem hsL0
                  go_wp2
                  go_ret
                  exact ⟨rfl, below_drewN hbw8 _⟩
                · by_cases hcap : fr.length < c9
                  · go_wp2_with fail
                    simp only [E0.out]
                    refine (equal_ints _ _ [] [] _ (hem _ _ (by omega)) hsL0).mono ?_
                    rintro e w9 ⟨rfl, m9, rfl⟩
                    clear hem hsL0
                    go_wp2
                    go_ret
                    exact ⟨rfl, below_drewN hbw8 _⟩
                  · have hcap2 := Lib.hid (show c9 = fr.length by omega)
                    go_wp2_with fail
                    simp only [E0.out]
                    refine (equal_ints _ _ [] [] _ (hem _ _ (by omega)) hsL0).mono ?_
                    rintro e w9 ⟨rfl, m9, rfl⟩
                    clear hem hsL0
                    go_wp2
                    go_ret
                    exact ⟨rfl, below_drewN hbw8 _⟩
              · have hlfr2 := HLFR.out
                have hcLd : Cells (w8.drewN a) (w8.drewN a).heap.size A9 (ints .i64 (fr ++ l)) := by rw [← hlfr2]; exact hcL
                have hlen2 : (fr ++ l).length = lf.length := by rw [hlfr2]
                have hl1 : 0 < l.length := List.length_pos_iff.2 hl0
                have hcap : fr.length < c9 := by have := HLL.out; omega
                obtain ⟨b9, o9, hA9, _, _⟩ := hcLd.at_ (by
                  intro h0
                  have := congrArg List.length h0
                  rw [ints_length, List.length_append] at this
                  simp only [List.length_nil] at this
                  omega)
                subst hA9
                have hsF := SlV.from_ hcLd hlen2 rfl (by omega) (by unfold maxLen; omega) hcap
                clear hcA hcB hcL hlfr2 hcLd hl0 hlen2
                go_wp2_with fail
                refine (equal_ints _ _ l l _ hsF hsLd).mono ?_
                rintro e w9 ⟨rfl, m9, rfl⟩
                clear hsF hsLd
                go_wp2
                go_ret
                exact ⟨ret_bool (by simp), below_drewN hbw8 _⟩
end Go.Proofs.Ytniekhedpdkmiaa
