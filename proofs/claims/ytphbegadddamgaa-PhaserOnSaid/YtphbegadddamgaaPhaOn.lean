/-
  Phases go on one by one; what is refused changes nothing: the law, walked.
-/
import Derived.Test.YtphbegadddamgaaPhaLive
import Derived.Test.YtphbegadddamgaaTwo
import Derived.Deep.RegionHeld3
namespace Go.Proofs.Ytphbegadddamgaa
set_option linter.unusedVariables false
set_option linter.unusedSimpArgs false
open Go.RowKit

theorem equal_anss (v v' : Value) (xs : List Pha.Ans) (w : World) (h : SlV w 2 v xs.length (anscs xs)) (h' : SlV w 2 v' xs.length (anscs xs)) :
    Calls Try.prog 25 #[v, v'] w fun e w' => e = .returned (.bool true) ∧ ∃ m, w' = w.drewN m := by
  obtain ⟨A, c, rfl, hle, hm, hlen, hc⟩ := h
  obtain ⟨A', c', rfl, hle', hm', hlen', hc'⟩ := h'
  clear hlen hlen'
  unfold maxLen at hm hm'
  have hne : ((xs.length : Int) != xs.length) = false := by simp
  go_enter Try.func25, Try.ntmps25
  go_wp2
  go_loopw [13] (fun i wr => ∃ k : Nat, k ≤ xs.length ∧ i = .int .i64 k ∧ (∃ a, wr = w.drewN a)) (fun i _ => xs.length - (intOf i).toNat)
  case atStart => exact ⟨0, Nat.zero_le _, rfl, ⟨0, rfl⟩⟩
  case round =>
    obtain ⟨k, hk, rfl, ⟨a, rfl⟩⟩ := hrel
    by_cases hlt : k < xs.length
    · have hx : xs[k]? = some xs[k] := List.getElem?_eq_getElem hlt
      obtain ⟨b, o, rfl, hb, c0, c1⟩ := ans_cells hc hx
      obtain ⟨b', o', rfl, hb', c2, c3⟩ := ans_cells hc' hx
      obtain ⟨x, hx'⟩ : ∃ x, x = xs[k] := ⟨_, rfl⟩
      rw [← hx'] at c0 c1 c2 c3
      obtain ⟨x1, x2⟩ := x
      simp only at c0 c1 c2 c3
      clear hc hc' hx hx'
      go_wp2
      go_quiet (fail)
      go_wp2
      go_roundw
      case rel => exact ⟨k + 1, by omega, by go_num, ⟨_, rfl⟩⟩
      case measure => simp [intOf]; omega
    · clear hc hc'
      go_wp2
      go_ret
      exact ⟨rfl, ⟨_, rfl⟩⟩

theorem play_get (ops : List Pha.Op) (k : Nat) (h : k < ops.length) : (Pha.play ops)[k]? = some (Pha.ans (Pha.after Pha.start (ops.take k)) ops[k]) := by
  have e1 := Pha.play_take ops k h
  have e2 : Pha.play ops = Pha.play (ops.take (k + 1)) ++ Pha.answers (Pha.after Pha.start (ops.take (k + 1))) (ops.drop (k + 1)) := by
    rw [Pha.play, Pha.play, ← Pha.answers_append, List.take_append_drop]
  have e3 := Pha.answers_length Pha.start (ops.take k)
  rw [List.length_take, Nat.min_eq_left (Nat.le_of_lt h)] at e3
  rw [e2, e1, List.append_assoc, List.getElem?_append_right (by rw [Pha.play, e3]; exact Nat.le_refl _), Pha.play, e3]
  simp

theorem goods_succ (ops : List Pha.Op) (k : Nat) (h : k < ops.length) : Pha.goods Pha.start (ops.take (k + 1)) = Pha.goods Pha.start (ops.take k) ++ if Pha.good (Pha.after Pha.start (ops.take k)) ops[k] then [ops[k]] else [] := by
  rw [List.take_succ_eq_append_getElem h, Pha.goods_append]
  simp [Pha.goods]

def oks (l : List Pha.Ans) : List Pha.Ans := l.filter fun a => a.1 == 0
theorem oks_succ (ops : List Pha.Op) (k : Nat) (h : k < ops.length) : oks (Pha.play (ops.take (k + 1))) = oks (Pha.play (ops.take k)) ++ if Pha.good (Pha.after Pha.start (ops.take k)) ops[k] then [Pha.ans (Pha.after Pha.start (ops.take k)) ops[k]] else [] := by
  rw [Pha.play_take ops k h]
  unfold oks
  rw [List.filter_append]
  congr 1
  cases hg : Pha.good (Pha.after Pha.start (ops.take k)) ops[k]
  · have := mt Pha.ans_good.1 (by rw [hg]; simp)
    simp [this]
  · have := Pha.ans_good.2 hg
    simp [this]
theorem oks_goods (ops : List Pha.Op) : Pha.play (Pha.goods Pha.start ops) = oks (Pha.play ops) := Pha.goods_answers _ _
theorem goods_length (ops : List Pha.Op) : (Pha.goods Pha.start ops).length = (oks (Pha.play ops)).length := by
  rw [← oks_goods, Pha.play, Pha.answers_length]
theorem oks_le (l : List Pha.Ans) : (oks l).length ≤ l.length := List.length_filter_le _ _

set_option maxHeartbeats 8000000 in
set_option maxRecDepth 100000 in
theorem phaserOn_walk (v : Value) (ops : List Pha.Op) (w : World) (h : SlV w 3 v ops.length (opcs ops)) (hr : ops.length ≤ 5864062014700) :
    Calls Try.prog 8 #[v] w fun e w' => e = .returned (.bool true) ∧ Below w.heap.size w w' := by
  have hl1 := Pha.answers_length Pha.start ops
  obtain ⟨A, c, rfl, hle, hm, hlen, hc⟩ := h
  unfold maxLen at hm
  have h : SlV w 3 (.slice A ops.length c) ops.length (opcs ops) := ⟨A, c, rfl, hle, by unfold maxLen; exact hm, hlen, hc⟩
  go_enter Try.func8, Try.ntmps8
  go_wp2_with fail
  refine (alive23_any w).mono ?_
  rintro e w1 ⟨rfl, hb1⟩
  go_wp2_with fail
  refine (play_any _ ops _ (by repeat (first | assumption | exact SlI.nil _ _ | exact SlV.nil _ _ | apply SlI.alloc | apply SlV.alloc | (apply SlI.step; assumption) | (apply SlV.step; assumption))) (by omega)).mono ?_
  rintro e w2 ⟨u2, rfl, h2, hb2⟩
  obtain ⟨A2, c2, rfl, hle2, hm2, -, hc2⟩ := h2
  unfold maxLen at hm2
  have hb : Below w.heap.size w w2 := (by repeat (first | exact Below.refl _ _ | assumption | apply below_alloc | apply below_drew | (apply below_next; assumption)))
  have hcw := hc.keep (w' := w2) (Nat.le_refl _) (fun p hp => hb.cell hp)
  have hwl := hb.size
  clear hb1 hb2 h hc hlen hl1
  go_wp2_with fail
  go_loopw [4, 5, 6, 20] (fun ls vg vw i wr => ∃ k : Nat, k ≤ ops.length ∧ i = .int .i64 k ∧ ls = .int .i64 (Pha.after Pha.start (ops.take k)).phase ∧
      wr.ownsRow w2.heap.size 33 3 vg (oks (Pha.play (ops.take k))).length (opcs (Pha.goods Pha.start (ops.take k))) ∧ wr.ownsRow w2.heap.size 38 2 vw (oks (Pha.play (ops.take k))).length (anscs (oks (Pha.play (ops.take k)))) ∧ Below w2.heap.size w2 wr) (fun _ _ _ i _ => ops.length - (intOf i).toNat)
  case atStart => exact ⟨0, Nat.zero_le _, rfl, rfl, World.ownsRow_nil _ _ _ _, World.ownsRow_nil _ _ _ _, Below.refl _ _⟩
  case round =>
    obtain ⟨k, hk, rfl, rfl, hg, hw2, hbr⟩ := hrel
    have hbs := hbr.size
    by_cases hlt : k < ops.length
    · have ho : ops[k]? = some ops[k] := List.getElem?_eq_getElem hlt
      obtain ⟨b, off, hA, hbw, c0, c1, c3⟩ := op_cells (hcw.keep (w' := wr) (Nat.le_refl _) (fun p hp => hbr.cell (by omega))) ho
      subst hA
      obtain ⟨b2, o2, hA2, hb2', d0, d1⟩ := ans_cells (hc2.keep (w' := wr) (Nat.le_refl _) (fun p hp => hbr.cell hp)) (play_get ops k hlt)
      subst hA2
      have eg := goods_succ ops k hlt
      have ew := oks_succ ops k hlt
      have hlo := oks_le (Pha.play (ops.take k))
      have hpl := Pha.answers_length Pha.start (ops.take k)
      rw [List.length_take, Nat.min_eq_left hk] at hpl
      have hph := Pha.after_phase Pha.start (ops.take k)
      have hp0 : Pha.start.phase = 0 := rfl
      rw [hp0, List.length_take, Nat.min_eq_left hk] at hph
      have en := Pha.after_take ops k hlt
      have hlo' : (oks (Pha.play (ops.take k))).length ≤ k := by rw [Pha.play] at hlo ⊢; omega
      obtain ⟨p, hp⟩ : ∃ p, p = Pha.after Pha.start (ops.take k) := ⟨_, rfl⟩
      obtain ⟨o, hoo⟩ : ∃ o, o = ops[k] := ⟨_, rfl⟩
      rw [← hp] at d0 d1 eg ew hph en ⊢
      rw [← hoo] at c0 c1 c3 d0 d1 eg ew en
      obtain ⟨gs, hgs⟩ : ∃ gs, gs = Pha.goods Pha.start (ops.take k) := ⟨_, rfl⟩
      obtain ⟨ks, hks⟩ : ∃ ks, ks = oks (Pha.play (ops.take k)) := ⟨_, rfl⟩
      rw [← hgs] at hg eg
      rw [← hks] at hg hw2 ew hlo'
      clear hlo hpl hp hoo hgs hks ho hp0
      have hgd := Pha.ans_good (p := p) (o := o)
      have hag := fun h => Pha.ans_of_good (p := p) (o := o) h
      have hnx := Pha.next_phase p o
      have hwhat := Pha.act_what p o
      have hnb := fun h => Pha.next_bad (p := p) (o := o) h
      have hna : Pha.good p o = true → Pha.next p o = Pha.act p o := fun h => by simp [Pha.next, h]
      obtain ⟨⟨a1, a2⟩, ha⟩ : ∃ a, a = Pha.ans p o := ⟨_, rfl⟩
      rw [← ha] at d0 d1 hgd hag ew
      simp only at d0 d1 hgd
      have hqb : b < wr.heap.size := by omega
      rcases q0 : a1 == 0 with _ | _
      · have hng : Pha.good p o = false := by
          rw [Bool.eq_false_iff]
          exact fun h => by have := hgd.2 h; simp [this] at q0
        have hnp := hnb hng
        rw [hng] at eg ew
        simp only [Bool.false_eq_true, if_false, List.append_nil] at eg ew
        have EG := Lib.hid eg
        have EW := Lib.hid ew
        have EN := Lib.hid (en.trans hnp)
        clear eg ew en hnp hng hgd hag hnb hna hwhat ha hnx c0 c1 c3
        go_wp2
        go_roundw
        case rel => exact ⟨k + 1, by omega, by go_num, by rw [EN.out], by rw [EW.out, EG.out]; exact hg.alloc _, by rw [EW.out]; exact hw2.alloc _, below_alloc hbr _⟩
        case measure => simp [intOf]; omega
      · have hgood := hgd.1 (by simpa using q0)
        have ha2 : a2 = (Pha.next p o).phase := by have := hag hgood; injection this
        rw [hgood] at eg ew
        simp only [if_true] at eg ew
        have hkind : p.phase < a2 → o.kind = 2 ∨ o.kind = 3 := fun h => hwhat (by rw [← hna hgood, ← ha2]; exact h)
        rw [← ha2] at hnx
        have EG := Lib.hid eg
        have EW := Lib.hid ew
        have EN := Lib.hid (show (Pha.after Pha.start (ops.take (k + 1))).phase = a2 by rw [en, ← ha2])
        obtain ⟨ph, hph'⟩ : ∃ ph, ph = p.phase := ⟨_, rfl⟩
        rw [← hph'] at hnx hph hkind ⊢
        have q0' : a1 = 0 := by simpa using q0
        subst q0'
        clear eg ew en hgd hag hnb hna hwhat ha hgood ha2 q0 hph'
        obtain ⟨kd, wh, by_⟩ := o
        simp only at c0 c1 c3 hkind
        have hcase : (ph < a2 ∧ kd = 2) ∨ (ph < a2 ∧ kd = 3) ∨ ¬ ph < a2 := by
          by_cases hx : ph < a2
          · rcases hkind hx with h | h
            · exact .inl ⟨hx, h⟩
            · exact .inr (.inl ⟨hx, h⟩)
          · exact .inr (.inr hx)
        clear hkind
        have n63 : ks.length + 1 ≤ maxLen := by unfold maxLen; omega
        have n47 : (ks.length + 1) * 24 ≤ 140737488355328 := by omega
        have n47' : (ks.length + 1) * 16 ≤ 140737488355328 := by omega
        have hap := fun g => own_own_ne (g := g) (hg.alloc (.cells #[.int .i64 0, .int .i64 a2] 38)) (hw2.alloc (.cells #[.int .i64 0, .int .i64 a2] 38)) (by decide)
        have hT := Two.start (hg.alloc (.cells #[.int .i64 0, .int .i64 a2] 38)) (hw2.alloc (.cells #[.int .i64 0, .int .i64 a2] 38)) (by simp; omega) hap
        have hB0 : Blk (wr.alloc (.cells #[.int .i64 0, .int .i64 a2] 38)) wr.heap.size 38 [.int .i64 0, .int .i64 a2] := Blk.new wr _ _
        have hbelow : Below w2.heap.size w2 (wr.alloc (.cells #[.int .i64 0, .int .i64 a2] 38)) := below_alloc hbr _
        have e0 := (World.cell?_alloc_lt wr (.cells #[.int .i64 0, .int .i64 a2] 38) ⟨b, off + k * 3, none⟩ hqb).trans c0
        have e1 := (World.cell?_alloc_lt wr (.cells #[.int .i64 0, .int .i64 a2] 38) ⟨b, off + k * 3 + 1, none⟩ hqb).trans c1
        have e2 := (World.cell?_alloc_lt wr (.cells #[.int .i64 0, .int .i64 a2] 38) ⟨b, off + k * 3 + 2, none⟩ hqb).trans c3
        have nb : ∀ v e sz n xs, wr.ownsRow w2.heap.size e sz v n xs → v.ownBlock ≠ some b ∧ v.ownBlock ≠ some wr.heap.size := fun v e sz n xs h => ⟨fun h' => by have := own_ge h b h'; omega, fun h' => by have := (h.lt _ h').2; omega⟩
        have nbg := nb _ _ _ _ _ hg
        have nbw := nb _ _ _ _ _ hw2
        have hgeg := own_ge hg
        have hgew := own_ge hw2
        clear nb hap
        have hstep : ∀ w0, w0 = wr.alloc (.cells #[.int .i64 0, .int .i64 a2] 38) → w0.heap.size = wr.heap.size + 1 := fun w0 h => by rw [h]; simp
        rcases hcase with ⟨hx, rfl⟩ | ⟨hx, rfl⟩ | hx
        · go_wp2_with fail
          generalize hw0 : (wr.alloc (.cells #[.int .i64 0, .int .i64 a2] 38)) = w0 at hT hB0 hbelow e0 e1 e2 ⊢
          have hsz := hstep w0 hw0.symm
          clear hstep hw0 c0 c1 c3 d0 d1 hg hw2 hbr
          have keepS : ∀ w', Keeps (fun k => u5.ownBlock = some k ∨ u6.ownBlock = some k) w0 w' → (w'.cell? ⟨b, off + k * 3, none⟩ = some (.int .i64 2) ∧ w'.cell? ⟨b, off + k * 3 + 1, none⟩ = some (.int .i64 wh) ∧ w'.cell? ⟨b, off + k * 3 + 2, none⟩ = some (.int .i64 by_) ∧ w'.cell? ⟨wr.heap.size, 0, none⟩ = some (.int .i64 0) ∧ w'.cell? ⟨wr.heap.size, 1, none⟩ = some (.int .i64 a2)) := fun w' hk =>
            have n1 : ¬ (u5.ownBlock = some b ∨ u6.ownBlock = some b) := fun h => h.elim nbg.1 nbw.1
            have n2 : ¬ (u5.ownBlock = some wr.heap.size ∨ u6.ownBlock = some wr.heap.size) := fun h => h.elim nbg.2 nbw.2
            ⟨hk.cell e0 n1, hk.cell e1 n1, hk.cell e2 n1, by rw [(hB0.keeps hk n2).cell]; rfl, by rw [(hB0.keeps hk n2).cell]; rfl⟩
          go_region_held3 (fun w' => (w'.cell? ⟨b, off + k * 3, none⟩ = some (.int .i64 2) ∧ w'.cell? ⟨b, off + k * 3 + 1, none⟩ = some (.int .i64 wh) ∧ w'.cell? ⟨b, off + k * 3 + 2, none⟩ = some (.int .i64 by_) ∧ w'.cell? ⟨wr.heap.size, 0, none⟩ = some (.int .i64 0) ∧ w'.cell? ⟨wr.heap.size, 1, none⟩ = some (.int .i64 a2)))
            ((refine keepS _ (Two.k (by first | assumption | exact Two.drew (by assumption) | exact Two.drew (Two.alloc (by assumption) _ _) | exact Two.alloc (by assumption) _ _ | exact Two.drew (Two.alloc (Two.alloc (by assumption) _ _) _ _) | exact Two.alloc (Two.alloc (by assumption) _ _) _ _))))
            (first
              | (refine two_append1 (by first | assumption | exact Two.drew (by assumption) | exact Two.drew (Two.alloc (by assumption) _ _) | exact Two.alloc (by assumption) _ _ | exact Two.drew (Two.alloc (Two.alloc (by assumption) _ _) _ _) | exact Two.alloc (Two.alloc (by assumption) _ _) _ _) Try.underlying31 info_op rfl (by decide) (show (_, 33, opc ⟨2, wh, by_⟩) ∈ _ from by simp [opc, hsz]) rfl (opcs_one [⟨2, wh, by_⟩]) n63 n47 rfl rfl rfl rfl ?_; intro v' w' hT)
              | (refine two_append2 (by first | assumption | exact Two.drew (by assumption) | exact Two.drew (Two.alloc (by assumption) _ _) | exact Two.alloc (by assumption) _ _ | exact Two.drew (Two.alloc (Two.alloc (by assumption) _ _) _ _) | exact Two.alloc (Two.alloc (by assumption) _ _) _ _) Try.underlying34 info_ans rfl (by decide) (show (_, 38, ansc (0, a2)) ∈ _ from by simp [ansc, hsz]) rfl (ints_one' (l := [0, a2])) n63 n47' rfl rfl rfl rfl ?_; intro v' w' hT))
          all_goals
            have hkF : Below w2.heap.size w2 _ := hbelow.trans (hT.k.below (by omega) (fun i hi => hi.elim (hgeg i) (hgew i)))
            have rg := hT.r1
            have rw' := hT.r2
            rename_i hHeld
            clear hHeld keepS hT e0 e1 e2 hB0 hbelow hgeg hgew
            go_wp2
            go_roundw
            case rel =>
              refine ⟨k + 1, by omega, by go_num, by rw [EN.out], ?_, ?_, hkF⟩
              · rw [EW.out, EG.out]
                simpa [opcs] using rg
              · rw [EW.out]
                simpa [anscs] using rw'
            case measure => simp [intOf]; omega
        · go_wp2_with fail
          generalize hw0 : (wr.alloc (.cells #[.int .i64 0, .int .i64 a2] 38)) = w0 at hT hB0 hbelow e0 e1 e2 ⊢
          have hsz := hstep w0 hw0.symm
          clear hstep hw0 c0 c1 c3 d0 d1 hg hw2 hbr
          have keepS : ∀ w', Keeps (fun k => u5.ownBlock = some k ∨ u6.ownBlock = some k) w0 w' → (w'.cell? ⟨b, off + k * 3, none⟩ = some (.int .i64 3) ∧ w'.cell? ⟨b, off + k * 3 + 1, none⟩ = some (.int .i64 wh) ∧ w'.cell? ⟨b, off + k * 3 + 2, none⟩ = some (.int .i64 by_) ∧ w'.cell? ⟨wr.heap.size, 0, none⟩ = some (.int .i64 0) ∧ w'.cell? ⟨wr.heap.size, 1, none⟩ = some (.int .i64 a2)) := fun w' hk =>
            have n1 : ¬ (u5.ownBlock = some b ∨ u6.ownBlock = some b) := fun h => h.elim nbg.1 nbw.1
            have n2 : ¬ (u5.ownBlock = some wr.heap.size ∨ u6.ownBlock = some wr.heap.size) := fun h => h.elim nbg.2 nbw.2
            ⟨hk.cell e0 n1, hk.cell e1 n1, hk.cell e2 n1, by rw [(hB0.keeps hk n2).cell]; rfl, by rw [(hB0.keeps hk n2).cell]; rfl⟩
          go_region_held3 (fun w' => (w'.cell? ⟨b, off + k * 3, none⟩ = some (.int .i64 3) ∧ w'.cell? ⟨b, off + k * 3 + 1, none⟩ = some (.int .i64 wh) ∧ w'.cell? ⟨b, off + k * 3 + 2, none⟩ = some (.int .i64 by_) ∧ w'.cell? ⟨wr.heap.size, 0, none⟩ = some (.int .i64 0) ∧ w'.cell? ⟨wr.heap.size, 1, none⟩ = some (.int .i64 a2)))
            ((refine keepS _ (Two.k (by first | assumption | exact Two.drew (by assumption) | exact Two.drew (Two.alloc (by assumption) _ _) | exact Two.alloc (by assumption) _ _ | exact Two.drew (Two.alloc (Two.alloc (by assumption) _ _) _ _) | exact Two.alloc (Two.alloc (by assumption) _ _) _ _))))
            (first
              | (refine two_append1 (by first | assumption | exact Two.drew (by assumption) | exact Two.drew (Two.alloc (by assumption) _ _) | exact Two.alloc (by assumption) _ _ | exact Two.drew (Two.alloc (Two.alloc (by assumption) _ _) _ _) | exact Two.alloc (Two.alloc (by assumption) _ _) _ _) Try.underlying31 info_op rfl (by decide) (show (_, 33, opc ⟨3, wh, by_⟩) ∈ _ from by simp [opc, hsz]) rfl (opcs_one [⟨3, wh, by_⟩]) n63 n47 rfl rfl rfl rfl ?_; intro v' w' hT)
              | (refine two_append2 (by first | assumption | exact Two.drew (by assumption) | exact Two.drew (Two.alloc (by assumption) _ _) | exact Two.alloc (by assumption) _ _ | exact Two.drew (Two.alloc (Two.alloc (by assumption) _ _) _ _) | exact Two.alloc (Two.alloc (by assumption) _ _) _ _) Try.underlying34 info_ans rfl (by decide) (show (_, 38, ansc (0, a2)) ∈ _ from by simp [ansc, hsz]) rfl (ints_one' (l := [0, a2])) n63 n47' rfl rfl rfl rfl ?_; intro v' w' hT))
          all_goals
            have hkF : Below w2.heap.size w2 _ := hbelow.trans (hT.k.below (by omega) (fun i hi => hi.elim (hgeg i) (hgew i)))
            have rg := hT.r1
            have rw' := hT.r2
            rename_i hHeld
            clear hHeld keepS hT e0 e1 e2 hB0 hbelow hgeg hgew
            go_wp2
            go_roundw
            case rel =>
              refine ⟨k + 1, by omega, by go_num, by rw [EN.out], ?_, ?_, hkF⟩
              · rw [EW.out, EG.out]
                simpa [opcs] using rg
              · rw [EW.out]
                simpa [anscs] using rw'
            case measure => simp [intOf]; omega
        · go_wp2_with fail
          generalize hw0 : (wr.alloc (.cells #[.int .i64 0, .int .i64 a2] 38)) = w0 at hT hB0 hbelow e0 e1 e2 ⊢
          have hsz := hstep w0 hw0.symm
          clear hstep hw0 c0 c1 c3 d0 d1 hg hw2 hbr
          have keepS : ∀ w', Keeps (fun k => u5.ownBlock = some k ∨ u6.ownBlock = some k) w0 w' → (w'.cell? ⟨b, off + k * 3, none⟩ = some (.int .i64 kd) ∧ w'.cell? ⟨b, off + k * 3 + 1, none⟩ = some (.int .i64 wh) ∧ w'.cell? ⟨b, off + k * 3 + 2, none⟩ = some (.int .i64 by_) ∧ w'.cell? ⟨wr.heap.size, 0, none⟩ = some (.int .i64 0) ∧ w'.cell? ⟨wr.heap.size, 1, none⟩ = some (.int .i64 a2)) := fun w' hk =>
            have n1 : ¬ (u5.ownBlock = some b ∨ u6.ownBlock = some b) := fun h => h.elim nbg.1 nbw.1
            have n2 : ¬ (u5.ownBlock = some wr.heap.size ∨ u6.ownBlock = some wr.heap.size) := fun h => h.elim nbg.2 nbw.2
            ⟨hk.cell e0 n1, hk.cell e1 n1, hk.cell e2 n1, by rw [(hB0.keeps hk n2).cell]; rfl, by rw [(hB0.keeps hk n2).cell]; rfl⟩
          go_region_held3 (fun w' => (w'.cell? ⟨b, off + k * 3, none⟩ = some (.int .i64 kd) ∧ w'.cell? ⟨b, off + k * 3 + 1, none⟩ = some (.int .i64 wh) ∧ w'.cell? ⟨b, off + k * 3 + 2, none⟩ = some (.int .i64 by_) ∧ w'.cell? ⟨wr.heap.size, 0, none⟩ = some (.int .i64 0) ∧ w'.cell? ⟨wr.heap.size, 1, none⟩ = some (.int .i64 a2)))
            ((refine keepS _ (Two.k (by first | assumption | exact Two.drew (by assumption) | exact Two.drew (Two.alloc (by assumption) _ _) | exact Two.alloc (by assumption) _ _ | exact Two.drew (Two.alloc (Two.alloc (by assumption) _ _) _ _) | exact Two.alloc (Two.alloc (by assumption) _ _) _ _))))
            (first
              | (refine two_append1 (by first | assumption | exact Two.drew (by assumption) | exact Two.drew (Two.alloc (by assumption) _ _) | exact Two.alloc (by assumption) _ _ | exact Two.drew (Two.alloc (Two.alloc (by assumption) _ _) _ _) | exact Two.alloc (Two.alloc (by assumption) _ _) _ _) Try.underlying31 info_op rfl (by decide) (show (_, 33, opc ⟨kd, wh, by_⟩) ∈ _ from by simp [opc, hsz]) rfl (opcs_one [⟨kd, wh, by_⟩]) n63 n47 rfl rfl rfl rfl ?_; intro v' w' hT)
              | (refine two_append2 (by first | assumption | exact Two.drew (by assumption) | exact Two.drew (Two.alloc (by assumption) _ _) | exact Two.alloc (by assumption) _ _ | exact Two.drew (Two.alloc (Two.alloc (by assumption) _ _) _ _) | exact Two.alloc (Two.alloc (by assumption) _ _) _ _) Try.underlying34 info_ans rfl (by decide) (show (_, 38, ansc (0, a2)) ∈ _ from by simp [ansc, hsz]) rfl (ints_one' (l := [0, a2])) n63 n47' rfl rfl rfl rfl ?_; intro v' w' hT))
          all_goals
            have hkF : Below w2.heap.size w2 _ := hbelow.trans (hT.k.below (by omega) (fun i hi => hi.elim (hgeg i) (hgew i)))
            have rg := hT.r1
            have rw' := hT.r2
            rename_i hHeld
            clear hHeld keepS hT e0 e1 e2 hB0 hbelow hgeg hgew
            go_wp2
            go_roundw
            case rel =>
              refine ⟨k + 1, by omega, by go_num, by rw [EN.out], ?_, ?_, hkF⟩
              · rw [EW.out, EG.out]
                simpa [opcs] using rg
              · rw [EW.out]
                simpa [anscs] using rw'
            case measure => simp [intOf]; omega
    · have hk' : k = ops.length := by omega
      rw [hk', List.take_length] at hg hw2
      have hgl := goods_length ops
      rw [← hgl] at hg hw2
      have hsg := SlV.of_own hg
      have hsw := SlV.of_own hw2
      have hle3 := oks_le (Pha.play ops)
      have hpl := Pha.answers_length Pha.start ops
      have hgr : (Pha.goods Pha.start ops).length ≤ 5864062014805 := by rw [hgl]; rw [Pha.play] at hle3 ⊢; omega
      have HOG := Lib.hid (oks_goods ops)
      have HGL := Lib.hid hgl
      have hbw := below_next hbr hb
      clear hg hw2 hk' hgl hle3 hpl hcw hc2
      go_wp2_with fail
      refine (play_any _ _ _ hsg hgr).mono ?_
      rintro e w5 ⟨u5, rfl, hs5, hb5⟩
      rw [HOG.out, HGL.out] at hs5
      have hsw5 := hsw.below hb5
      rw [HGL.out] at hsw5
      go_wp2_with fail
      refine (equal_anss _ _ _ _ hs5 hsw5).mono ?_
      rintro e w6 ⟨rfl, m, rfl⟩
      go_wp2
      go_ret
      exact ⟨rfl, below_drewN (below_next hb5 hbw) _⟩
end Go.Proofs.Ytphbegadddamgaa
