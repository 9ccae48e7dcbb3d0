/-
  Both ends of a deque do not meet, while there are two: the law, walked.
-/
import Derived.Test.YtphbegadddamgaaDeqPlay
namespace Go.Proofs.Ytphbegadddamgaa
set_option linter.unusedVariables false
set_option linter.unusedSimpArgs false
open Go.RowKit

theorem equal_ints (v v' : Value) (xs ys : List Int) (w : World) (h : SlV w 1 v xs.length (ints .i64 xs)) (h' : SlV w 1 v' ys.length (ints .i64 ys)) :
    Calls Try.prog 29 #[v, v'] w fun e w' => e = .returned (.bool (decide (xs = ys))) ∧ ∃ m, w' = w.drewN m := by
  obtain ⟨A, c, rfl, hle, hm, hlen, hc⟩ := h
  obtain ⟨A', c', rfl, hle', hm', hlen', hc'⟩ := h'
  clear hlen hlen'
  unfold maxLen at hm hm'
  by_cases hn : xs.length = ys.length
  · have hne : ((xs.length : Int) != ys.length) = false := by simp [hn]
    have HN := Lib.hid hn
    clear hn
    go_enter Try.func29, Try.ntmps29
    go_wp2
    go_loopw [13] (fun i wr => ∃ k : Nat, k ≤ xs.length ∧ i = .int .i64 k ∧ (∃ a, wr = w.drewN a) ∧ xs.take k = ys.take k) (fun i _ => xs.length - (intOf i).toNat)
    case atStart => exact ⟨0, Nat.zero_le _, rfl, ⟨0, rfl⟩, rfl⟩
    case round =>
      obtain ⟨k, hk, rfl, ⟨a, rfl⟩, ht⟩ := hrel
      have HT := Lib.hid ht
      clear ht
      by_cases hlt : k < xs.length
      · have hlt' : k < ys.length := by rw [← HN.out]; exact hlt
        obtain ⟨b, o, x, rfl, hb, hx, hcc⟩ := hc.one hlt
        obtain ⟨b', o', y, rfl, hb', hy, hcc'⟩ := hc'.one hlt'
        clear hc hc'
        have hsn : ∀ (z : Int) (l : List Int), l[k]? = some z → l.take (k + 1) = l.take k ++ [z] := fun z l h => by
          obtain ⟨h', rfl⟩ := List.getElem?_eq_some_iff.1 h
          exact List.take_succ_eq_append_getElem h'
        have HSN := Lib.hid hsn
        clear hsn
        rcases hg : x != y with _ | _
        · go_wp2
          go_quiet (fail)
          go_wp2
          go_roundw
          case rel => exact ⟨k + 1, by omega, by go_num, ⟨_, rfl⟩, by rw [HSN.out _ _ hx.out, HSN.out _ _ hy.out, HT.out, show x = y by simpa using hg]⟩
          case measure => simp [intOf]; omega
        · go_wp2
          go_quiet (fail)
          go_wp2
          go_ret
          refine ⟨ret_bool ?_, ⟨_, World.drewN_drewN _ _ _⟩⟩
          symm
          simp only [decide_eq_false_iff_not]
          rintro rfl
          rw [hx.out] at hy
          simp at hg
          exact hg (by simpa using hy.out)
      · have HK := Lib.hid (show k = xs.length by omega)
        clear hc hc'
        go_wp2
        go_ret
        refine ⟨ret_bool ?_, ⟨_, rfl⟩⟩
        symm
        simp only [decide_eq_true_eq]
        have := HT.out
        rw [HK.out, List.take_length, HN.out, List.take_length] at this
        exact this
  · have hne : ((xs.length : Int) != ys.length) = true := by simp; omega
    have hnl : xs ≠ ys := fun e => hn (by rw [e])
    have HNL := Lib.hid hnl
    clear hnl hc hc'
    go_enter Try.func29, Try.ntmps29
    go_wp2
    go_ret
    exact ⟨ret_bool (by simp [HNL.out]), ⟨0, rfl⟩⟩

theorem equal_ints_same (v v' : Value) (xs : List Int) (w : World) (h : SlV w 1 v xs.length (ints .i64 xs)) (h' : SlV w 1 v' xs.length (ints .i64 xs)) :
    Calls Try.prog 29 #[v, v'] w fun e w' => e = .returned (.bool true) ∧ ∃ m, w' = w.drewN m :=
  (equal_ints v v' xs xs w h h').mono fun e w' ⟨he, hm⟩ => ⟨by rw [he]; simp, hm⟩

theorem clone_dq (v : Value) (n : Nat) (xs : List Value) (w : World) (h : SlV w 2 v n xs) (h1 : ∀ u ∈ xs, u.oneCell' = true) (hr : n * 16 ≤ 140737488355328) :
    Calls Try.prog 27 #[v] w fun e w' => ∃ u, e = .returned u ∧ w'.ownsRow w.heap.size 48 2 u n xs ∧ Below w.heap.size w w' := by
  obtain ⟨A, c, rfl, hle, hm, hlen, hc⟩ := h
  unfold maxLen at hm
  have heq := fun (w : World) (A : Option Addr) (n c : Nat) => Lib.run_eql_slice_nil (P := Try.prog) w _ _ A n c 0 0 Try.underlying44
  rcases A with _ | a
  · have h0 : xs = [] := by
      rcases xs with _ | ⟨x, xs⟩
      · rfl
      · obtain ⟨b, o, h1, _⟩ := hc
        have := (h1 (by simp)).1
        cases this
    have hn : n = 0 := by subst h0; simp at hlen; omega
    subst h0
    subst hn
    go_enter Try.func27, Try.ntmps27
    go_wp2
    go_ret
    exact ⟨_, rfl, World.ownsRow_nil _ _ _ _, Below.refl _ _⟩
  · go_enter Try.func27, Try.ntmps27
    have hmade := World.ownsRow_made (e := 48) (size := 2) (base := w.heap.size) w #[] 0 (Nat.le_refl _) (Nat.zero_le _) rfl
    have hc' := hc.keep (w' := w.alloc (.cells #[] 48)) (Nat.le_refl _) (fun p hp => World.cell?_alloc_lt w _ p hp)
    have n63 : 0 + n ≤ maxLen := by unfold maxLen; omega
    have n47 : (0 + n) * 16 ≤ 140737488355328 := by omega
    go_wp2_with (at_builtin; refine wp_append _ _ _ _ _ _ _ _ _ Try.underlying44 Dq.info_op rfl (by decide) hmade hc' hlen h1 n63 n47 (by simp) rfl rfl rfl rfl ?_; intro v' w' hown _ _ hb)
    go_ret
    refine ⟨_, rfl, by simpa using hown, ((Below.refl _ _).alloc (Nat.le_refl _) _).trans hb⟩

theorem SlV.drewN {w : World} {sz n : Nat} {v : Value} {vs : List Value} (h : SlV w sz v n vs) (k : Nat) : SlV (w.drewN k) sz v n vs := h

namespace Dq
theorem SlV.lit (w : World) (vs : List Value) (e : TypeId) (sz n : Nat) (hv : vs.length = n * sz) (hn : n ≤ 1000) : SlV (w.alloc (.cells vs.toArray e)) sz (.slice (some ⟨w.heap.size, 0, none⟩) n n) n vs := by
  have := World.ownsRow_lit (e := e) (size := sz) (base := w.heap.size) w vs.toArray n (Nat.le_refl _) (by unfold maxLen; omega) (by simpa using hv)
  exact SlV.of_own (by simpa using this)
theorem ans_cells {w : World} {B : Nat} {A : Option Addr} {l : List Deq.Ans} (h : Cells w B A (anscs l)) {k : Nat} {a : Deq.Ans} (ho : l[k]? = some a) :
    ∃ b off, A = some ⟨b, off, none⟩ ∧ b < B ∧ w.cell? ⟨b, off + k * 2, none⟩ = some (.int .i64 a.1) ∧ w.cell? ⟨b, off + k * 2 + 1, none⟩ = some (.int .i64 a.2) := by
  have g : ∀ j, j < 2 → (anscs l)[k * 2 + j]? = (ansc a)[j]? := fun j hj => flat_get ansc 2 (fun _ => rfl) l k j a ho hj
  obtain ⟨b, off, hA, hb, hc⟩ := h.at_ (by
    intro h0
    have := g 0 (by decide)
    rw [h0] at this
    simp [ansc] at this)
  exact ⟨b, off, hA, hb, hc _ _ (g 0 (by decide)), hc _ _ (g 1 (by decide))⟩
theorem opcs_one (l : List Deq.Op) : ∀ u ∈ opcs l, u.oneCell' = true := by
  intro u hu
  obtain ⟨o, _, ho⟩ := List.mem_flatMap.1 hu
  exact ints_one2 (l := [o.kind, o.n]) u ho
end Dq

def alive21ops : List Deq.Op := [⟨1, 4⟩, ⟨1, 5⟩, ⟨1, 6⟩, ⟨3, 0⟩, ⟨2, 0⟩]
theorem alive21play : Deq.answers [] alive21ops = [(0, 0), (0, 0), (0, 0), (0, 4), (0, 6)] ∧ Deq.after [] alive21ops = [5] := by decide +kernel

theorem alive21_any (w : World) : Calls Try.prog 26 #[] w fun e w' => e = .returned (.bool true) ∧ Below w.heap.size w w' := by
  go_enter Try.func26, Try.ntmps26
  go_wp2_with fail
  refine (dqplay_any _ alive21ops _ (Dq.SlV.lit w (Dq.opcs alive21ops) 48 2 5 rfl (by decide)) (by decide)).mono ?_
  rintro e w1 ⟨u, u', rfl, hs, hs', hb⟩
  rw [alive21play.1] at hs
  rw [alive21play.2] at hs'
  obtain ⟨A, c, rfl, hle, hm, -, hc⟩ := hs
  obtain ⟨b, off, rfl, -, hcs⟩ := hc.at_ (by decide)
  have c7 := hcs 7 _ rfl
  have c9 := hcs 9 _ rfl
  clear hcs hc
  go_wp2_with fail
  refine (equal_ints _ _ [5] [5] _ (hs'.alloc _) (by have := Dq.SlV.lit w1 (ints .i64 [5]) 3 1 1 rfl (by decide); exact this)).mono ?_
  rintro e w2 ⟨rfl, m, rfl⟩
  go_wp2
  go_ret
  exact ⟨rfl, below_drewN (below_alloc ((below_alloc (Below.refl _ _) _).trans (hb.mono (by simp))) _) _⟩

theorem dequeTwo_walk (v : Value) (ops : List Deq.Op) (w : World) (h : SlV w 2 v ops.length (Dq.opcs ops)) (hr : ops.length ≤ 8796093022000) :
    Calls Try.prog 10 #[v] w fun e w' => e = .returned (.bool true) ∧ Below w.heap.size w w' := by
  obtain ⟨l, hl⟩ : ∃ l, l = Deq.after [] ops := ⟨_, rfl⟩
  obtain ⟨A, c, rfl, hle, hm, hlen, hc⟩ := h
  unfold maxLen at hm
  have h : SlV w 2 (.slice A ops.length c) ops.length (Dq.opcs ops) := ⟨A, c, rfl, hle, by unfold maxLen; exact hm, hlen, hc⟩
  clear hc hlen
  have HL := Lib.hid hl
  clear hl
  by_cases hlt : l.length < 2
  · go_enter Try.func10, Try.ntmps10
    go_wp2_with fail
    refine (alive21_any w).mono ?_
    rintro e w1 ⟨rfl, hb1⟩
    go_wp2_with fail
    refine (dqplay_any _ ops _ (by repeat (first | assumption | exact SlI.nil _ _ | exact SlV.nil _ _ | apply SlI.alloc | apply SlV.alloc | (apply SlI.step; assumption) | (apply SlV.step; assumption))) (by omega)).mono ?_
    rintro e w2 ⟨u2, v2, rfl, h2, g2, hb2⟩
    rw [← HL.out] at g2
    obtain ⟨A2, c2, rfl, hle2, hm2, -, -⟩ := g2
    unfold maxLen at hm2
    go_wp2
    go_ret
    exact ⟨rfl, (by repeat (first | exact Below.refl _ _ | assumption | apply below_alloc | apply below_drew | (apply below_next; assumption)))⟩
  · have h2l : 2 ≤ l.length := by omega
    go_enter Try.func10, Try.ntmps10
    go_wp2_with fail
    refine (alive21_any w).mono ?_
    rintro e w1 ⟨rfl, hb1⟩
    go_wp2_with fail
    refine (dqplay_any _ ops _ (by repeat (first | assumption | exact SlI.nil _ _ | exact SlV.nil _ _ | apply SlI.alloc | apply SlV.alloc | (apply SlI.step; assumption) | (apply SlV.step; assumption))) (by omega)).mono ?_
    rintro e w2 ⟨u2, v2, rfl, h2, g2, hb2⟩
    rw [← HL.out] at g2
    obtain ⟨A2, c2, rfl, hle2, hm2, -, -⟩ := g2
    unfold maxLen at hm2
    go_wp2_with fail
    refine (clone_dq _ _ _ _ (show SlV w2 2 (.slice A ops.length c) ops.length (Dq.opcs ops) from (by repeat (first | assumption | exact SlI.nil _ _ | exact SlV.nil _ _ | apply SlI.alloc | apply SlV.alloc | (apply SlI.step; assumption) | (apply SlV.step; assumption)))) (Dq.opcs_one _) (by omega)).mono ?_
    rintro e w3 ⟨u3, rfl, hown3, hb3⟩
    have n63 : ops.length + 2 ≤ maxLen := by unfold maxLen; omega
    have n47 : (ops.length + 2) * 16 ≤ 140737488355328 := by omega
    have nb3 : w2.heap.size ≤ (w3.alloc (.cells (Dq.opcs [⟨3, 0⟩, ⟨2, 0⟩]).toArray 48)).heap.size := Nat.le_trans hb3.size (by simp)
    obtain ⟨A3, c3, rfl, hle3, hm3⟩ := own_slice hown3
    unfold maxLen at hm3
    go_wp2_with (at_builtin; refine wp_append _ _ _ _ _ _ _ _ _ Try.underlying44 Dq.info_op rfl (by decide) (hown3.alloc _) (Cells.new w3 (Dq.opcs [⟨3, 0⟩, ⟨2, 0⟩]) 48) rfl (Dq.opcs_one _) n63 n47 nb3 rfl rfl rfl rfl ?_; intro v4 w4 hown4 _ _ hb4)
    have hbw3 : Below w.heap.size w w3 := (by repeat (first | exact Below.refl _ _ | assumption | apply below_alloc | apply below_drew | (apply below_next; assumption)))
    have hw2 : w.heap.size ≤ w2.heap.size := by have := hb1.size; have := hb2.size; omega
    have hbw4 : Below w.heap.size w w4 := (below_alloc hbw3 _).trans (hb4.mono hw2)
    have hs4 : SlV w4 2 v4 (ops ++ ([⟨3, 0⟩, ⟨2, 0⟩] : List Deq.Op)).length (Dq.opcs (ops ++ ([⟨3, 0⟩, ⟨2, 0⟩] : List Deq.Op))) := by
      have := SlV.of_own hown4
      simpa [Dq.opcs] using this
    have hsl4 : SlV w4 2 (.slice A ops.length c) ops.length (Dq.opcs ops) := h.below hbw4
    clear hown3 hown4 hb4 hb3 hb2 hb1 hbw3 h2 nb3 h
    refine (dqplay_any _ _ _ hs4 (by rw [List.length_append]; simp only [List.length_cons, List.length_nil]; omega)).mono ?_
    rintro e w5 ⟨u5, v5, rfl, h5, g5, hb5⟩
    have hbw5 := below_next hb5 hbw4
    go_wp2_with fail
    refine (clone_dq _ _ _ _ (show SlV w5 2 (.slice A ops.length c) ops.length (Dq.opcs ops) from hsl4.below hb5) (Dq.opcs_one _) (by omega)).mono ?_
    rintro e w6 ⟨u6, rfl, hown6, hb6⟩
    have nb6 : w5.heap.size ≤ (w6.alloc (.cells (Dq.opcs [⟨2, 0⟩, ⟨3, 0⟩]).toArray 48)).heap.size := Nat.le_trans hb6.size (by simp)
    obtain ⟨A6, c6, rfl, hle6, hm6⟩ := own_slice hown6
    unfold maxLen at hm6
    go_wp2_with (at_builtin; refine wp_append _ _ _ _ _ _ _ _ _ Try.underlying44 Dq.info_op rfl (by decide) (hown6.alloc _) (Cells.new w6 (Dq.opcs [⟨2, 0⟩, ⟨3, 0⟩]) 48) rfl (Dq.opcs_one _) n63 n47 nb6 rfl rfl rfl rfl ?_; intro v7 w7 hown7 _ _ hb7)
    have hb57 : Below w5.heap.size w5 w7 := (below_alloc hb6 _).trans hb7
    have hbw7 : Below w.heap.size w w7 := below_next hb57 hbw5
    have hs7 : SlV w7 2 v7 (ops ++ ([⟨2, 0⟩, ⟨3, 0⟩] : List Deq.Op)).length (Dq.opcs (ops ++ ([⟨2, 0⟩, ⟨3, 0⟩] : List Deq.Op))) := by
      have := SlV.of_own hown7
      simpa [Dq.opcs] using this
    have h7 := h5.below hb57
    have g7 := g5.below hb57
    clear hown6 hown7 hb7 hb6 hb57 hbw4 hbw5 h5 g5 nb6
    refine (dqplay_any _ _ _ hs7 (by rw [List.length_append]; simp only [List.length_cons, List.length_nil]; omega)).mono ?_
    rintro e w8 ⟨u8, v8, rfl, h8, g8, hb8⟩
    have hbw8 := below_next hb8 hbw7
    have hA := h7.below hb8
    have gA := g7.below hb8
    clear h7 g7 hs7 hs4 hsl4 hbw7 hb8
    obtain ⟨q1, q2, q3⟩ := Deq.two_law l h2l
    have qa : Deq.answers [] (ops ++ ([⟨3, 0⟩, ⟨2, 0⟩] : List Deq.Op)) = Deq.answers [] ops ++ [Deq.ans l ⟨3, 0⟩, Deq.ans l ⟨2, 0⟩] := by
      rw [Deq.answers_append, ← HL.out]
      simp only [Deq.answers, q2]
    have qb : Deq.answers [] (ops ++ ([⟨2, 0⟩, ⟨3, 0⟩] : List Deq.Op)) = Deq.answers [] ops ++ [Deq.ans l ⟨2, 0⟩, Deq.ans l ⟨3, 0⟩] := by
      rw [Deq.answers_append, ← HL.out]
      simp only [Deq.answers, ← q1]
    have qc : Deq.after [] (ops ++ ([⟨2, 0⟩, ⟨3, 0⟩] : List Deq.Op)) = Deq.after [] (ops ++ ([⟨3, 0⟩, ⟨2, 0⟩] : List Deq.Op)) := by
      rw [Deq.after_append, Deq.after_append, ← HL.out]
      exact q3.symm
    rw [qa] at hA
    rw [qb] at h8
    rw [qc] at g8
    obtain ⟨m, hm0⟩ : ∃ m, m = Deq.after [] (ops ++ ([⟨3, 0⟩, ⟨2, 0⟩] : List Deq.Op)) := ⟨_, rfl⟩
    rw [← hm0] at g8 gA
    obtain ⟨⟨a1, a2⟩, ha⟩ : ∃ a, a = Deq.ans l ⟨3, 0⟩ := ⟨_, rfl⟩
    obtain ⟨⟨b1, b2⟩, hb⟩ : ∃ b, b = Deq.ans l ⟨2, 0⟩ := ⟨_, rfl⟩
    rw [← ha, ← hb] at hA h8
    have hn := Deq.answers_length [] ops
    have en : ∀ x y : Deq.Op, (ops ++ [x, y]).length = ops.length + 2 := fun x y => by simp
    rw [en] at hA h8
    obtain ⟨B1, d1, rfl, hleA, hmA, -, hcA⟩ := hA
    obtain ⟨B2, d2, rfl, hle8, hm8, -, hc8⟩ := h8
    have ga : ∀ (x y : Deq.Ans), (Deq.answers [] ops ++ [x, y])[ops.length]? = some x ∧ (Deq.answers [] ops ++ [x, y])[ops.length + 1]? = some y := fun x y => by
      rw [← hn]
      constructor
      · simp
      · rw [List.getElem?_append_right (by omega)]; simp
    obtain ⟨k1, o1, rfl, _, x0, x1⟩ := Dq.ans_cells hcA (ga _ _).1
    obtain ⟨k1', o1', he, _, x2, x3⟩ := Dq.ans_cells hcA (ga _ _).2
    cases he
    obtain ⟨k2, o2, rfl, _, y0, y1⟩ := Dq.ans_cells hc8 (ga _ _).1
    obtain ⟨k2', o2', he, _, y2, y3⟩ := Dq.ans_cells hc8 (ga _ _).2
    cases he
    unfold maxLen at hmA hm8
    clear ga hn en ha hb qa qb qc q1 q2 q3 hm0 hcA hc8
    go_wp2
    go_quiet ((go_at_call 29; exact Calls.quiet_of (equal_ints_same v5 v8 m _ (SlV.drewN gA _) (SlV.drewN g8 _))))
    go_wp2
    go_ret
    exact ⟨rfl, below_drewN hbw8 _⟩
end Go.Proofs.Ytphbegadddamgaa
