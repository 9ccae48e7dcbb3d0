/-
  Each join of two makes one less: the law, walked.
-/
import Derived.Test.YtphbegadddamgaaUf7
namespace Go.Proofs.Ytphbegadddamgaa
set_option linter.unusedVariables false
set_option linter.unusedSimpArgs false
open Go.RowKit

namespace Uf
/-- is i the first of its set, among those below j? -/
def lone (l : List Nat) (i j : Nat) : Bool := decide (at_ l i ∉ l.take j)
theorem lone_zero (l : List Nat) (i : Nat) : lone l i 0 = true := by simp [lone]
theorem lone_succ (l : List Nat) (i j : Nat) (h : j < l.length) : lone l i (j + 1) = (lone l i j && !(at_ l j == at_ l i)) := by
  have e : l[j] = at_ l j := by have := at_get h; rw [List.getElem?_eq_getElem h] at this; injection this
  unfold lone
  rw [List.take_succ_eq_append_getElem h, e, Bool.eq_iff_iff]
  simp only [decide_eq_true_eq, Bool.and_eq_true, Bool.not_eq_true', beq_eq_false_iff_ne, List.mem_append, List.mem_singleton, not_or]
  constructor
  · rintro ⟨h1, h2⟩; exact ⟨h1, fun e => h2 e.symm⟩
  · rintro ⟨h1, h2⟩; exact ⟨h1, fun e => h2 e.symm⟩
def headsTo (l : List Nat) (i : Nat) : Nat := (List.range i).countP fun i => lone l i i
theorem headsTo_succ (l : List Nat) (i : Nat) : headsTo l (i + 1) = headsTo l i + if lone l i i then 1 else 0 := by
  unfold headsTo
  rw [List.range_succ, List.countP_append]
  simp [List.countP_cons]
theorem headsTo_all (l : List Nat) : headsTo l l.length = heads l := rfl
theorem headsTo_le (l : List Nat) (i : Nat) : headsTo l i ≤ i := by
  have := List.countP_le_length (p := fun i => lone l i i) (l := List.range i)
  simpa [headsTo] using this
theorem joins_le (l : List Nat) (ops : List Op) : joins l ops ≤ ops.length := by
  induction ops generalizing l with
  | nil => exact Nat.le_refl _
  | cons o ops ih => have := ih (next l o); simp only [joins, List.length_cons]; split <;> omega
end Uf

set_option maxHeartbeats 4000000 in
theorem ufindCount_walk (v : Value) (ops : List Uf.Op) (n : Int) (w : World) (h : SlV w 3 v ops.length (Ufd.opcs ops)) (hr : ops.length ≤ 5864062014804) :
    Calls Try.prog 12 #[.int .i64 n, v] w fun e w' => e = .returned (.bool true) ∧ Below w.heap.size w w' := by
  obtain ⟨A, c, rfl, hle, hm, hlen, hc⟩ := h
  unfold maxLen at hm
  have h : SlV w 3 (.slice A ops.length c) ops.length (Ufd.opcs ops) := ⟨A, c, rfl, hle, by unfold maxLen; exact hm, hlen, hc⟩
  clear hlen
  by_cases hn : n < 0 ∨ 200 < n
  · go_enter Try.func12, Try.ntmps12
    go_wp2_with fail
    refine (alive8_any _).mono ?_
    rintro e w1 ⟨rfl, hb1⟩
    go_wp2_with fail
    refine (ufplay_bad _ ops n _ hn).mono ?_
    rintro e w2 ⟨rfl, rfl⟩
    go_wp2
    go_ret
    exact ⟨rfl, hb1⟩
  obtain ⟨n, rfl⟩ := Int.eq_ofNat_of_zero_le (show 0 ≤ n by omega)
  have hn : n ≤ 200 := by omega
  obtain ⟨l, hl⟩ : ∃ l, l = Uf.after (Uf.start n) ops := ⟨_, rfl⟩
  have hll : l.length = n := by rw [hl, Uf.after_length]; simp [Uf.start]
  have hsum : Uf.heads l + Uf.joins (Uf.start n) ops = n := by rw [hl, Uf.heads_after, Uf.heads_start]
  have HL := Lib.hid hl
  have HLL := Lib.hid hll
  have HSUM := Lib.hid hsum
  have al := Uf.answers_length (Uf.start n) ops
  have HAL := Lib.hid al
  clear al hl hll hsum
  go_enter Try.func12, Try.ntmps12
  go_wp2_with fail
  refine (alive8_any _).mono ?_
  rintro e w1 ⟨rfl, hb1⟩
  go_wp2_with fail
  refine (ufplay_any _ ops n _ hn (by repeat (first | assumption | exact SlI.nil _ _ | exact SlV.nil _ _ | apply SlI.alloc | apply SlV.alloc | (apply SlI.step; assumption) | (apply SlV.step; assumption))) (by omega)).mono ?_
  rintro e w2 ⟨u2, rfl, h2, hb2⟩
  obtain ⟨A2, c2, rfl, hle2, hm2, -, hc2⟩ := h2
  have hb : Below w.heap.size w w2 := (by repeat (first | exact Below.refl _ _ | assumption | apply below_alloc | apply below_drew | (apply below_next; assumption)))
  unfold maxLen at hm2
  have hs2 : SlV w2 3 (.slice A ops.length c) ops.length (Ufd.opcs ops) := h.below hb
  have hcw := hc.keep (w' := w2) (Nat.le_refl _) (fun p hp => hb.cell hp)
  clear hb1 hb2 h hc
  go_wp2_with fail
  go_loopw [7, 40] (fun j i wr => ∃ k : Nat, k ≤ ops.length ∧ i = .int .i64 k ∧ j = .int .i64 (Uf.joins (Uf.start n) (ops.take k) : Nat) ∧ Below w2.heap.size w2 wr) (fun _ i _ => ops.length - (intOf i).toNat)
  case atStart => exact ⟨0, Nat.zero_le _, rfl, rfl, Below.refl _ _⟩
  case round =>
    obtain ⟨k, hk, rfl, rfl, hbr⟩ := hrel
    by_cases hlt : k < ops.length
    · have ho : ops[k]? = some ops[k] := List.getElem?_eq_getElem hlt
      have hwl := hb.size
      obtain ⟨b, off, hA, hbw, c0, c1, c3⟩ := Ufd.op_cells (hcw.keep (w' := wr) (Nat.le_refl _) (fun p hp => hbr.cell (by omega))) ho
      subst hA
      have ha : (Uf.answers (Uf.start n) ops)[k]? = some (Uf.ans (Uf.after (Uf.start n) (ops.take k)) ops[k]) := by
        have e1 := Uf.answers_take (Uf.start n) ops k hlt
        have e2 : Uf.answers (Uf.start n) ops = Uf.answers (Uf.start n) (ops.take (k + 1)) ++ Uf.answers (Uf.after (Uf.start n) (ops.take (k + 1))) (ops.drop (k + 1)) := by rw [← Uf.answers_append, List.take_append_drop]
        have e3 := Uf.answers_length (Uf.start n) (ops.take k)
        rw [List.length_take, Nat.min_eq_left hk] at e3
        rw [e2, e1, List.append_assoc, List.getElem?_append_right (by omega), e3]
        simp
      obtain ⟨x, hx⟩ : ∃ x, x = Uf.ans (Uf.after (Uf.start n) (ops.take k)) ops[k] := ⟨_, rfl⟩
      obtain ⟨o, hoo⟩ : ∃ o, o = ops[k] := ⟨_, rfl⟩
      have ej := Uf.joins_take (Uf.start n) ops k hlt
      have jl := Uf.joins_le (Uf.start n) (ops.take k)
      rw [List.length_take, Nat.min_eq_left hk] at jl
      rw [← hx] at ha
      rw [← hx, ← hoo] at ej
      rw [← hoo] at c0 c1 c3
      have EJ := Lib.hid ej
      obtain ⟨b2, o2, hA2, hb2', hcs⟩ := hc2.at_ (by
        intro h0
        have h1 := congrArg List.length h0
        rw [ints_length, HAL.out, List.length_nil] at h1
        omega)
      subst hA2
      have cx := hcs k (.int .i64 x) (by rw [ints, List.getElem?_map, ha]; rfl)
      have cx' := (hbr.cell (p := ⟨b2, o2 + k, none⟩) hb2').trans cx
      have hb2w : b2 < wr.heap.size := by have := hbr.size; omega
      obtain ⟨kd, oi, oj⟩ := o
      simp only at c0 c1 c3
      obtain ⟨jn, hjn⟩ : ∃ jn, jn = Uf.joins (Uf.start n) (ops.take k) := ⟨_, rfl⟩
      rw [← hjn] at EJ jl ⊢
      clear ej hx hoo ha hcs cx ho hc2 hjn hcw
      rcases q1 : kd == 1 with _ | _
      · go_wp2_with fail
        go_roundw
        case rel => exact ⟨k + 1, by omega, by go_num, by rw [EJ.out, if_neg (by simp at q1; simp [q1])]; rfl, below_alloc hbr _⟩
        case measure => simp [intOf]; omega
      · rcases q2 : x == 1 with _ | _
        · go_wp2
          go_roundw
          case rel => exact ⟨k + 1, by omega, by go_num, by rw [EJ.out, if_neg (by simp at q2; simp [q2])]; rfl, below_alloc hbr _⟩
          case measure => simp [intOf]; omega
        · go_wp2
          go_roundw
          case rel => exact ⟨k + 1, by omega, by go_num, by rw [EJ.out, if_pos (by simp at q1 q2; simp [q1, q2])]; go_num, below_alloc hbr _⟩
          case measure => simp [intOf]; omega
    · have hk' : k = ops.length := by omega
      rw [hk', List.take_length]
      have hsl := hs2.below hbr
      have hbw3 := below_next hbr hb
      obtain ⟨jn, hjn⟩ : ∃ jn, jn = Uf.joins (Uf.start n) ops := ⟨_, rfl⟩
      rw [← hjn]
      have jl := Uf.joins_le (Uf.start n) ops
      have HJ := Lib.hid hjn
      have jle : jn ≤ n := by have := HSUM.out; omega
      rw [← hjn] at jl
      clear hc2 hjn hk' hcw hs2 hbr hb
      go_wp2_with fail
      go_loopw [10, 59] (fun hd i w4 => ∃ i' : Nat, i' ≤ n ∧ i = .int .i64 i' ∧ hd = .int .i64 (Uf.headsTo l i' : Nat) ∧ Below wr.heap.size wr w4) (fun _ i _ => n - (intOf i).toNat)
      case atStart => exact ⟨0, Nat.zero_le _, rfl, rfl, Below.refl _ _⟩
      case round =>
        obtain ⟨i', hi, rfl, rfl, hb4⟩ := hrel
        obtain ⟨hn', hh⟩ : ∃ hn', hn' = Uf.headsTo l i' := ⟨_, rfl⟩
        have hle4 := Uf.headsTo_le l i'
        have es := Uf.headsTo_succ l i'
        rw [← hh] at hle4 es ⊢
        have ES := Lib.hid es
        have HH := Lib.hid hh
        clear es hh
        by_cases hlt2 : i' < n
        · go_wp2_with fail
          go_loopw [12, 63] (fun fs j w5 => ∃ j' : Nat, j' ≤ i' ∧ j = .int .i64 j' ∧ fs = .bool (Uf.lone l i' j') ∧ Below wr.heap.size wr w5) (fun _ j _ => i' - (intOf j).toNat)
          case atStart => exact ⟨0, Nat.zero_le _, rfl, by rw [Uf.lone_zero], Below.refl _ _⟩
          case round =>
            obtain ⟨j', hj, rfl, rfl, hb5⟩ := hrel
            by_cases hlt3 : j' < i'
            · have el := Uf.lone_succ l i' j' (by rw [HLL.out]; omega)
              have EL := Lib.hid el
              clear el
              rcases q : Uf.lone l i' j' with _ | _
              · go_wp2
                go_roundw
                case rel => exact ⟨j' + 1, by omega, by go_num, by rw [EL.out, q]; rfl, hb5⟩
                case measure => simp [intOf]; omega
              · have has := Uf.ans_same l j' i' (by rw [HLL.out]; omega) (by rw [HLL.out]; omega)
                rw [HL.out] at has
                have HAS := Lib.hid has
                clear has
                go_wp2_with fail
                refine (asks_any _ ops n ⟨2, j', i'⟩ _ hn ((hsl.below hb4).below hb5) hr).mono ?_
                rintro e w6 ⟨rfl, hb6⟩
                rw [HAS.out, ← HL.out]
                have hb56 := below_next hb6 hb5
                clear hb6
                rcases q2 : (Uf.at_ l j' == Uf.at_ l i') with _ | _
                · go_wp2
                  go_roundw
                  case rel => exact ⟨j' + 1, by omega, by go_num, by rw [EL.out, q, q2]; rfl, hb56⟩
                  case measure => simp [intOf]; omega
                · go_wp2
                  go_roundw
                  case rel => exact ⟨j' + 1, by omega, by go_num, by rw [EL.out, q, q2]; rfl, hb56⟩
                  case measure => simp [intOf]; omega
            · have hj' : j' = i' := by omega
              rw [hj']
              have hb45 := below_next hb5 hb4
              clear hb5 hj'
              rcases q : Uf.lone l i' i' with _ | _
              · go_wp2
                go_roundw
                case rel => exact ⟨i' + 1, by omega, by go_num, by rw [ES.out, q]; rfl, hb45⟩
                case measure => simp [intOf]; omega
              · go_wp2
                go_roundw
                case rel => exact ⟨i' + 1, by omega, by go_num, by rw [ES.out, q]; go_num, hb45⟩
                case measure => simp [intOf]; omega
        · have hi' : i' = n := by omega
          have hfin : (hn' : Int) = (n : Int) - (jn : Int) := by
            have h1 := HSUM.out
            have h2 := Uf.headsTo_all l
            rw [HLL.out, ← hi', ← HH.out] at h2
            have h3 := HJ.out
            omega
          have HF := Lib.hid hfin
          have hq : ((hn' : Int) == (n : Int) - (jn : Int)) = true := by rw [hfin]; simp
          clear hfin
          have hbf := below_next hb4 hbw3
          go_wp2
          go_ret
          exact ⟨rfl, hbf⟩
end Go.Proofs.Ytphbegadddamgaa
