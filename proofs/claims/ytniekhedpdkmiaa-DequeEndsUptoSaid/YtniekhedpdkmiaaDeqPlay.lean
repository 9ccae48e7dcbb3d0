/-
  Package deque, walked to its end: Play.
-/
import Derived.Test.YtniekhedpdkmiaaDeq4
namespace Go.Proofs.Ytniekhedpdkmiaa
set_option linter.unusedVariables false
set_option linter.unusedSimpArgs false
open Go.RowKit

namespace Dq
def opc (o : Deq.Op) : List Value := [.int .i64 o.kind, .int .i64 o.n]
def ansc (a : Deq.Ans) : List Value := [.int .i64 a.1, .int .i64 a.2]
def opcs (l : List Deq.Op) : List Value := l.flatMap opc
def anscs (l : List Deq.Ans) : List Value := l.flatMap ansc
theorem opcs_length (l : List Deq.Op) : (opcs l).length = l.length * 2 := flat_length opc 2 (fun _ => rfl) l
theorem anscs_length (l : List Deq.Ans) : (anscs l).length = l.length * 2 := flat_length ansc 2 (fun _ => rfl) l
theorem info_ans : (Try.prog.info? 33).map (fun i => (i.zero, i.size, i.bytes)) = some (some (.agg #[.int .i64 0, .int .i64 0]), 2, 16) := by kernel_rfl
theorem info_op : (Try.prog.info? 27).map (fun i => (i.zero, i.size, i.bytes)) = some (some (.agg #[.int .i64 0, .int .i64 0]), 2, 16) := by kernel_rfl
/-- the two cells of one operation -/
theorem op_cells {w : World} {B : Nat} {A : Option Addr} {ops : List Deq.Op} (h : Cells w B A (opcs ops)) {k : Nat} {o : Deq.Op} (ho : ops[k]? = some o) :
    ∃ b off, A = some ⟨b, off, none⟩ ∧ b < B ∧ w.cell? ⟨b, off + k * 2, none⟩ = some (.int .i64 o.kind) ∧ w.cell? ⟨b, off + k * 2 + 1, none⟩ = some (.int .i64 o.n) := by
  have g : ∀ j, j < 2 → (opcs ops)[k * 2 + j]? = (opc o)[j]? := fun j hj => flat_get opc 2 (fun _ => rfl) ops k j o ho hj
  obtain ⟨b, off, hA, hb, hc⟩ := h.at_ (by
    intro h0
    have := g 0 (by decide)
    rw [h0] at this
    simp [opc] at this)
  exact ⟨b, off, hA, hb, hc _ _ (g 0 (by decide)), hc _ _ (g 1 (by decide))⟩
end Dq

theorem dq_new (w : World) : DqRep (w.alloc (.cells #[.slice none 0 0, .int .i64 0, .int .i64 0] 61)) w.heap.size [] none :=
  ⟨[], 0, none, 0, ⟨Blk.new w 61 [.slice none 0 0, .int .i64 0, .int .i64 0], World.ownsRow_nil _ _ _ _, Deq.ring_nil, Nat.zero_le _, Nat.zero_le _⟩, rfl⟩

theorem dqplay_any (v : Value) (ops : List Deq.Op) (w : World) (h : SlV w 2 v ops.length (Dq.opcs ops)) (hr : ops.length ≤ 8796093022200) :
    Calls Try.prog 10 #[v] w fun e w' => ∃ u v', e = .returned (.tuple #[u, v']) ∧ SlV w' 2 u ops.length (Dq.anscs (Deq.answers [] ops)) ∧ SlV w' 1 v' (Deq.after [] ops).length (ints .i64 (Deq.after [] ops)) ∧ Below w.heap.size w w' := by
  obtain ⟨A, c, rfl, hle, hm, hlen, hc⟩ := h
  clear hlen
  unfold maxLen at hm
  have hd0 := dq_new w
  have hb0 : Below w.heap.size w (w.alloc (.cells #[.slice none 0 0, .int .i64 0, .int .i64 0] 61)) := below_alloc (Below.refl _ _) _
  go_enter Try.func10, Try.ntmps10
  go_wp2
  obtain ⟨g, hg⟩ : ∃ g, g = w.heap.size := ⟨_, rfl⟩
  have hgw : w.heap.size ≤ g := by rw [hg]; exact Nat.le_refl _
  rw [← hg] at hd0 ⊢
  clear hg
  go_loopw [5, 13] (fun v i wr => ∃ k : Nat, k ≤ ops.length ∧ i = .int .i64 k ∧ wr.ownsRow (g + 1) 33 2 v k (Dq.anscs (Deq.answers [] (ops.take k))) ∧ (∃ r, DqRep wr g (Deq.after [] (ops.take k)) r) ∧ Below w.heap.size w wr) (fun _ i _ => ops.length - (intOf i).toNat)
  case atStart => exact ⟨0, Nat.zero_le _, rfl, World.ownsRow_nil _ _ _ _, ⟨none, hd0⟩, hb0⟩
  case round =>
    clear hd0 hb0
    obtain ⟨k, hk, rfl, hown, ⟨r, hd⟩, hb⟩ := hrel
    by_cases hlt : k < ops.length
    · have ho : ops[k]? = some ops[k] := List.getElem?_eq_getElem hlt
      obtain ⟨b, off, rfl, hbw, c0, c1⟩ := Dq.op_cells (hc.keep (Nat.le_refl _) (fun p hp => hb.cell hp)) ho
      obtain ⟨l, hl⟩ : ∃ l, l = Deq.after [] (ops.take k) := ⟨_, rfl⟩
      obtain ⟨o, hoo⟩ : ∃ o, o = ops[k] := ⟨_, rfl⟩
      have hll : l.length ≤ 8796093022299 := by
        have := Deq.after_length [] (ops.take k)
        rw [hl]
        simp at this
        omega
      have e1 : Deq.answers [] (ops.take (k + 1)) = Deq.answers [] (ops.take k) ++ [Deq.ans l o] := by rw [hl, hoo]; exact Deq.answers_take [] ops k hlt
      have e2 : Deq.after [] (ops.take (k + 1)) = Deq.next l o := by rw [hl, hoo]; exact Deq.after_take [] ops k hlt
      rw [← hl] at hd
      rw [← hoo] at c0 c1
      have E1 := Lib.hid e1
      have E2 := Lib.hid e2
      clear e1 e2 hl hoo ho hc
      obtain ⟨kd, y⟩ := o
      simp only at c0 c1
      obtain ⟨A', c', rfl, hle', hm'⟩ := own_slice hown
      unfold maxLen at hm'
      go_wp2_with fail
      have hk0 := ((Keeps.refl (fun _ => False) wr).alloc (.cells #[.int .i64 kd, .int .i64 y] 27))
      refine (do_any g ⟨kd, y⟩ l r _ (hd.keeps hk0 (fun h => h) (fun _ _ h => h)) hll).mono ?_
      rintro e w3 ⟨rfl, ⟨r', hd3, hr'⟩, hk3⟩
      have hgr : ∀ b, r = some b → g < b := fun b hb => (hd.lt.2 b hb).1
      have hown3 := own_keeps (own_keeps hown hk0 (fun _ _ h => h)) hk3 (fun q hq e => by
        rcases e with e | e
        · have := own_ge hown q hq; omega
        · obtain ⟨ring, top, A2, c2, hd', rfl⟩ := hd
          exact own_own_ne hown hd'.own (by decide) hq e.symm)
      have hb3 : Below w.heap.size w w3 := hb.trans ((hk0.below hb.size (fun _ h => h.elim)).trans (hk3.below (Nat.le_trans hb.size hk0.size) (fun i hi => by
        rcases hi with hi | hi
        · omega
        · have := hgr i hi.symm; omega)))
      have n63 : k + 1 ≤ maxLen := by unfold maxLen; omega
      have n47 : (k + 1) * 16 ≤ 140737488355328 := by omega
      have nb : g + 1 ≤ w3.heap.size := hd3.lt.1
      obtain ⟨a, ha⟩ : ∃ a, a = Deq.ans l ⟨kd, y⟩ := ⟨_, rfl⟩
      rw [← ha] at E1 ⊢
      clear ha hown hd hb c0 c1 hk0 hk3
      obtain ⟨a1, a2⟩ := a
      simp only
      go_wp2_with (at_builtin; refine wp_push w3 _ _ _ _ _ _ _ _ Try.underlying28 Dq.info_ans rfl (by decide) hown3 (Dq.ansc (a1, a2)) rfl (ints_one2 (l := [a1, a2])) n63 n47 nb rfl rfl rfl rfl ?_; intro v' w4 hown4 hg4 _ hb4)
      go_roundw
      case rel =>
        refine ⟨k + 1, by omega, by go_num, ?_, ⟨r', ?_⟩, hb3.trans (hb4.mono (by omega))⟩
        · rw [E1.out]
          simpa [Dq.anscs] using hown4
        · rw [E2.out]
          refine hd3.keeps (Keeps.of_grown hg4) (fun e => ?_) (fun q hq e => ?_)
          · have := own_ge hown3 g e.symm; omega
          · obtain ⟨ring, top, A2, c2, hd', rfl⟩ := hd3
            exact own_own_ne hown3 hd'.own (by decide) e.symm hq
      case measure => simp [intOf]; omega
    · have hk' : k = ops.length := by omega
      subst hk'
      rw [List.take_length] at hown hd
      obtain ⟨l, hl⟩ : ∃ l, l = Deq.after [] ops := ⟨_, rfl⟩
      have hll : l.length ≤ ops.length := by
        have := Deq.after_length [] ops
        rw [hl]
        simpa using this
      rw [← hl] at hd
      have HL := Lib.hid hl
      clear hc hl
      go_wp2
      obtain ⟨B2, hB2⟩ : ∃ B2, B2 = wr.heap.size := ⟨_, rfl⟩
      have hgB : g < B2 := by rw [hB2]; exact hd.lt.1
      have hrB : ∀ b, r = some b → b < B2 := fun b h => by rw [hB2]; exact (hd.lt.2 b h).2
      have hoB : ∀ q, u5.ownBlock = some q → g < q ∧ q < B2 := fun q hq => by rw [hB2]; exact hown.lt q hq
      have hBn : B2 ≤ wr.heap.size := by rw [hB2]; exact Nat.le_refl _
      clear hB2
      go_loopw [8] (fun v w2 => ∃ k : Nat, k ≤ l.length ∧ w2.ownsRow B2 3 1 v k (ints .i64 (l.take k)) ∧ DqRep w2 g (l.drop k) r ∧ w2.ownsRow (g + 1) 33 2 u5 ops.length (Dq.anscs (Deq.answers [] ops)) ∧ Below w.heap.size w w2 ∧ B2 ≤ w2.heap.size) (fun v _ => l.length - slLen v)
      case atStart => exact ⟨0, Nat.zero_le _, World.ownsRow_nil _ _ _ _, hd, hown, hb, hBn⟩
      case round =>
        clear hd hb hown hBn
        obtain ⟨k, hk2, hown, hd, hs, hb, hBn⟩ := hrel
        obtain ⟨A', c', rfl, hle', hm'⟩ := own_slice hown
        unfold maxLen at hm'
        have HS := Lib.hid hs
        clear hs
        by_cases hlt2 : k < l.length
        · have ex : l.drop k = l[k] :: l.drop (k + 1) := List.drop_eq_getElem_cons hlt2
          have et : l.take (k + 1) = l.take k ++ [l[k]] := List.take_succ_eq_append_getElem hlt2
          obtain ⟨x, hx⟩ : ∃ x, x = l[k] := ⟨_, rfl⟩
          rw [← hx] at ex et
          rw [ex] at hd
          obtain ⟨l', hl'⟩ : ∃ l', l' = l.drop (k + 1) := ⟨_, rfl⟩
          rw [← hl'] at hd
          have ET := Lib.hid et
          have HL' := Lib.hid hl'
          clear ex et hl' hx
          go_wp2_with fail
          refine (len_any g _ r _ hd).mono ?_
          rintro e w3 ⟨rfl, rfl⟩
          rw [List.length_cons]
          go_wp2_with fail
          refine (steal_some g x l' r _ hd).mono ?_
          rintro e w3 ⟨rfl, hd3, hk3⟩
          have hown3 := own_keeps hown hk3 (fun q hq e => by have := own_ge hown q hq; omega)
          have hb3 : Below w.heap.size w w3 := hb.trans (hk3.below hb.size (fun i hi => by omega))
          have hs3 := own_keeps HS.out hk3 (fun q hq e => by have := (hoB q hq).1; omega)
          have n63 : k + 1 ≤ maxLen := by unfold maxLen; omega
          have n47 : (k + 1) * 8 ≤ 140737488355328 := by omega
          have nb : B2 ≤ w3.heap.size := Nat.le_trans hBn hk3.size
          clear hown hd hb hk3 HS
          go_wp2_with (at_builtin; refine wp_push w3 _ _ _ _ _ _ _ _ Try.underlying23 info_i64 rfl (by decide) hown3 [.int .i64 x] rfl (ints_one2 (l := [x])) n63 n47 nb rfl rfl rfl rfl ?_; intro v' w4 hown4 hg4 _ hb4)
          go_roundw
          case rel =>
            refine ⟨k + 1, by omega, ?_, ?_, own_keeps hs3 (Keeps.of_grown hg4) (fun q hq e => ?_), hb3.trans (hb4.mono (by omega)), Nat.le_trans nb hg4.size⟩
            · rw [ET.out]
              simpa [ints] using hown4
            · rw [← HL'.out]
              refine hd3.keeps (Keeps.of_grown hg4) (fun e => ?_) (fun q hq e => ?_)
              · have := own_ge hown3 g e.symm; omega
              · have := own_ge hown3 q e.symm; have := hrB q hq; omega
            · have := own_ge hown3 q e.symm; have := (hoB q hq).2; omega
          case measure =>
            obtain ⟨A4, c4, rfl, _, _⟩ := own_slice hown4
            simp [slLen]
            omega
        · have hk' : k = l.length := by omega
          subst hk'
          rw [List.drop_length] at hd
          rw [List.take_length] at hown
          go_wp2_with fail
          refine (len_any g _ r _ hd).mono ?_
          rintro e w3 ⟨rfl, rfl⟩
          rw [List.length_nil]
          go_wp2
          go_ret2
          refine ⟨_, _, rfl, SlV.of_own HS.out, ?_, hb⟩
          rw [← HL.out]
          exact SlV.of_own hown
end Go.Proofs.Ytniekhedpdkmiaa
