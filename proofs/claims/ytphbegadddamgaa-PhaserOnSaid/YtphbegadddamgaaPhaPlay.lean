/-
  Package phaser, walked to its end: Play.
-/
import Derived.Test.YtphbegadddamgaaPha2
namespace Go.Proofs.Ytphbegadddamgaa
set_option linter.unusedVariables false
set_option linter.unusedSimpArgs false
open Go.RowKit

def opc (o : Pha.Op) : List Value := [.int .i64 o.kind, .int .i64 o.who, .int .i64 o.by_]
def ansc (a : Pha.Ans) : List Value := [.int .i64 a.1, .int .i64 a.2]
def opcs (l : List Pha.Op) : List Value := l.flatMap opc
def anscs (l : List Pha.Ans) : List Value := l.flatMap ansc

theorem opcs_length (l : List Pha.Op) : (opcs l).length = l.length * 3 := flat_length opc 3 (fun _ => rfl) l
theorem anscs_length (l : List Pha.Ans) : (anscs l).length = l.length * 2 := flat_length ansc 2 (fun _ => rfl) l

theorem info_ans : (Try.prog.info? 38).map (fun i => (i.zero, i.size, i.bytes)) = some (some (.agg #[.int .i64 0, .int .i64 0]), 2, 16) := by kernel_rfl

theorem info_op : (Try.prog.info? 33).map (fun i => (i.zero, i.size, i.bytes)) = some (some (.agg #[.int .i64 0, .int .i64 0, .int .i64 0]), 3, 24) := by kernel_rfl

/-- the three cells of one operation -/
theorem op_cells {w : World} {B : Nat} {A : Option Addr} {ops : List Pha.Op} (h : Cells w B A (opcs ops)) {k : Nat} {o : Pha.Op} (ho : ops[k]? = some o) :
    ∃ b off, A = some ⟨b, off, none⟩ ∧ b < B ∧ w.cell? ⟨b, off + k * 3, none⟩ = some (.int .i64 o.kind) ∧ w.cell? ⟨b, off + k * 3 + 1, none⟩ = some (.int .i64 o.who) ∧ w.cell? ⟨b, off + k * 3 + 2, none⟩ = some (.int .i64 o.by_) := by
  have g : ∀ j, j < 3 → (opcs ops)[k * 3 + j]? = (opc o)[j]? := fun j hj => flat_get opc 3 (fun _ => rfl) ops k j o ho hj
  obtain ⟨b, off, hA, hb, hc⟩ := h.at_ (by
    intro h0
    have := g 0 (by decide)
    rw [h0] at this
    simp [opc] at this)
  exact ⟨b, off, hA, hb, hc _ _ (g 0 (by decide)), hc _ _ (g 1 (by decide)), hc _ _ (g 2 (by decide))⟩

theorem play_any (v : Value) (ops : List Pha.Op) (w : World) (h : SlV w 3 v ops.length (opcs ops)) (hr : ops.length ≤ 5864062014805) :
    Calls Try.prog 22 #[v] w fun e w' => ∃ u, e = .returned u ∧ SlV w' 2 u ops.length (anscs (Pha.play ops)) ∧ Below w.heap.size w w' := by
  obtain ⟨A, c, rfl, hle, hm, hlen, hc⟩ := h
  clear hlen
  unfold maxLen at hm
  go_enter Try.func22, Try.ntmps22
  go_wp2_with fail
  refine (new_any w).mono ?_
  rintro e w1 ⟨rfl, hb1⟩
  have hB0 := Blk.new w1 74 (pcells zp)
  go_wp2_with (refine wpl_put_blk hB0 (pcells Pha.start) (by kernel_rfl) rfl (pcells_one _) rfl rfl rfl rfl ?_; intro w2 hB2 hg2)
  have hb2 : Below w.heap.size w w2 := (below_alloc hb1 _).trans (below_of_grown hg2 (by have := hb1.size; simp; omega) hb1.size)
  obtain ⟨g, hg⟩ : ∃ g, g = w1.heap.size := ⟨_, rfl⟩
  have hgw : w.heap.size ≤ g := by rw [hg]; exact hb1.size
  rw [← hg] at hB2 ⊢
  clear hg hB0 hg2
  go_loopw [4, 10] (fun v i wr => ∃ k : Nat, k ≤ ops.length ∧ i = .int .i64 k ∧ wr.ownsRow (g + 1) 38 2 v k (anscs (Pha.play (ops.take k))) ∧ Blk wr g 74 (pcells (Pha.after Pha.start (ops.take k))) ∧ Below w.heap.size w wr) (fun _ i _ => ops.length - (intOf i).toNat)
  case atStart => exact ⟨0, Nat.zero_le _, rfl, World.ownsRow_nil _ _ _ _, hB2, hb2⟩
  case round =>
    clear hB2 hb2 hb1
    obtain ⟨k, hk, rfl, hown, hB, hb⟩ := hrel
    by_cases hlt : k < ops.length
    · have ho : ops[k]? = some ops[k] := List.getElem?_eq_getElem hlt
      obtain ⟨b, off, rfl, hbw, c0, c1, c2⟩ := op_cells (hc.keep (Nat.le_refl _) (fun p hp => hb.cell hp)) ho
      have hok := Pha.after_ok Pha.ok_start (ops.take k)
      have hph := Pha.after_phase Pha.start (ops.take k)
      have hp0 : Pha.start.phase = 0 := rfl
      rw [hp0, List.length_take, Nat.min_eq_left hk] at hph
      obtain ⟨p, hp⟩ : ∃ p, p = Pha.after Pha.start (ops.take k) := ⟨_, rfl⟩
      obtain ⟨o, hoo⟩ : ∃ o, o = ops[k] := ⟨_, rfl⟩
      have e1 : Pha.play (ops.take (k + 1)) = Pha.play (ops.take k) ++ [Pha.ans p o] := by rw [hp, hoo]; exact Pha.play_take ops k hlt
      have e2 : Pha.after Pha.start (ops.take (k + 1)) = Pha.next p o := by rw [hp, hoo]; exact Pha.after_take ops k hlt
      rw [← hp] at hB hok hph
      rw [← hoo] at c0 c1 c2
      have E1 := Lib.hid e1
      have E2 := Lib.hid e2
      clear e1 e2 hp hoo ho hp0 hc
      obtain ⟨kd, wh, by_⟩ := o
      simp only at c0 c1 c2
      obtain ⟨A', c', rfl, hle', hm'⟩ := own_slice hown
      unfold maxLen at hm'
      go_wp2_with fail
      refine (do_any g p ⟨kd, wh, by_⟩ hok.l1 hok.l2 (by omega) (by omega) _ (hB.alloc _)).mono ?_
      rintro e w3 ⟨rfl, hB3, hg3⟩
      have hown3 := (hown.alloc (.cells #[.int .i64 kd, .int .i64 wh, .int .i64 by_] 33)).kept hg3 (.inr fun h => by have := own_ge hown g h; omega)
      have hlt3 := hB3.lt
      have hb3 : Below w.heap.size w w3 := (below_alloc hb _).trans (below_of_grown hg3 (by have := hb.size; simp; omega) hgw)
      have n63 : k + 1 ≤ maxLen := by unfold maxLen; omega
      have n47 : (k + 1) * 16 ≤ 140737488355328 := by omega
      have nb : g + 1 ≤ w3.heap.size := hlt3
      obtain ⟨a, ha⟩ : ∃ a, a = Pha.ans p ⟨kd, wh, by_⟩ := ⟨_, rfl⟩
      rw [← ha] at E1 ⊢
      clear ha hown hB hg3 hb c0 c1 c2
      obtain ⟨a1, a2⟩ := a
      unfold ansv
      simp only
      go_wp2_with (at_builtin; (refine wp_push w3 _ _ _ _ _ _ _ _ Try.underlying34 info_ans rfl (by decide) hown3 (ansc (a1, a2)) rfl (ints_one' (l := [a1, a2])) n63 n47 nb rfl rfl rfl rfl ?_); intro v' w4 hown4 hg4 _ hb4)
      go_roundw
      case rel =>
        refine ⟨k + 1, by omega, by go_num, ?_, ?_, hb3.trans (hb4.mono (by omega))⟩
        · rw [E1.out]
          simpa [anscs] using hown4
        · rw [E2.out]
          exact hB3.grown hg4 (fun h => by have := own_ge hown3 g h.symm; omega)
      case measure => simp [intOf]; omega
    · have hk' : k = ops.length := by omega
      subst hk'
      rw [List.take_length] at hown
      have hs := Lib.hid (SlV.of_own hown)
      clear hown hB hc
      go_wp2
      go_ret
      exact ⟨_, rfl, hs.out, hb⟩
end Go.Proofs.Ytphbegadddamgaa
