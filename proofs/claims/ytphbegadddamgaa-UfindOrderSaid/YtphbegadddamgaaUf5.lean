/-
  Package ufind, walked to its end: Play; and one answer behind all that was done.
-/
import Derived.Test.YtphbegadddamgaaUf4
namespace Go.Proofs.Ytphbegadddamgaa
set_option linter.unusedVariables false
set_option linter.unusedSimpArgs false
open Go.RowKit

namespace Ufd
def opc (o : Uf.Op) : List Value := [.int .i64 o.kind, .int .i64 o.i, .int .i64 o.j]
def opcs (l : List Uf.Op) : List Value := l.flatMap opc
theorem opcs_length (l : List Uf.Op) : (opcs l).length = l.length * 3 := flat_length opc 3 (fun _ => rfl) l
theorem info_op : (Try.prog.info? 60).map (fun i => (i.zero, i.size, i.bytes)) = some (some (.agg #[.int .i64 0, .int .i64 0, .int .i64 0]), 3, 24) := by kernel_rfl
theorem op_cells {w : World} {B : Nat} {A : Option Addr} {ops : List Uf.Op} (h : Cells w B A (opcs ops)) {k : Nat} {o : Uf.Op} (ho : ops[k]? = some o) :
    ∃ b off, A = some ⟨b, off, none⟩ ∧ b < B ∧ w.cell? ⟨b, off + k * 3, none⟩ = some (.int .i64 o.kind) ∧ w.cell? ⟨b, off + k * 3 + 1, none⟩ = some (.int .i64 o.i) ∧ w.cell? ⟨b, off + k * 3 + 2, none⟩ = some (.int .i64 o.j) := by
  have g : ∀ j, j < 3 → (opcs ops)[k * 3 + j]? = (opc o)[j]? := fun j hj => flat_get opc 3 (fun _ => rfl) ops k j o ho hj
  obtain ⟨b, off, hA, hb, hc⟩ := h.at_ (by
    intro h0
    have := g 0 (by decide)
    rw [h0] at this
    simp [opc] at this)
  exact ⟨b, off, hA, hb, hc _ _ (g 0 (by decide)), hc _ _ (g 1 (by decide)), hc _ _ (g 2 (by decide))⟩
theorem opcs_one (l : List Uf.Op) : ∀ u ∈ opcs l, u.oneCell' = true := by
  intro u hu
  obtain ⟨o, _, ho⟩ := List.mem_flatMap.1 hu
  simp only [opc, List.mem_cons, List.not_mem_nil, or_false] at ho
  rcases ho with rfl | rfl | rfl <;> rfl
end Ufd

/-- the things are known in range -/
theorem ufplay_bad (v : Value) (ops : List Uf.Op) (n : Int) (w : World) (hn : n < 0 ∨ 200 < n) :
    Calls Try.prog 33 #[.int .i64 n, v] w fun e w' => e = .returned (.tuple #[.slice none 0 0, .int .i64 2]) ∧ w' = w := by
  rcases hn with hn | hn
  · go_enter Try.func33, Try.ntmps33
    go_wp2
    go_ret2
    exact ⟨rfl, rfl⟩
  · have hn' : ¬ n < 0 := by omega
    go_enter Try.func33, Try.ntmps33
    go_wp2
    go_ret2
    exact ⟨rfl, rfl⟩

def UfPlay (ops : List Uf.Op) (n : Nat) (w : World) : Ending → World → Prop := fun e w' =>
  ∃ u, e = .returned (.tuple #[u, .int .i64 0]) ∧ SlV w' 1 u ops.length (ints .i64 (Uf.answers (Uf.start n) ops)) ∧ Below w.heap.size w w'

theorem ufplay_any (v : Value) (ops : List Uf.Op) (n : Nat) (w : World) (hn : n ≤ 200) (h : SlV w 3 v ops.length (Ufd.opcs ops)) (hr : ops.length ≤ 5864062014805) :
    Calls Try.prog 33 #[.int .i64 n, v] w (UfPlay ops n w) := by
  obtain ⟨A, c, rfl, hle, hm, hlen, hc⟩ := h
  clear hlen
  unfold maxLen at hm
  go_enter Try.func33, Try.ntmps33
  go_wp2_with fail
  refine (ufnew_any w n hn).mono ?_
  rintro e w1 ⟨g, u, s, rfl, hR1, hb1⟩
  go_wp2_with fail
  go_loopw [7, 20] (fun v i wr => ∃ k : Nat, k ≤ ops.length ∧ i = .int .i64 k ∧ wr.ownsRow w1.heap.size 3 1 v k (ints .i64 (Uf.answers (Uf.start n) (ops.take k))) ∧ UfRep w.heap.size wr g u s n (Uf.after (Uf.start n) (ops.take k)) ∧ Below w.heap.size w wr ∧ w1.heap.size ≤ wr.heap.size) (fun _ i _ => ops.length - (intOf i).toNat)
  case atStart => exact ⟨0, Nat.zero_le _, rfl, World.ownsRow_nil _ _ _ _, hR1, hb1, Nat.le_refl _⟩
  case round =>
    have hub : u < w1.heap.size ∧ w.heap.size ≤ u ∧ s < w1.heap.size ∧ w.heap.size ≤ s := by
      obtain ⟨_, _, _, _, ha, _⟩ := hR1
      exact ⟨(ha.up.lt u rfl).2, (ha.up.lt u rfl).1, (ha.sz.lt s rfl).2, (ha.sz.lt s rfl).1⟩
    have hgb : g < w1.heap.size := by
      obtain ⟨_, _, _, _, ha, _⟩ := hR1
      exact ha.blk.lt
    clear hR1 hb1
    obtain ⟨k, hk, rfl, hown, hR, hb, hge⟩ := hrel
    by_cases hlt : k < ops.length
    · have ho : ops[k]? = some ops[k] := List.getElem?_eq_getElem hlt
      obtain ⟨b, off, rfl, hbw, c0, c1, c2⟩ := Ufd.op_cells (hc.keep (Nat.le_refl _) (fun p hp => hb.cell hp)) ho
      obtain ⟨l, hl⟩ : ∃ l, l = Uf.after (Uf.start n) (ops.take k) := ⟨_, rfl⟩
      obtain ⟨o, hoo⟩ : ∃ o, o = ops[k] := ⟨_, rfl⟩
      have e1 : Uf.answers (Uf.start n) (ops.take (k + 1)) = Uf.answers (Uf.start n) (ops.take k) ++ [Uf.ans l o] := by rw [hl, hoo]; exact Uf.answers_take _ ops k hlt
      have e2 : Uf.after (Uf.start n) (ops.take (k + 1)) = Uf.next l o := by rw [hl, hoo]; exact Uf.after_take _ ops k hlt
      rw [← hl] at hR
      rw [← hoo] at c0 c1 c2
      have E1 := Lib.hid e1
      have E2 := Lib.hid e2
      clear e1 e2 hl hoo ho hc
      obtain ⟨kd, oi, oj⟩ := o
      simp only at c0 c1 c2
      obtain ⟨A', c', rfl, hle', hm'⟩ := own_slice hown
      unfold maxLen at hm'
      go_wp2_with fail
      refine (do_uf w.heap.size _ g u s n l (hR.alloc _) hn ⟨kd, oi, oj⟩).mono ?_
      rintro e w3 ⟨rfl, hR3, hk3⟩
      have hown3 := own_keeps (hown.alloc (.cells #[.int .i64 kd, .int .i64 oi, .int .i64 oj] 60)) hk3 (fun q hq h => by have := own_ge hown q hq; omega)
      have hs3 := hk3.size
      simp only [World.size_alloc] at hs3
      have hb3 : Below w.heap.size w w3 := (below_alloc hb _).trans (hk3.below (by have := hb.size; simp; omega) (fun i hi => by omega))
      have n63 : k + 1 ≤ maxLen := by unfold maxLen; omega
      have n47 : (k + 1) * 8 ≤ 140737488355328 := by omega
      have nb : w1.heap.size ≤ w3.heap.size := by omega
      obtain ⟨a, ha⟩ : ∃ a, a = Uf.ans l ⟨kd, oi, oj⟩ := ⟨_, rfl⟩
      rw [← ha] at E1 ⊢
      clear ha hown hR hk3 hb c0 c1 c2 hs3
      go_wp2_with (at_builtin; (refine wp_push w3 _ _ _ _ _ _ _ _ Try.underlying45 info_int rfl (by decide) hown3 (ints .i64 [a]) rfl (ints_one1 _ _) n63 n47 nb rfl rfl rfl rfl ?_); intro v' w4 hown4 hg4 _ hb4)
      go_roundw
      case rel =>
        have hk4 : Keeps (fun k => w1.heap.size ≤ k) w3 w4 := (Keeps.of_grown hg4).mono (fun i hi => own_ge hown3 i hi.symm)
        refine ⟨k + 1, by omega, by go_num, ?_, ?_, hb3.trans (hb4.mono (by omega)), by have := hb4.size; omega⟩
        · rw [E1.out]
          simpa [ints] using hown4
        · rw [E2.out]
          obtain ⟨z1, up, sz, d, z2, z3⟩ := hR3
          exact ⟨z1, up, sz, d, z2.keeps hk4 (by omega) (by omega) (by omega), z3⟩
      case measure => simp [intOf]; omega
    · have hk' : k = ops.length := by omega
      rw [hk', List.take_length] at hown
      have hs := Lib.hid (SlV.of_own hown)
      clear hown hR hc hk' hub hgb
      go_wp2
      go_ret2
      exact ⟨_, rfl, hs.out, hb⟩
end Go.Proofs.Ytphbegadddamgaa
