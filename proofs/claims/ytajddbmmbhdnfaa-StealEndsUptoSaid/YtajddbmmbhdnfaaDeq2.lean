/-
  Package deque, walked: Push.
-/
import Derived.Test.YtajddbmmbhdnfaaDeq
namespace Go.Proofs.Ytajddbmmbhdnfaa
set_option linter.unusedVariables false
set_option linter.unusedSimpArgs false
set_option maxRecDepth 100000
open Go.RowKit

set_option maxHeartbeats 4000000 in
theorem push_room (g : Nat) (x : Int) (l : List Int) (r : Option Nat) (w : World) (ring : List Int) (top : Nat) (A : Option Addr) (c : Nat) (h : DqAt w g l ring top A c) (hr : (Value.slice A ring.length c).ownBlock = r) (hn : l.length < ring.length) :
    Calls Try.prog 37 #[.pointer (some ⟨g, 0, none⟩), .int .i64 x] w fun e w' => e = .returned (.tuple #[]) ∧ DqRep w' g (l ++ [x]) r ∧ Keeps (fun k => k = g ∨ some k = r) w w' := by
  subst hr
  have htop : top < ring.length := h.rng.2.1 (by omega)
  obtain ⟨t, ht⟩ : ∃ t, t = (top + l.length) % ring.length := ⟨_, rfl⟩
  have htn : t < ring.length := by rw [ht]; exact Nat.mod_lt _ (by omega)
  have hsm := h.small
  obtain ⟨b, c', hA, hle, hm, hb1, hb2⟩ := own_addr h.own (by omega)
  cases hA
  have c0 := h.blk.cell 0
  have c1 := h.blk.cell 1
  have c2 := h.blk.cell 2
  simp only [List.getElem?_cons_succ, List.getElem?_cons_zero] at c0 c1 c2
  have hblk := h.blk
  have hown := h.own
  unfold maxLen at hm
  obtain ⟨n, hnn⟩ : ∃ n, n = ring.length := ⟨_, rfl⟩
  rw [← hnn] at htop hsm hle c0 hn htn ht
  have hn0 : n ≠ 0 := by omega
  have hne : ((l.length : Int) == (n : Int)) = false := by rw [beq_eq_false_iff_ne]; omega
  have hne' : l.length ≠ n := by omega
  have hw : (IntKind.i64.wrap (↑top + ↑l.length)).tmod ↑n = (t : Int) := by rw [ht]; exact rem_i64 top l.length n (by omega) (by omega)
  have HT := Lib.hid ht
  have HNN := Lib.hid hnn.symm
  clear ht hnn
  go_enter Try.func37, Try.ntmps37
  go_wp2
  go_quiet (fail)
  go_wp2
  (refine still_last (by kernel_rfl) (by kernel_rfl) ?_; simp only [List.length_cons, List.length_nil, Nat.reduceAdd, Nat.reduceSub, List.take_succ_cons, List.take_zero, List.drop_succ_cons, List.drop_zero]; repeat still_step; try refine wpStill_nil ?_)
  refine wpl_set_own (w := (w.drewN nq).drewN 1) hown t (.int .i64 x) (by kernel_rfl) (by rw [HNN.out]; exact htn) rfl rfl rfl rfl rfl rfl ?_
  intro w2 hown2 hg2
  rw [← ints_set] at hown2
  have hgb : g ≠ b := by omega
  have hB2 := hblk.grown (w := (w.drewN nq).drewN 1) hg2 (fun e => hgb (by injection e))
  clear c0 c1 c2 hblk hown
  have d2 := hB2.cell 2
  simp only [List.getElem?_cons_succ, List.getElem?_cons_zero] at d2
  go_wp2_with (refine wpl_set_blk hB2 2 (.int .i64 (l.length + 1 : Nat)) (by kernel_rfl) (by simp) rfl rfl rfl rfl rfl rfl ?_; intro w3 hB3 hg3)
  go_end0
  simp only [List.set_cons_succ, List.set_cons_zero] at hB3
  have hk2 : Keeps (fun k => k = g ∨ some k = some b) w w2 := ((Keeps.of_grown hg2).undrewN.undrewN).mono (fun i hi => .inr hi)
  have hk3 : Keeps (fun k => k = g ∨ some k = some b) w2 w3 := (Keeps.of_grown hg3).mono (fun i hi => .inl (by injection hi))
  have hown3 := own_keeps hown2 (Keeps.of_grown hg3) (fun g' hg' e => by have := own_ge hown2 g' hg'; injection e; omega)
  have hring := Deq.ring_push h.rng (by rw [HNN.out]; exact hn) x
  rw [HNN.out, ← HT.out] at hring
  refine ⟨rfl, ⟨ring.set t x, top, some ⟨b, 0, none⟩, c, ⟨?_, ?_, hring, by simpa using h.small, by simpa using h.small'⟩, rfl⟩, hk2.trans hk3⟩
  · simpa using hB3
  · simpa using hown3
end Go.Proofs.Ytajddbmmbhdnfaa
