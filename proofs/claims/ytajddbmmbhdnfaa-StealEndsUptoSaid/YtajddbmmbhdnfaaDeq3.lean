/-
  Package deque, walked: Push into a ring that is full.
-/
import Derived.Test.YtajddbmmbhdnfaaDeq2
namespace Go.Proofs.Ytajddbmmbhdnfaa
set_option linter.unusedVariables false
set_option linter.unusedSimpArgs false
set_option maxRecDepth 100000
open Go.RowKit

set_option maxHeartbeats 4000000 in
theorem push_full (g : Nat) (x : Int) (l : List Int) (w : World) (ring : List Int) (top : Nat) (A : Option Addr) (c : Nat) (h : DqAt w g l ring top A c) (hfull : l.length = ring.length) (hbig : l.length ≤ 8796093022299) :
    Calls Try.prog 37 #[.pointer (some ⟨g, 0, none⟩), .int .i64 x] w fun e w' => e = .returned (.tuple #[]) ∧ DqRep w' g (l ++ [x]) (some w.heap.size) ∧ Keeps (fun k => k = g) w w' := by
  have c0 := h.blk.cell 0
  have c1 := h.blk.cell 1
  have c2 := h.blk.cell 2
  simp only [List.getElem?_cons_succ, List.getElem?_cons_zero] at c0 c1 c2
  rw [← hfull] at c0
  have hblk := h.blk
  have hown := h.own
  obtain ⟨n, hnn⟩ : ∃ n, n = l.length := ⟨_, rfl⟩
  rw [← hnn] at c0 c2 hbig
  have HNN := Lib.hid hnn.symm
  have HFULL := Lib.hid hfull
  clear hnn hfull
  obtain ⟨m, hm0⟩ : ∃ m, m = 2 * n + 1 := ⟨_, rfl⟩
  have n63 : m ≤ 9223372036854775807 := by omega
  have n47 : 8 * m ≤ 281474976710656 := by omega
  have hnm : n < m := by omega
  have HM := Lib.hid hm0
  clear hm0
  go_enter Try.func37, Try.ntmps37
  go_wp2
  go_quiet (fail)
  go_wp2_with (at_make; refine wp_make _ 71 3 (.int .i64 0) 8 m Try.underlying71 info_i64 rfl (by have := HM.out; omega) (by have := HM.out; omega) n47 n63 rfl rfl rfl rfl ?_; intro w2 hown2 hb2 hs2; have hblk2 := hblk.below (w := w.drewN nq) hb2; have e2 := hblk2.cell 2; simp only [List.getElem?_cons_succ, List.getElem?_cons_zero] at e2; rw [HNN.out] at e2)
  have hbb2 : Below w.heap.size w w2 := ⟨hb2.os, hb2.tape, hb2.output, hb2.size, hb2.block⟩
  have hown2' : w2.ownsRow w.heap.size 3 1 (.slice (some ⟨w.heap.size, 0, none⟩) m m) m (ints .i64 (Deq.moved m l 0)) := by
    rw [Deq.moved_zero, ints, List.map_replicate]
    exact hown2
  clear hown2 hb2 hs2 c0 c1 c2 e2 hblk2
  have hrng := Lib.hid h.rng
  have hsm := h.small
  have hsm' := h.small'
  go_loopw [27] (fun i wr => ∃ k : Nat, k ≤ n ∧ i = .int .i64 k ∧ wr.ownsRow w.heap.size 3 1 (.slice (some ⟨w.heap.size, 0, none⟩) m m) m (ints .i64 (Deq.moved m l k)) ∧ Below w.heap.size w wr) (fun i _ => n - (intOf i).toNat)
  case atStart => exact ⟨0, Nat.zero_le _, rfl, hown2', hbb2⟩
  case round =>
    clear hown2' hbb2
    obtain ⟨k, hk, rfl, hownr, hb⟩ := hrel
    have hblkr := hblk.keeps (Keeps.of_below hb (fun _ => False)) (fun h => h)
    have hold := own_keeps hown (Keeps.of_below hb (fun _ => False)) (fun _ _ h => h)
    by_cases hlt : k < n
    · obtain ⟨b, c', hA, hle, hm, hb1, hb2⟩ := own_addr hold (by rw [← HFULL.out, HNN.out]; omega)
      cases hA
      obtain ⟨t, ht⟩ : ∃ t, t = (top + k) % n := ⟨_, rfl⟩
      have htn : t < n := by rw [ht]; exact Nat.mod_lt _ (by omega)
      have hx : ring[t]? = l[k]? := by
        have := hrng.out.2.2 k (by rw [HNN.out]; exact hlt)
        rw [← HFULL.out, HNN.out] at this
        rw [ht]; exact this
      have hlk : k < l.length := by rw [HNN.out]; exact hlt
      obtain ⟨y, hy⟩ : ∃ y, l[k]? = some y := ⟨_, List.getElem?_eq_getElem hlk⟩
      rw [hy] at hx
      have hset := Lib.hid (Deq.moved_set m l k y (by omega) hy)
      have htr : t < ring.length := by rw [← HFULL.out, HNN.out]; exact htn
      have hc := hold.cellAt t (by rw [← HFULL.out, HNN.out]; omega)
      rw [ints, List.getElem?_map, hx] at hc
      simp only [Option.map_some] at hc
      have htop : top ≤ n := by rw [← HFULL.out, HNN.out] at hsm'; exact hsm'
      rw [← HFULL.out, HNN.out] at hle
      have hn0 : n ≠ 0 := by omega
      have hkm : k < m := by omega
      have hw : (IntKind.i64.wrap (↑top + ↑k)).tmod ↑n = (t : Int) := by rw [ht]; exact rem_i64 top k n (by omega) (by omega)
      have c0 := hblkr.cell 0
      have c1 := hblkr.cell 1
      have c2 := hblkr.cell 2
      simp only [List.getElem?_cons_succ, List.getElem?_cons_zero] at c0 c1 c2
      rw [HNN.out] at c2
      rw [← HFULL.out, HNN.out] at c0
      clear ht hx hy hblk hown h hlk htr
      go_wp2
      (refine still_last (by kernel_rfl) (by kernel_rfl) ?_; simp only [List.length_cons, List.length_nil, Nat.reduceAdd, Nat.reduceSub, List.take_succ_cons, List.take_zero, List.drop_succ_cons, List.drop_zero]; repeat still_step; try refine wpStill_nil ?_)
      refine wpl_set_own (w := wr.drewN 1) hownr k (.int .i64 y) (by kernel_rfl) (by omega) rfl rfl rfl rfl rfl rfl ?_
      intro w3 hown3 hg3
      rw [← ints_set, hset.out] at hown3
      have hb3 := hb.trans (below_of_grown (grown_undrewN hg3) hb.size (Nat.le_refl _))
      go_wp2
      go_roundw
      case rel => exact ⟨k + 1, by omega, by go_num, hown3, hb3⟩
      case measure => simp [intOf]; omega
    · have hk' : k = n := by omega
      rw [hk'] at hownr ⊢
      have hring := Deq.ring_moved m l (by rw [HNN.out]; exact hnm)
      rw [HNN.out] at hring
      have hlm := Deq.moved_length m l n (by omega) (by rw [HNN.out]; exact Nat.le_refl _)
      obtain ⟨ring', hr'⟩ : ∃ ring', ring' = Deq.moved m l n := ⟨_, rfl⟩
      rw [← hr'] at hownr hring hlm
      have hw : (IntKind.i64.wrap (↑0 + ↑n)).tmod ↑m = (n : Int) := by
        have := rem_i64 0 n m (by omega) (by omega)
        rw [Nat.zero_add, Nat.mod_eq_of_lt hnm] at this
        exact this
      go_wp2_with (first
        | (refine wpl_set_blk hblkr 0 (.slice (some ⟨w.heap.size, 0, none⟩) m m) (by kernel_rfl) (by simp) rfl rfl rfl rfl rfl rfl ?_; intro w4 hB4 hg4; simp only [List.set_cons_succ, List.set_cons_zero] at hB4)
        | (refine wpl_set_blk hB4 1 (.int .i64 0) (by kernel_rfl) (by simp) rfl rfl rfl rfl rfl rfl ?_; intro w5 hB5 hg5; simp only [List.set_cons_succ, List.set_cons_zero] at hB5; have d0 := hB5.cell 0; have d1 := hB5.cell 1; have d2 := hB5.cell 2; simp only [List.getElem?_cons_succ, List.getElem?_cons_zero] at d0 d1 d2; rw [HNN.out] at d2))
      have hm0 : m ≠ 0 := by omega
      have hw0 : (0 + (n : Int)).tmod ↑m = (n : Int) := by
        rw [Int.zero_add]
        exact Int.tmod_eq_of_lt (by omega) (by omega)
      have hw1 : (n : Int).tmod ↑m = (n : Int) := Int.tmod_eq_of_lt (by omega) (by omega)
      have hw2 : (IntKind.i64.wrap ↑n).tmod ↑m = (n : Int) := by rw [IntWalk.i64_in _ (by omega)]; exact hw1
      have hk5 : Keeps (fun k => k = g) wr w5 := ((Keeps.of_grown hg4).mono (fun i hi => by injection hi)).trans ((Keeps.of_grown hg5).mono (fun i hi => by injection hi))
      have hgw := hblk.lt
      have hown5 := own_keeps hownr hk5 (fun g' hg' e => by have := own_ge hownr g' hg'; omega)
      go_wp2
      (refine still_last (by kernel_rfl) (by kernel_rfl) ?_; simp only [List.length_cons, List.length_nil, Nat.reduceAdd, Nat.reduceSub, List.take_succ_cons, List.take_zero, List.drop_succ_cons, List.drop_zero]; repeat still_step; try refine wpStill_nil ?_)
      refine wpl_set_own (w := w5.drewN 1) hown5 n (.int .i64 x) (by kernel_rfl) hnm rfl rfl rfl rfl rfl rfl ?_
      intro w6 hown6 hg6
      rw [← ints_set] at hown6
      have hgb : g ≠ w.heap.size := by omega
      have hB6 := hB5.grown (w := w5.drewN 1) hg6 (fun e => hgb (by injection e))
      clear d0 d1 d2 hown5 hB5 hownr hold hblkr hown
      have d2 := hB6.cell 2
      simp only [List.getElem?_cons_succ, List.getElem?_cons_zero] at d2
      rw [HNN.out] at d2
      go_wp2_with (refine wpl_set_blk hB6 2 (.int .i64 (n + 1 : Nat)) (by kernel_rfl) (by simp) rfl rfl rfl rfl rfl rfl ?_; intro w7 hB7 hg7)
      go_end0
      simp only [List.set_cons_succ, List.set_cons_zero] at hB7
      have k6 : Keeps (fun k => k = g ∨ some k = some w.heap.size) w5 w6 := ((Keeps.of_grown hg6).undrewN).mono (fun i hi => .inr hi)
      have k7 : Keeps (fun k => k = g ∨ some k = some w.heap.size) w6 w7 := (Keeps.of_grown hg7).mono (fun i hi => .inl (by injection hi))
      have k5 : Keeps (fun k => k = g ∨ some k = some w.heap.size) wr w5 := hk5.mono (fun i hi => .inl hi)
      have hk7 : Keeps (fun k => k = g) w w7 := (Keeps.of_below hb (fun k => k = g)).step (k5.trans (k6.trans k7)) (fun i hi h => by
        rcases h with h | h
        · exact h
        · injection h with h; omega)
      have hown7 := own_keeps hown6 (Keeps.of_grown hg7) (fun g' hg' e => by have := own_ge hown6 g' hg'; injection e; omega)
      have hpush := Deq.ring_push hring (by rw [hlm, HNN.out]; exact hnm) x
      rw [hlm, HNN.out, Nat.zero_add, Nat.mod_eq_of_lt hnm] at hpush
      have hl' : (ring'.set n x).length = m := by simpa using hlm
      have hlx : (l ++ [x]).length = n + 1 := by rw [List.length_append, HNN.out]; rfl
      refine ⟨rfl, ⟨ring'.set n x, 0, some ⟨w.heap.size, 0, none⟩, m, ⟨?_, ?_, hpush, ?_, ?_⟩, rfl⟩, hk7⟩
      · rw [hl', hlx]; exact hB7
      · rw [hl']; exact ⟨hown7.1, by
          rcases hown7.2 with h' | ⟨g1, cap, cur, e1, e2, e3⟩
          · exact .inl h'
          · exact .inr ⟨g1, cap, cur, e1, Nat.le_trans (by omega) e2, e3⟩⟩
      · rw [hl']; have := HM.out; omega
      · exact Nat.zero_le _

/-- a push, whichever -/
theorem push_any (g : Nat) (x : Int) (l : List Int) (r : Option Nat) (w : World) (h : DqRep w g l r) (hbig : l.length ≤ 8796093022299) :
    Calls Try.prog 37 #[.pointer (some ⟨g, 0, none⟩), .int .i64 x] w fun e w' => e = .returned (.tuple #[]) ∧ (∃ r', DqRep w' g (l ++ [x]) r' ∧ (r' = r ∨ r' = some w.heap.size)) ∧ Keeps (fun k => k = g ∨ some k = r) w w' := by
  obtain ⟨ring, top, A, c, h', hr⟩ := h
  by_cases hf : l.length = ring.length
  · refine (push_full g x l w ring top A c h' hf hbig).mono fun e w' ⟨he, hd, hk⟩ => ⟨he, ⟨_, hd, .inr rfl⟩, hk.mono (fun i hi => .inl hi)⟩
  · refine (push_room g x l r w ring top A c h' hr (by have := h'.rng.1; omega)).mono fun e w' ⟨he, hd, hk⟩ => ⟨he, ⟨_, hd, .inl rfl⟩, hk⟩
end Go.Proofs.Ytajddbmmbhdnfaa
