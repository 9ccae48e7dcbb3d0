/-
  Package deque, walked: Push, Pop, Steal, Len.
-/
import Derived.Test.YtajddbmmbhdnfaaChecked
import Derived.Test.YtajddbmmbhdnfaaKeep
import Derived.Test.YtajddbmmbhdnfaaDeqLaw
import Derived.Test.YtajddbmmbhdnfaaStill
namespace Go.Proofs.Ytajddbmmbhdnfaa
set_option linter.unusedVariables false
set_option linter.unusedSimpArgs false
set_option maxRecDepth 100000
open Go.RowKit
set_option maxRecDepth 100000

theorem info_i64 : (Try.prog.info? 3).map (fun i => (i.zero, i.size, i.bytes)) = some (some (.int .i64 0), 1, 8) := by kernel_rfl

theorem rem_i64 (a b n : Nat) (h : a + b < 2 ^ 62) (hn : 0 < n) : (IntKind.i64.wrap (↑a + ↑b)).tmod ↑n = (((a + b) % n : Nat) : Int) := by
  rw [IntWalk.i64_in _ (by omega)]
  rfl

/-- a deque in block g, its ring in block r -/
structure DqAt (w : World) (g : Nat) (l : List Int) (ring : List Int) (top : Nat) (A : Option Addr) (c : Nat) : Prop where
  blk : Blk w g 77 [.slice A ring.length c, .int .i64 top, .int .i64 l.length]
  own : w.ownsRow (g + 1) 3 1 (.slice A ring.length c) ring.length (ints .i64 ring)
  rng : Deq.ringed ring top l
  small : ring.length ≤ 17592186044600
  small' : top ≤ ring.length

def DqRep (w : World) (g : Nat) (l : List Int) (r : Option Nat) : Prop := ∃ ring top A c, DqAt w g l ring top A c ∧ (Value.slice A ring.length c).ownBlock = r

theorem steal_none (g : Nat) (r : Option Nat) (w : World) (h : DqRep w g [] r) :
    Calls Try.prog 39 #[.pointer (some ⟨g, 0, none⟩)] w fun e w' => e = .returned (.tuple #[.int .i64 0, .bool false]) ∧ w = w' := by
  obtain ⟨ring, top, A, c, h, _⟩ := h
  have c2 := h.blk.cell 2
  simp only [List.getElem?_cons_succ, List.getElem?_cons_zero, List.length_nil] at c2
  go_enter Try.func39, Try.ntmps39
  go_wp2
  go_ret2
  exact ⟨rfl, rfl⟩

theorem pop_none (g : Nat) (r : Option Nat) (w : World) (h : DqRep w g [] r) :
    Calls Try.prog 43 #[.pointer (some ⟨g, 0, none⟩)] w fun e w' => e = .returned (.tuple #[.int .i64 0, .bool false]) ∧ w = w' := by
  obtain ⟨ring, top, A, c, h, _⟩ := h
  have c2 := h.blk.cell 2
  simp only [List.getElem?_cons_succ, List.getElem?_cons_zero, List.length_nil] at c2
  go_enter Try.func43, Try.ntmps43
  go_wp2
  go_ret2
  exact ⟨rfl, rfl⟩

theorem steal_some (g : Nat) (x : Int) (l : List Int) (r : Option Nat) (w : World) (h : DqRep w g (x :: l) r) :
    Calls Try.prog 39 #[.pointer (some ⟨g, 0, none⟩)] w fun e w' => e = .returned (.tuple #[.int .i64 x, .bool true]) ∧ DqRep w' g l r ∧ Keeps (fun k => k = g) w w' := by
  obtain ⟨ring, top, A, c, h, hr⟩ := h
  have hn : (x :: l).length ≤ ring.length := h.rng.1
  have hlen : (x :: l).length = l.length + 1 := rfl
  have htop : top < ring.length := h.rng.2.1 (by omega)
  have hx : ring[top]? = some x := by
    have := h.rng.2.2 0 (by simp)
    rwa [Nat.add_zero, Nat.mod_eq_of_lt htop] at this
  have hst := Deq.ring_steal h.rng (by simp)
  have hsm := h.small
  obtain ⟨b, c', hA, hle, hm, hb1, hb2⟩ := own_addr h.own (by omega)
  cases hA
  have hc := h.own.cellAt top (by omega)
  rw [ints, List.getElem?_map, hx] at hc
  simp only [Option.map_some] at hc
  have c0 := h.blk.cell 0
  have c1 := h.blk.cell 1
  have c2 := h.blk.cell 2
  simp only [List.getElem?_cons_succ, List.getElem?_cons_zero, hlen] at c0 c1 c2
  have hblk := h.blk
  have f1 := h.blk.frozen 1
  unfold maxLen at hm
  obtain ⟨n, hnn⟩ : ∃ n, n = ring.length := ⟨_, rfl⟩
  rw [← hnn] at htop hsm hle c0 hn
  have HN := Lib.hid hnn
  clear hx hst hnn
  have hn0 : n ≠ 0 := by omega
  obtain ⟨t, ht⟩ : ∃ t, t = (top + 1) % n := ⟨_, rfl⟩
  have htn : t < n := by rw [ht]; exact Nat.mod_lt _ (by omega)
  have HT := Lib.hid ht
  have hw : (IntKind.i64.wrap (↑top + 1)).tmod ↑n = (t : Int) := by rw [ht]; exact rem_i64 top 1 n (by omega) (by omega)
  clear ht
  go_enter Try.func39, Try.ntmps39
  go_wp2
  go_quiet (fail)
  go_wp2
  (refine still_tail 14 (by kernel_rfl) (by kernel_rfl) ?_; simp only [List.take_succ_cons, List.take_zero, List.drop_succ_cons, List.drop_zero]; repeat still_step; try refine wpStill_nil ?_)
  refine wpl_set_blk ((hblk.drewN nq).drewN 1) 1 (.int .i64 t) (by kernel_rfl) (by simp) rfl rfl rfl rfl rfl rfl ?_
  intro w2 hB2 hg2
  simp only [List.set_cons_succ, List.set_cons_zero, hlen] at hB2
  have d2 := hB2.cell 2
  simp only [List.getElem?_cons_succ, List.getElem?_cons_zero] at d2
  go_wp2_with (refine wpl_set_blk hB2 2 (.int .i64 l.length) (by kernel_rfl) (by simp) rfl rfl rfl rfl rfl rfl ?_; intro w3 hB3 hg3)
  go_ret2
  simp only [List.set_cons_succ, List.set_cons_zero, hlen] at hB3
  have hk3 : Keeps (fun k => k = g) w w3 := (((Keeps.of_grown hg2).undrewN.undrewN).trans (Keeps.of_grown hg3)).mono (fun i hi => by injection hi)
  refine ⟨rfl, ⟨ring, t, _, c, ⟨hB3, own_keeps h.own hk3 (fun g' hg' e => ?_), ?_, h.small, ?_⟩, hr⟩, hk3⟩
  · have := own_ge h.own g' hg'
    omega
  · rw [HT.out, HN.out]
    exact Deq.ring_steal h.rng (by simp)
  · have := HN.out
    omega

theorem pop_some (g : Nat) (x : Int) (l : List Int) (r : Option Nat) (w : World) (h : DqRep w g (l ++ [x]) r) :
    Calls Try.prog 43 #[.pointer (some ⟨g, 0, none⟩)] w fun e w' => e = .returned (.tuple #[.int .i64 x, .bool true]) ∧ DqRep w' g l r ∧ Keeps (fun k => k = g) w w' := by
  obtain ⟨ring, top, A, c, h, hr⟩ := h
  have hlen : (l ++ [x]).length = l.length + 1 := by simp
  have hn : l.length + 1 ≤ ring.length := by have := h.rng.1; omega
  have htop : top < ring.length := h.rng.2.1 (by omega)
  obtain ⟨t, ht⟩ : ∃ t, t = (top + l.length) % ring.length := ⟨_, rfl⟩
  have htn : t < ring.length := by rw [ht]; exact Nat.mod_lt _ (by omega)
  have hx : ring[t]? = some x := by
    have := h.rng.2.2 l.length (by simp)
    rw [ht, this]
    simp
  have hsm := h.small
  obtain ⟨b, c', hA, hle, hm, hb1, hb2⟩ := own_addr h.own (by omega)
  cases hA
  have hc := h.own.cellAt t (by omega)
  rw [ints, List.getElem?_map, hx] at hc
  simp only [Option.map_some] at hc
  have c0 := h.blk.cell 0
  have c1 := h.blk.cell 1
  have c2 := h.blk.cell 2
  simp only [List.getElem?_cons_succ, List.getElem?_cons_zero, hlen] at c0 c1 c2
  have hblk := h.blk
  have f1 := h.blk.frozen 1
  unfold maxLen at hm
  obtain ⟨n, hnn⟩ : ∃ n, n = ring.length := ⟨_, rfl⟩
  rw [← hnn] at htop hsm hle c0 hn htn ht
  have hn0 : n ≠ 0 := by omega
  have hw : (IntKind.i64.wrap (↑top + ↑l.length)).tmod ↑n = (t : Int) := by rw [ht]; exact rem_i64 top l.length n (by omega) (by omega)
  have htr : t < ring.length := by omega
  have HX := Lib.hid hx
  have HNN := Lib.hid hnn.symm
  clear ht hx hnn htr
  go_enter Try.func43, Try.ntmps43
  go_wp2_with (refine wpl_set_blk hblk 2 (.int .i64 l.length) (by kernel_rfl) (by simp) rfl rfl rfl rfl rfl rfl ?_; intro w3 hB3 hg3)
  simp only [List.set_cons_succ, List.set_cons_zero, hlen] at hB3
  have hk3 : Keeps (fun k => k = g) w w3 := (Keeps.of_grown hg3).mono (fun i hi => by injection hi)
  have hown3 := own_keeps h.own hk3 (fun g' hg' e => by have := own_ge h.own g' hg'; omega)
  have d3 := hown3.cellAt t (by rw [HNN.out]; omega)
  rw [ints, List.getElem?_map, HX.out] at d3
  simp only [Option.map_some] at d3
  have d0 := hB3.cell 0
  have d1 := hB3.cell 1
  have d2 := hB3.cell 2
  simp only [List.getElem?_cons_succ, List.getElem?_cons_zero] at d0 d1 d2
  rw [HNN.out] at d0
  clear hc c0 c1 c2 hblk f1
  go_quiet (fail)
  go_wp2
  go_ret2
  refine ⟨rfl, ⟨ring, top, _, c, ⟨hB3, hown3, ?_, h.small, h.small'⟩, hr⟩, hk3.drewN _⟩
  have := Deq.ring_pop h.rng
  rwa [List.dropLast_concat] at this
end Go.Proofs.Ytajddbmmbhdnfaa
