/-
  Where nothing races the order is no matter: the law, walked.
-/
import Derived.Test.YtcoijmnnnfogdaaShelf
import Derived.Test.YtcoijmnnnfogdaaSmP4
import Derived.Test.YtcoijmnnnfogdaaSmP2
import Derived.Test.YtcoijmnnnfogdaaSmP1
import Derived.Sort.OwnSortedInts
import Derived.Lib.SlKeysI
import Derived.Test.YtcoijmnnnfogdaaChecked
import Derived.Test.YtcoijmnnnfogdaaSmP3
import Derived.Lib.AppendZeros
import Derived.Laws.StructEq

namespace Go.Proofs.Ytcoijmnnnfogdaa
set_option linter.unusedVariables false
set_option linter.unusedSimpArgs false
set_option maxRecDepth 100000
open Go.RowKit

theorem insert_one (A : Option Addr) (c : Nat) (f : Value) (w : World) :
    Calls Try.prog 62 #[.slice A 1 c, .int .i64 0, .int .i64 1, f] w fun e w' => e = .returned (.tuple #[]) ∧ w' = w := by
  go_enter Try.func62, Try.ntmps62
  go_wp2
  go_loopw [8] (fun i wr => i = .int .i64 1 ∧ wr = w) (fun _ _ => 0)
  case atStart => exact ⟨rfl, rfl⟩
  case round =>
    obtain ⟨rfl, rfl⟩ := hrel
    go_wp2
    go_end0
    first | trivial | exact ⟨rfl, rfl⟩
theorem pdq_one (A : Option Addr) (c : Nat) (f : Value) (l : Int) (w : World) :
    Calls Try.prog 48 #[.slice A 1 c, .int .i64 0, .int .i64 1, .int .i64 l, f] w fun e w' => e = .returned (.tuple #[]) ∧ w' = w := by
  go_enter Try.func48, Try.ntmps48
  go_wp2
  go_loopw [1, 2] (fun i b wr => i = .int .i64 0 ∧ b = .int .i64 1 ∧ wr = w) (fun _ _ _ => 0)
  case atStart => exact ⟨rfl, rfl, rfl⟩
  case round =>
    obtain ⟨rfl, rfl, rfl⟩ := hrel
    go_wp2_with fail
    refine (insert_one _ _ _ _).mono ?_
    rintro e w1 ⟨rfl, rfl⟩
    go_wp2_with fail
    refine bodyPost_ret (results_none rfl _ _ _) rfl ?_
    first | trivial | exact ⟨rfl, rfl⟩
theorem sortf_one (A : Option Addr) (c : Nat) (f : Value) (w : World) :
    Calls Try.prog 41 #[.slice A 1 c, f] w fun e w' => e = .returned (.tuple #[]) ∧ w' = w := by
  go_enter Try.func41, Try.ntmps41
  go_wp2_with fail
  refine (Try.bits_Len 1 w (by decide) (by decide)).mono ?_
  rintro e w1 ⟨rfl, rfl⟩
  go_wp2_with fail
  refine (pdq_one _ _ _ _ _).mono ?_
  rintro e w2 ⟨rfl, rfl⟩
  go_wp2_with fail
  go_end0
  first | trivial | exact ⟨rfl, rfl⟩
theorem compact_pair1 (A : Option Addr) (c : Nat) (w : World) :
    Calls Try.prog 43 #[.slice A 1 c] w fun e w' => e = .returned (.slice A 1 c) ∧ w' = w := by
  go_enter Try.func43, Try.ntmps43
  go_wp2
  go_ret
  exact ⟨rfl, rfl⟩

set_option maxHeartbeats 4000000 in
theorem race_labels1 (t : Sp.T) (w : World) (cs : List Value) (hT : TmR w.heap.size w cs t) (hn : t.size ≤ 1048576) (hone : (Rc.races t).length = 1) :
    Calls Try.prog 31 #[.agg cs.toArray] w fun e w' => (∃ (A : Option Addr) (c : Nat), e = .returned (.slice A 1 c)) ∧ Below w.heap.size w w' := by
  obtain ⟨a0, a1, a2, a3, A4, a5, a6, rfl, -, -⟩ := hT.form
  have x0 := Blk.new w 26 [.int .i64 a0, .int .i64 a1, .bool a2, .int .i64 a3, .slice A4 a5 a6]
  unfold tcells at hT ⊢
  have hb0 : Below w.heap.size w (w.alloc (.cells [Value.int .i64 a0, .int .i64 a1, .bool a2, .int .i64 a3, .slice A4 a5 a6].toArray 26)) := below_alloc (Below.refl _ _) _
  go_enter Try.func31, Try.ntmps31
  go_wp2_with fail
  obtain ⟨q, hq⟩ : ∃ q, q = w.heap.size := ⟨_, rfl⟩
  have hT0 := tm_up (hT.later hb0) hb0.size
  generalize (w.alloc (.cells [Value.int .i64 a0, .int .i64 a1, .bool a2, .int .i64 a3, .slice A4 a5 a6].toArray 26)) = W0 at x0 hb0 hT0 ⊢
  rw [← hq] at x0 ⊢
  refine (leaves_any W0 _ t hT0 (by omega)).mono ?_
  rintro e w1 ⟨v1, rfl, ⟨PL, cL, rfl, hleL, hmL, -, hL⟩, hb1⟩
  have hX := Boxed.of (x0.below hb1) (hT0.later hb1) hb1.size
  have hbw := below_next hb1 hb0
  obtain ⟨⟨c0, c1, c2, c3, c4⟩, hT1⟩ := hX.look _ (Below.refl _ _)
  have gR := race_races t w1 _ hT1 hn
  rw [hone] at gR
  unfold maxLen at hmL
  clear x0 hb0 hT0 hb1 hq hT hT1 hX
  obtain ⟨N, hN⟩ : ∃ N, N = t.size := ⟨_, rfl⟩
  rw [← hN] at hleL hn ⊢
  have HN := Lib.hid hN
  clear hN
  go_wp2_with fail
  refine gR.mono ?_
  rintro e w2 ⟨u, rfl, hu, hb2⟩
  obtain ⟨AR, cR, rfl, hcR, hmR⟩ := own_slice hu
  have hus := SlV.of_own hu
  unfold maxLen at hmR
  have hbE := below_self hbw hb2
  clear gR c0 c1 c2 c3 c4 hu hbw
  go_wp2_with fail
  go_loopw [4, 14] (fun out i wr => ∃ k : Nat, k ≤ 1 ∧ i = .int .i64 (k : Int) ∧ Below w2.heap.size w2 wr ∧ ∃ cs, cs.length = k * 2 ∧ wr.ownsRow w2.heap.size 46 2 out k cs) (fun _ i _ => 1 - (intOf i).toNat)
  case atStart => exact ⟨0, Nat.zero_le _, rfl, Below.refl _ _, [], rfl, World.ownsRow_nil _ _ _ _⟩
  case round =>
    obtain ⟨k, hk, rfl, hb, ds, hdl, hown⟩ := hrel
    by_cases hlt : k < 1
    · obtain rfl : k = 0 := by omega
      obtain ⟨p, hp⟩ : ∃ p, (Rc.races t)[0]? = some p := ⟨_, List.getElem?_eq_getElem (by omega)⟩
      have hm := Rc.races_mem.1 (List.mem_of_getElem? hp)
      obtain ⟨g1, g2⟩ := Sp.prcs_get _ _ _ hp
      obtain ⟨_, _, e5, -, -, -, hcc⟩ := hus.below hb
      injection e5 with e5 _ e6
      subst e5 e6
      obtain ⟨bR, oR, rfl, hbR, hcR'⟩ := hcc.at_ (fun e => by rw [e] at g1; simp at g1)
      have c1 := hcR' _ _ g1
      have c2 := hcR' _ _ g2
      simp only [Nat.zero_mul, Nat.add_zero, Nat.zero_add] at c1 c2
      obtain ⟨a, b⟩ := p
      dsimp only at hm c1 c2
      have haN : a < N := by rw [HN.out]; omega
      have hbN : b < N := by rw [HN.out]; omega
      obtain ⟨y1, -, y3⟩ := Sp.acccs_get _ _ _ (Rc.acc_get (t := t) (n := a) (by rw [← HN.out]; exact haN))
      obtain ⟨-, -, z3⟩ := Sp.acccs_get _ _ _ (Rc.acc_get (t := t) (n := b) (by rw [← HN.out]; exact hbN))
      obtain ⟨bL, oL, rfl, hbL, hcL⟩ := hL.at_ (fun e => by rw [e] at y1; simp at y1)
      have hb12 := below_self hb2 hb
      obtain ⟨lA, hlA⟩ : ∃ C, C = (Rc.acc t a).2.2 := ⟨_, rfl⟩
      obtain ⟨lB, hlB⟩ : ∃ C, C = (Rc.acc t b).2.2 := ⟨_, rfl⟩
      rw [← hlA] at y3
      rw [← hlB] at z3
      have c3 := (hb12.cell hbL).trans (hcL _ _ y3)
      have c4 := (hb12.cell hbL).trans (hcL _ _ z3)
      rw [← Nat.add_assoc] at c3 c4
      have hbL' := Nat.lt_of_lt_of_le hbL hb12.size
      have hbA : Below w2.heap.size w2 (wr.alloc (.cells #[.int .i64 (a : Int), .int .i64 (b : Int)] 46)) := below_alloc hb _
      have hA : Blk (wr.alloc (.cells #[.int .i64 (a : Int), .int .i64 (b : Int)] 46)) wr.heap.size 46 [.int .i64 (a : Int), .int .i64 (b : Int)] := Blk.new _ _ _
      have hoA := hown.alloc (.cells #[.int .i64 (a : Int), .int .i64 (b : Int)] 46)
      have f3 : (wr.alloc (.cells #[.int .i64 (a : Int), .int .i64 (b : Int)] 46)).cell? ⟨bL, oL + a * 3 + 2, none⟩ = some (.int .i64 lA) := (World.cell?_alloc_lt wr _ _ hbL').trans c3
      have f4 : (wr.alloc (.cells #[.int .i64 (a : Int), .int .i64 (b : Int)] 46)).cell? ⟨bL, oL + b * 3 + 2, none⟩ = some (.int .i64 lB) := (World.cell?_alloc_lt wr _ _ hbL').trans c4
      clear hp hm g1 g2 hcc hcR' y1 y3 z3 hcL hlA hlB hb hown hb12
      go_wp2_with fail
      generalize (wr.alloc (.cells #[.int .i64 (a : Int), .int .i64 (b : Int)] 46)) = WA at hbA hA hoA f3 f4 ⊢
      have q0 := hA.cell 0
      have q1 := hA.cell 1
      simp only [List.getElem?_cons_zero, List.getElem?_cons_succ] at q0 q1
      clear c1 c2 c3 c4 hA
      have HB := Lib.hid (And.intro hbA hoA)
      clear hbA hoA
      have HM := Lib.hid (show 0 + 1 ≤ maxLen ∧ (0 + 1) * 16 ≤ 140737488355328 by unfold maxLen; omega)
      go_quiet (fail)
      have hoQ := own_keeps HB.out.2 (Keeps.of_below (below_drewN (Below.refl _ _) nq) (fun _ => False)) (fun _ _ => id)
      have hbQ := below_drewN HB.out.1 nq
      have hszQ := hbQ.size
      go_wp2_with (first
        | (at_builtin; refine wp_push_at _ _ _ _ (by first | rfl | simp) _ _ _ _ _ _ Try.underlying38 info_pair rfl (by decide) hoQ [.int .i64 (min lA lB), .int .i64 (max lA lB)] rfl (by simp [Value.oneCell']) HM.out.1 HM.out.2 hszQ rfl rfl rfl rfl ?_; intro v7 w7 hr7 hg7 hv7 hb7)
        | fail)
      have HZ := Lib.hid (And.intro hr7 (hbQ.trans hb7))
      clear hr7 hg7 hv7 hb7
      go_roundw
      case rel => exact ⟨1, Nat.le_refl _, by go_num, HZ.out.2, _, by simp [hdl], HZ.out.1⟩
      case measure => simp [intOf]
    · obtain rfl : k = 1 := by omega
      have hbF := below_self hbE hb
      obtain ⟨Ao, co, rfl, -, -⟩ := own_slice hown
      clear hown hb hus hL hbE hb2
      go_wp2_with fail
      refine (sortf_one _ _ _ _).mono ?_
      rintro e w3 ⟨rfl, rfl⟩
      go_wp2_with fail
      refine (compact_pair1 _ _ _).mono ?_
      rintro e w4 ⟨rfl, rfl⟩
      go_wp2_with fail
      go_ret
      exact ⟨⟨_, _, rfl⟩, hbF⟩
end Go.Proofs.Ytcoijmnnnfogdaa


namespace Go.Proofs.Ytcoijmnnnfogdaa
set_option linter.unusedVariables false
set_option linter.unusedSimpArgs false
set_option maxRecDepth 100000
open Go.RowKit Go.Sort

def srt (zs : List Int) : List Int := zs.mergeSort fun x y => decide (x ≤ y)
theorem srt_length (zs : List Int) : (srt zs).length = zs.length := (List.mergeSort_perm zs _).length_eq
theorem srt_perm {a b : List Int} (h : a.Perm b) : srt a = srt b := Go.mergeSort_of_perm_i h

theorem sort_own (v : Value) (zs : List Int) (w : World) (B : Nat) (h : w.ownsRow B 3 1 v zs.length (ints .i64 zs)) (hz : zs.length < 4611686018427387904) :
    Calls Try.prog 35 #[v] w fun e w' => e = .returned (.tuple #[]) ∧ w'.ownsRow B 3 1 v zs.length (ints .i64 (srt zs)) ∧ w.grownBy w' v.ownBlock := by
  rcases h.2 with ⟨rfl, h0⟩ | ⟨g, cap, cur, rfl, hB, hg, hle, hm, hsz, ht⟩
  · have hz0 : zs.length = 0 := h0
    rw [hz0]
    refine (Try.slices_Sort_int_none none 0 w).mono ?_
    rintro e w' ⟨rfl, rfl⟩
    have : zs = [] := List.eq_nil_of_length_eq_zero hz0
    subst this
    exact ⟨rfl, by simpa [srt] using h, World.grownBy.refl _ _⟩
  · have ht' : cur.toList.take zs.length = zs.map (Value.int .i64) := by simpa [ints] using ht
    have hgl : g < w.heap.size := (Array.getElem?_eq_some_iff.1 hg).1
    refine (Try.slices_Sort_int g 0 cap zs w (holds_of_blockI hg ht') hgl hz).mono ?_
    rintro e w' ⟨rfl, n, os, rfl⟩
    refine ⟨rfl, ?_, grownBy_sortedI _⟩
    have := ownsRow_sortedI (base := B) (n := n) (os := os) (ss := zs) (ts := srt zs) (srt_length zs) hB hg hle hm (by simpa using hsz)
    unfold srt at this ⊢
    simpa [ints] using this
end Go.Proofs.Ytcoijmnnnfogdaa


namespace Go.Proofs.Ytcoijmnnnfogdaa
set_option linter.unusedVariables false
set_option linter.unusedSimpArgs false
set_option maxRecDepth 100000
open Go.RowKit Go.Sort

theorem compact_le (zs : List Int) : (Lib.compact zs).length ≤ zs.length := by
  unfold Lib.compact Lib.compactUpTo
  rw [List.length_map]
  exact Nat.le_trans (List.length_filter_le _ _) (by simp)

theorem compact_own (v : Value) (zs : List Int) (w : World) (B : Nat) (h : w.ownsRow B 3 1 v zs.length (ints .i64 zs)) (hz : zs.length < 4611686018427387904) :
    Calls Try.prog 36 #[v] w fun e w' => ∃ u, e = .returned u ∧ w'.ownsRow B 3 1 u (Lib.compact zs).length (ints .i64 (Lib.compact zs)) ∧ w.grownBy w' v.ownBlock := by
  rcases h.2 with ⟨rfl, h0⟩ | ⟨g, cap, cur, rfl, hB, hg, hle, hm, hsz, ht⟩
  · have hz0 : zs.length = 0 := h0
    refine (Try.slices_Compact_int_empty none 0 w).mono ?_
    rintro e w' ⟨rfl, rfl⟩
    have : zs = [] := List.eq_nil_of_length_eq_zero hz0
    subst this
    exact ⟨_, rfl, by simpa [Lib.compact, Lib.compactUpTo] using h, World.grownBy.refl _ _⟩
  · have ht' : cur.toList.take zs.length = zs.map (Value.int .i64) := by simpa [ints] using ht
    have hgl : g < w.heap.size := (Array.getElem?_eq_some_iff.1 hg).1
    refine (Try.slices_Compact_int g 0 cap zs w (holds_of_blockI hg ht') (by omega) hle).mono ?_
    rintro e w' ⟨rfl, n, rfl⟩
    have hcl := compact_le zs
    have hl : (Lib.compact zs ++ List.replicate (zs.length - (Lib.compact zs).length) 0).length = zs.length := by
      rw [List.length_append, List.length_replicate]
      omega
    have hgrow : ∀ W : World, grow W #[] = W := fun W => by simp [grow]
    have hrow := ownsRow_sortedI (base := B) (n := n) (os := #[]) (ss := zs) (ts := Lib.compact zs ++ List.replicate (zs.length - (Lib.compact zs).length) 0) hl hB hg hle hm (by simpa using hsz)
    have hgr := grownBy_sortedI (w := w) (g := g) (n := n) (os := #[]) (Lib.compact zs ++ List.replicate (zs.length - (Lib.compact zs).length) 0).toArray
    rw [hgrow] at hrow hgr
    refine ⟨_, rfl, ?_, hgr⟩
    rcases hrow.2 with ⟨h1, -⟩ | ⟨g', cap', cur', e1, hB', hg', hle', hm', hsz', ht2⟩
    · simp at h1
    · injection e1 with e1 _ e2
      injection e1 with e1
      injection e1 with e1
      subst e1 e2
      refine ⟨by simp [ints], .inr ⟨g, cap, cur', rfl, hB', hg', by omega, hm', hsz', ?_⟩⟩
      have := congrArg (List.take (Lib.compact zs).length) ht2
      rw [List.take_take] at this
      have e3 : min (Lib.compact zs).length (zs.length * 1) = (Lib.compact zs).length * 1 := by omega
      rw [e3] at this
      rw [this]
      simp [ints]
end Go.Proofs.Ytcoijmnnnfogdaa


namespace Go.Proofs.Ytcoijmnnnfogdaa
set_option linter.unusedVariables false
set_option linter.unusedSimpArgs false
set_option maxRecDepth 100000
open Go.RowKit

/-- the cells of the first k races -/
def Rc.rcel (t : Sp.T) (k : Nat) : List Int := ((Rc.races t).take k).map fun p => (Rc.acc t p.1).1
def Rc.cellsL (t : Sp.T) : List Int := Lib.compact (srt (Rc.rcel t (Rc.races t).length))
theorem Rc.rcel_len {t : Sp.T} {k : Nat} (h : k ≤ (Rc.races t).length) : (Rc.rcel t k).length = k := by
  unfold Rc.rcel
  rw [List.length_map, List.length_take]
  omega
theorem Rc.rcel_succ {t : Sp.T} {k : Nat} {p : Nat × Nat} (h : (Rc.races t)[k]? = some p) : Rc.rcel t (k + 1) = Rc.rcel t k ++ [(Rc.acc t p.1).1] := by
  obtain ⟨h', rfl⟩ := List.getElem?_eq_some_iff.1 h
  unfold Rc.rcel
  rw [List.take_succ_eq_append_getElem h', List.map_append]
  rfl

set_option maxHeartbeats 4000000 in
theorem race_cells (t : Sp.T) (w : World) (cs : List Value) (hT : TmR w.heap.size w cs t) (hn : t.size ≤ 1048576) :
    Calls Try.prog 18 #[.agg cs.toArray] w fun e w' => ∃ u, e = .returned u ∧ SlV w' 1 u (Rc.cellsL t).length (ints .i64 (Rc.cellsL t)) ∧ Below w.heap.size w w' := by
  obtain ⟨a0, a1, a2, a3, A4, a5, a6, rfl, -, -⟩ := hT.form
  have x0 := Blk.new w 26 [.int .i64 a0, .int .i64 a1, .bool a2, .int .i64 a3, .slice A4 a5 a6]
  unfold tcells at hT ⊢
  have hb0 : Below w.heap.size w (w.alloc (.cells [Value.int .i64 a0, .int .i64 a1, .bool a2, .int .i64 a3, .slice A4 a5 a6].toArray 26)) := below_alloc (Below.refl _ _) _
  go_enter Try.func18, Try.ntmps18
  go_wp2_with fail
  obtain ⟨q, hq⟩ : ∃ q, q = w.heap.size := ⟨_, rfl⟩
  have hT0 := tm_up (hT.later hb0) hb0.size
  generalize (w.alloc (.cells [Value.int .i64 a0, .int .i64 a1, .bool a2, .int .i64 a3, .slice A4 a5 a6].toArray 26)) = W0 at x0 hb0 hT0 ⊢
  rw [← hq] at x0 ⊢
  refine (leaves_any W0 _ t hT0 (by omega)).mono ?_
  rintro e w1 ⟨v1, rfl, ⟨PL, cL, rfl, hleL, hmL, -, hL⟩, hb1⟩
  have hX := Boxed.of (x0.below hb1) (hT0.later hb1) hb1.size
  have hbw := below_next hb1 hb0
  obtain ⟨⟨c0, c1, c2, c3, c4⟩, hT1⟩ := hX.look _ (Below.refl _ _)
  have gR := race_races t w1 _ hT1 hn
  unfold maxLen at hmL
  clear x0 hb0 hT0 hb1 hq hT hT1 hX
  obtain ⟨N, hN⟩ : ∃ N, N = t.size := ⟨_, rfl⟩
  rw [← hN] at hleL hn ⊢
  have HN := Lib.hid hN
  clear hN
  go_wp2_with fail
  refine gR.mono ?_
  rintro e w2 ⟨u, rfl, hu, hb2⟩
  obtain ⟨AR, cR, rfl, hcR, hmR⟩ := own_slice hu
  have hus := SlV.of_own hu
  have hlen1 := Rc.racesK_len t t.size
  have hbig : (Rc.races t).length ≤ 1048576 * 1048576 := Nat.le_trans hlen1 (Nat.mul_le_mul (by rw [← HN.out]; exact hn) (by rw [← HN.out]; exact hn))
  obtain ⟨R, hR⟩ : ∃ R, R = (Rc.races t).length := ⟨_, rfl⟩
  rw [← hR] at hus hcR hbig ⊢
  have HR := Lib.hid hR
  unfold maxLen at hmR
  have hbE := below_self hbw hb2
  clear gR c0 c1 c2 c3 c4 hu hR hlen1 hbw
  go_wp2_with fail
  go_loopw [4, 12] (fun out i wr => ∃ k : Nat, k ≤ R ∧ i = .int .i64 (k : Int) ∧ Below w2.heap.size w2 wr ∧ wr.ownsRow w2.heap.size 3 1 out k (ints .i64 (Rc.rcel t k))) (fun _ i _ => R - (intOf i).toNat)
  case atStart => exact ⟨0, Nat.zero_le _, rfl, Below.refl _ _, World.ownsRow_nil _ _ _ _⟩
  case round =>
    obtain ⟨k, hk, rfl, hb, hown⟩ := hrel
    by_cases hlt : k < R
    · obtain ⟨p, hp⟩ : ∃ p, (Rc.races t)[k]? = some p := ⟨_, List.getElem?_eq_getElem (by rw [← HR.out]; exact hlt)⟩
      have hm := Rc.races_mem.1 (List.mem_of_getElem? hp)
      have hsc := Rc.rcel_succ hp
      obtain ⟨g1, g2⟩ := Sp.prcs_get _ _ _ hp
      obtain ⟨_, _, e5, -, -, -, hcc⟩ := hus.below hb
      injection e5 with e5 _ e6
      subst e5 e6
      obtain ⟨bR, oR, rfl, hbR, hcR'⟩ := hcc.at_ (fun e => by rw [e] at g1; simp at g1)
      have c1 := hcR' _ _ g1
      have c2 := hcR' _ _ g2
      rw [← Nat.add_assoc] at c2
      obtain ⟨a, b⟩ := p
      dsimp only at hm c1 c2 hsc
      have haN : a < N := by rw [HN.out]; omega
      obtain ⟨y1, -, -⟩ := Sp.acccs_get _ _ _ (Rc.acc_get (t := t) (n := a) (by rw [← HN.out]; exact haN))
      obtain ⟨bL, oL, rfl, hbL, hcL⟩ := hL.at_ (fun e => by rw [e] at y1; simp at y1)
      have hb12 := below_self hb2 hb
      have c3 := (hb12.cell (p := ⟨bL, oL + a * 3, none⟩) hbL).trans (hcL _ _ y1)
      have hbL' := Nat.lt_of_lt_of_le hbL hb12.size
      obtain ⟨C, hC⟩ : ∃ C, C = (Rc.acc t a).1 := ⟨_, rfl⟩
      rw [← hC] at c3 hsc
      have hbA : Below w2.heap.size w2 (wr.alloc (.cells #[.int .i64 (a : Int), .int .i64 (b : Int)] 46)) := below_alloc hb _
      have hoA := hown.alloc (.cells #[.int .i64 (a : Int), .int .i64 (b : Int)] 46)
      have hszA := hbA.size
      have HM := Lib.hid (show k + 1 ≤ maxLen ∧ (k + 1) * 8 ≤ 140737488355328 by unfold maxLen; omega)
      have HS := Lib.hid (And.intro hsc hbA)
      clear hp hm hsc g1 g2 hcc hcR' y1 hcL hC hbA hb hown hb12
      go_wp2_with (first
        | (at_builtin; refine wp_push_at _ _ _ _ (by first | rfl | simp) _ _ _ _ _ _ Try.underlying33 info_rc rfl (by decide) hoA [.int .i64 C] rfl (by simp [Value.oneCell']) HM.out.1 HM.out.2 hszA rfl rfl rfl rfl ?_; intro v7 w7 hr7 hg7 hv7 hb7)
        | fail)
      have HZ := Lib.hid (And.intro hr7 (HS.out.2.trans hb7))
      clear hr7 hg7 hv7 hb7 hoA
      go_roundw
      case rel => exact ⟨k + 1, by omega, by go_num, HZ.out.2, by rw [HS.out.1]; simpa [ints] using HZ.out.1⟩
      case measure => simp [intOf]; omega
    · obtain rfl : R = k := by omega
      have hl : (Rc.rcel t R).length = R := Rc.rcel_len (by rw [HR.out]; exact Nat.le_refl _)
      have hso := sort_own _ (Rc.rcel t R) wr w2.heap.size (by rw [hl]; exact hown) (by rw [hl]; omega)
      have hbF := below_self hbE hb
      have hws := hbE.size
      have hvb := hown.lt
      obtain ⟨Ao, co, rfl, hco, hmo⟩ := own_slice hown
      unfold maxLen at hmo
      have HF := Lib.hid (And.intro hbF hl)
      clear hown hb hus hL hbE hbF hl hb2
      go_wp2_with fail
      refine hso.mono ?_
      rintro e w4 ⟨rfl, hr4, hg4⟩
      have hsl := srt_length (Rc.rcel t R)
      rw [← hsl] at hr4
      have hcm := compact_own _ (srt (Rc.rcel t R)) w4 w2.heap.size hr4 (by rw [hsl, HF.out.2]; omega)
      clear hso
      go_wp2_with fail
      refine hcm.mono ?_
      rintro e w5 ⟨u5, rfl, hr5, hg5⟩
      have hs5 := SlV.of_own hr5
      have hb4 := HF.out.1.grown hg4 HF.out.1.size (fun i hi => by have := (hvb i hi).1; omega)
      have hbZ := hb4.grown hg5 hb4.size (fun i hi => by have := (hvb i hi).1; omega)
      have H5 := Lib.hid (And.intro hs5 hbZ)
      obtain ⟨A5, d5, rfl, -, -⟩ := own_slice hr5
      clear hcm hr4 hr5 hg4 hg5 hs5 hb4 hbZ hvb
      go_wp2_with fail
      go_ret
      refine ⟨_, rfl, ?_, H5.out.2⟩
      have := H5.out.1
      unfold Rc.cellsL
      rw [← HR.out]
      exact this
end Go.Proofs.Ytcoijmnnnfogdaa


namespace Go.Proofs.Ytcoijmnnnfogdaa.Rc
set_option linter.unusedVariables false
set_option linter.unusedSimpArgs false
set_option maxRecDepth 100000
open Sp (T Acc)

theorem bf_trans {t : T} {i j k : Nat} (h1 : t.bf i j) (h2 : t.bf j k) : t.bf i k := ⟨Nat.lt_trans h1.1 h2.1, Nat.lt_trans h1.2 h2.2⟩
def ahd (t : T) (a b n : Nat) : Bool := !(n == a || n == b) && (decide (t.bf n a) || decide (t.bf n b))
def bhd (t : T) (a b n : Nat) : Bool := !(n == a || n == b) && !(decide (t.bf n a) || decide (t.bf n b))
theorem ahd_comm (t : T) (a b : Nat) : ahd t a b = ahd t b a := by
  funext n
  unfold ahd
  rw [Bool.or_comm (n == a), Bool.or_comm (decide (t.bf n a))]
theorem bhd_comm (t : T) (a b : Nat) : bhd t a b = bhd t b a := by
  funext n
  unfold bhd
  rw [Bool.or_comm (n == a), Bool.or_comm (decide (t.bf n a))]
def ahL (t : T) (a b k : Nat) : List Nat := (List.range k).filter (ahd t a b)
def bhL (t : T) (a b k : Nat) : List Nat := (List.range k).filter (bhd t a b)
theorem ahL_succ (t : T) (a b k : Nat) : ahL t a b (k + 1) = ahL t a b k ++ if ahd t a b k then [k] else [] := by
  unfold ahL
  rw [List.range_succ, List.filter_append]
  simp only [List.filter_cons, List.filter_nil]
theorem bhL_succ (t : T) (a b k : Nat) : bhL t a b (k + 1) = bhL t a b k ++ if bhd t a b k then [k] else [] := by
  unfold bhL
  rw [List.range_succ, List.filter_append]
  simp only [List.filter_cons, List.filter_nil]
theorem ahL_len (t : T) (a b k : Nat) : (ahL t a b k).length ≤ k := Nat.le_trans (List.length_filter_le _ _) (by simp)
theorem bhL_len (t : T) (a b k : Nat) : (bhL t a b k).length ≤ k := Nat.le_trans (List.length_filter_le _ _) (by simp)
def apL (t : T) (a b : Nat) : List Nat := ahL t a b t.size ++ ([a, b] ++ bhL t a b t.size)
structure Apt (t : T) (a b : Nat) : Prop where
  la : a < t.size
  lb : b < t.size
  ne : a ≠ b
  ab : ¬ t.bf a b
  ba : ¬ t.bf b a
theorem Apt.swap {t : T} {a b : Nat} (h : Apt t a b) : Apt t b a := ⟨h.lb, h.la, fun e => h.ne e.symm, h.ba, h.ab⟩
theorem ahL_mem {t : T} {a b k n : Nat} : n ∈ ahL t a b k ↔ n < k ∧ n ≠ a ∧ n ≠ b ∧ (t.bf n a ∨ t.bf n b) := by
  unfold ahL ahd
  rw [List.mem_filter, List.mem_range]
  simp [and_assoc]
theorem bhL_mem {t : T} {a b k n : Nat} : n ∈ bhL t a b k ↔ n < k ∧ n ≠ a ∧ n ≠ b ∧ ¬ (t.bf n a ∨ t.bf n b) := by
  unfold bhL bhd
  rw [List.mem_filter, List.mem_range]
  simp [and_assoc]
theorem apL_mem {t : T} {a b : Nat} (h : Apt t a b) (n : Nat) : n ∈ apL t a b ↔ n < t.size := by
  unfold apL
  rw [List.mem_append, List.mem_append, ahL_mem, bhL_mem]
  have la := h.la
  have lb := h.lb
  constructor
  · rintro (h1 | h1 | h1)
    · exact h1.1
    · rcases List.mem_cons.1 h1 with rfl | h1
      · exact la
      · rw [List.mem_singleton] at h1
        omega
    · exact h1.1
  · intro hn
    by_cases ea : n = a
    · exact .inr (.inl (by rw [ea]; simp))
    by_cases eb : n = b
    · exact .inr (.inl (by rw [eb]; simp))
    by_cases hb : t.bf n a ∨ t.bf n b
    · exact .inl ⟨hn, ea, eb, hb⟩
    · exact .inr (.inr ⟨hn, ea, eb, hb⟩)
theorem apL_nodup {t : T} {a b : Nat} (h : Apt t a b) : (apL t a b).Nodup := by
  unfold apL
  refine List.nodup_append.2 ⟨List.nodup_range.filter _, List.nodup_append.2 ⟨?_, List.nodup_range.filter _, ?_⟩, ?_⟩
  · simp [h.ne]
  · intro x hx y hy e
    subst e
    have := bhL_mem.1 hy
    rcases List.mem_cons.1 hx with e | hx
    · exact this.2.1 e
    · exact this.2.2.1 (List.mem_singleton.1 hx)
  · intro x hx y hy e
    subst e
    have h1 := ahL_mem.1 hx
    rcases List.mem_append.1 hy with hy | hy
    · rcases List.mem_cons.1 hy with e | hy
      · exact h1.2.1 e
      · exact h1.2.2.1 (List.mem_singleton.1 hy)
    · exact (bhL_mem.1 hy).2.2.2 h1.2.2.2
theorem apL_up {t : T} {a b : Nat} (h : Apt t a b) : (apL t a b).Pairwise fun x y => ¬ t.bf y x := by
  have hr : ∀ p : Nat → Bool, ((List.range t.size).filter p).Pairwise fun x y => ¬ t.bf y x := fun p => (List.pairwise_lt_range.imp fun hlt hb => by have := hb.1; omega).filter p
  unfold apL
  refine List.pairwise_append.2 ⟨hr _, List.pairwise_append.2 ⟨?_, hr _, ?_⟩, ?_⟩
  · simp [h.ba]
  · intro x hx y hy hb
    have h1 := (bhL_mem.1 hy).2.2.2
    rcases List.mem_cons.1 hx with e | hx
    · rw [e] at hb
      exact h1 (.inl hb)
    · rw [List.mem_singleton.1 hx] at hb
      exact h1 (.inr hb)
  · intro x hx y hy hb
    have h1 := (ahL_mem.1 hx).2.2.2
    rcases List.mem_append.1 hy with hy | hy
    · rcases List.mem_cons.1 hy with e | hy
      · rw [e] at hb
        rcases h1 with h1 | h1
        · have := h1.1
          have := hb.1
          omega
        · exact h.ab (bf_trans hb h1)
      · rw [List.mem_singleton.1 hy] at hb
        rcases h1 with h1 | h1
        · exact h.ba (bf_trans hb h1)
        · have := h1.1
          have := hb.1
          omega
    · refine (bhL_mem.1 hy).2.2.2 (h1.imp (fun h1 => bf_trans hb h1) (fun h1 => bf_trans hb h1))
theorem right_up {t : T} {ns : List Nat} (hn : ns.Nodup) (hm : ∀ n, n ∈ ns ↔ n < t.size) (hp : ns.Pairwise fun x y => ¬ t.bf y x) : Right t ns := by
  refine ⟨?_, fun x hx => (hm x).1 hx, hn, fun i j hij hj hr => ?_⟩
  · have h1 := hn.length_le_of_subset (l₂ := List.range t.size) (fun y hy => List.mem_range.2 ((hm y).1 hy))
    have h2 := (List.nodup_range (n := t.size)).length_le_of_subset (l₂ := ns) (fun y hy => (hm y).2 (List.mem_range.1 hy))
    simp at h1 h2
    omega
  · obtain ⟨p, hp1⟩ := List.getElem?_of_mem ((hm i).2 (by omega))
    obtain ⟨q, hq1⟩ := List.getElem?_of_mem ((hm j).2 hj)
    rw [pos_eq hn hp1, pos_eq hn hq1]
    refine Decidable.byContradiction fun hlt => ?_
    have hne : p ≠ q := fun e => by
      subst e
      rw [hp1] at hq1
      injection hq1 with hq1
      omega
    obtain ⟨hpl, e1⟩ := List.getElem?_eq_some_iff.1 hp1
    obtain ⟨hql, e2⟩ := List.getElem?_eq_some_iff.1 hq1
    have := List.pairwise_iff_getElem.1 hp q p hql hpl (by omega)
    rw [e1, e2] at this
    exact this ⟨hij, hr⟩
theorem right_ap {t : T} {a b : Nat} (h : Apt t a b) : Right t (apL t a b) := right_up (apL_nodup h) (apL_mem h) (apL_up h)

/-! ### what they find -/
theorem seeL_get {t : T} {ns : List Nat} {x : Nat} (hx : x < t.size) : (seeL t ns)[x]? = some (lw t (ns.take (pos ns x)) (acc t x).1 - 1) := by
  unfold seeL
  rw [List.getElem?_map, List.getElem?_range hx]
  rfl
theorem lw_from {t : T} {pre : List Nat} {c : Int} {a : Nat} (h : lw t pre c = (a : Int) + 1) : a ∈ pre := by
  unfold lw at h
  rw [lw_last] at h
  rcases e : (pre.filter (isw t c)).getLast? with _ | y
  · rw [e] at h
    simp at h
    omega
  · rw [e] at h
    have hy := (List.mem_filter.1 (List.mem_of_getLast? e)).1
    simp at h
    have : y = a := by omega
    rw [← this]
    exact hy
theorem apL_pos2 {t : T} {a b : Nat} (h : Apt t a b) : (apL t a b).take (pos (apL t a b) b) = ahL t a b t.size ++ [a] := by
  have hp : (apL t a b)[(ahL t a b t.size).length + 1]? = some b := by
    unfold apL
    rw [List.getElem?_append_right (by omega)]
    simp
  rw [pos_eq (apL_nodup h) hp]
  unfold apL
  rw [List.take_append]
  simp
  exact List.take_of_length_le (by omega)
theorem apL_pos1 {t : T} {a b : Nat} (h : Apt t a b) : (apL t a b).take (pos (apL t a b) a) = ahL t a b t.size := by
  have hp : (apL t a b)[(ahL t a b t.size).length]? = some a := by
    unfold apL
    rw [List.getElem?_append_right (by omega)]
    simp
  rw [pos_eq (apL_nodup h) hp]
  unfold apL
  rw [List.take_append]
  simp
/-- who is behind a writer finds it, and does not where it is ahead of it -/
theorem ap_differ {t : T} {a b : Nat} (h : Apt t a b) (hc : clash t a b = true) (hw : (acc t a).2.1 = true) : (seeL t (apL t a b))[b]? ≠ (seeL t (apL t b a))[b]? := by
  rw [seeL_get h.lb, seeL_get h.lb, apL_pos2 h, apL_pos1 h.swap]
  have hi : isw t (acc t b).1 a = true := by
    unfold clash at hc
    unfold isw
    rw [hw, Bool.true_and]
    exact (Bool.and_eq_true_iff.1 hc).1
  rw [lw_snoc, if_pos hi]
  intro e
  injection e with e
  have := lw_from (t := t) (pre := ahL t b a t.size) (c := (acc t b).1) (a := a) (by omega)
  exact (ahL_mem.1 this).2.2.1 rfl
end Go.Proofs.Ytcoijmnnnfogdaa.Rc


namespace Go.Proofs.Ytcoijmnnnfogdaa
set_option linter.unusedVariables false
set_option linter.unusedSimpArgs false
set_option maxRecDepth 100000
open Go.RowKit

theorem info_int3J : (Try.prog.info? 3).map (fun i => (i.zero, i.size, i.bytes)) = some (some (.int .i64 0), 1, 8) := by kernel_rfl
theorem info_parts1J {P : Program} {t : TypeId} {z : Value} {s b : Nat} (h : (P.info? t).map (fun i => (i.zero, i.size, i.bytes)) = some (some z, s, b)) : ∃ i, P.info? t = some i ∧ i.zero = some z ∧ i.size = s ∧ i.bytes = b := by
  obtain ⟨i, hi, he⟩ := Option.map_eq_some_iff.1 h
  injection he with h1 h2
  injection h2 with h2 h3
  exact ⟨i, hi, h1, h2, h3⟩

theorem grow_intsJ (n : Nat) (w : World) (hn : n ≤ 137438953472) :
    Calls Try.prog 44 #[.slice none 0 0, .int .i64 n] w fun e w' => ∃ v, e = .returned v ∧ w'.ownsRow w.heap.size 3 1 v 0 [] ∧ Below w.heap.size w w' := by
  rcases Nat.eq_zero_or_pos n with rfl | hpos
  · go_enter Try.func44, Try.ntmps44
    go_wp2
    go_ret
    exact ⟨_, rfl, World.ownsRow_nil _ _ _ _, Below.refl _ _⟩
  · obtain ⟨i, hi, hz0, hz1, hz2⟩ := info_parts1J info_int3J
    have hcap := grownCap_ge w n 0 3
    have hcm := grownCap_le_maxLen w n 0 3 (by unfold maxLen; omega)
    have hr := fun ty kq => Lib.run_append_nil_zeros (P := Try.prog) w 33 3 ty 3 i _ kq .i64 Try.underlying33 Try.underlying3 hi hz0 n hpos (by omega) (by omega) (by rw [hz2]; omega)
    obtain ⟨cap, hc⟩ : ∃ cap, cap = grownCap w n 0 3 := ⟨_, rfl⟩
    rw [← hc] at hcap hcm hr
    have hcz : (Builtin.zeroCells (Value.int IntKind.i64 0).cells n ++ Builtin.zeroCells (Value.int IntKind.i64 0).cells (cap - n)).size = cap * 1 := by
      simp only [Array.size_append, size_zeroCells, Value.cells, List.size_toArray, List.length_cons, List.length_nil]
      omega
    generalize (Builtin.zeroCells (Value.int IntKind.i64 0).cells n ++ Builtin.zeroCells (Value.int IntKind.i64 0).cells (cap - n)) = cur at hr hcz
    have hcm' := hcm
    unfold maxLen at hcm
    have hend : (w.drew.alloc (.cells cur 3)).ownsRow w.heap.size 3 1 (.slice (some ⟨w.heap.size, 0, none⟩) 0 cap) 0 [] ∧ Below w.heap.size w (w.drew.alloc (.cells cur 3)) :=
      ⟨⟨rfl, .inr ⟨w.heap.size, cap, cur, rfl, Nat.le_refl _, heap_alloc_new w.drew _, Nat.zero_le _, hcm', hcz, by simp⟩⟩, below_alloc (below_drew (Below.refl _ _)) _⟩
    have HR := Lib.hid hr
    have HE := Lib.hid hend
    clear hr hend hc hcz hz0 hz1 hz2 hi hcm'
    go_enter Try.func44, Try.ntmps44
    go_wp2_with (at_builtin; refine Lib.wpList_append_run _ rfl _ _ _ _ rfl _ _ rfl rfl _ _ (HR.out _ _) ?_)
    go_ret
    exact ⟨_, rfl, HE.out.1, HE.out.2⟩

theorem take_snoc_cc {α : Type} {ls : List α} {k : Nat} {a : α} (h : ls[k]? = some a) : ls.take (k + 1) = ls.take k ++ [a] := by
  obtain ⟨h', rfl⟩ := List.getElem?_eq_some_iff.1 h
  exact List.take_succ_eq_append_getElem h'
/-- values that are slices of such lists -/
def RsI (w : World) (os : List Value) (ls : List (List Int)) : Prop := os.length = ls.length ∧ ∀ (k : Nat) (a : List Int), ls[k]? = some a → ∃ u, os[k]? = some u ∧ SlV w 1 u a.length (ints .i64 a)
theorem flat_take_leJ (ls : List (List Int)) (k : Nat) : (ls.take k).flatten.length ≤ ls.flatten.length := by
  conv => rhs; rw [← List.take_append_drop k ls, List.flatten_append, List.length_append]
  omega
/-- how many the first k hold -/
def flenJ (ls : List (List Int)) (k : Nat) : Nat := (ls.take k).flatten.length
theorem flat_snocJ {ls : List (List Int)} {k : Nat} {a : List Int} (h : ls[k]? = some a) : (ls.take (k + 1)).flatten = (ls.take k).flatten ++ a := by
  rw [take_snoc_cc h, List.flatten_append, List.flatten_singleton]

theorem flenJ_le (ls : List (List Int)) (k : Nat) : flenJ ls k ≤ ls.flatten.length := flat_take_leJ ls k
theorem flenJ_snoc {ls : List (List Int)} {k : Nat} {a : List Int} (h : ls[k]? = some a) : flenJ ls (k + 1) = flenJ ls k + a.length := by
  unfold flenJ
  rw [flat_snocJ h, List.length_append]
theorem flenJ_all (ls : List (List Int)) : flenJ ls ls.length = ls.flatten.length := by unfold flenJ; rw [List.take_length]

set_option maxHeartbeats 2000000 in
theorem concat_intsJ (os : List Value) (ls : List (List Int)) (v : Value) (w : World) (h : SlV w 1 v os.length os) (hp : RsI w os ls) (hsz : ls.flatten.length ≤ 1099511627) :
    Calls Try.prog 34 #[v] w fun e w' => ∃ u, e = .returned u ∧ w'.ownsRow w.heap.size 3 1 u ls.flatten.length (ints .i64 ls.flatten) ∧ Below w.heap.size w w' := by
  obtain ⟨A, c, rfl, hle, hm, hlen, hc⟩ := h
  unfold maxLen at hm
  have hone : ∀ k, k < os.length → ∃ (A' : Option Addr) (c' : Nat) (a : List Int), os[k]? = some (.slice A' a.length c') ∧ ls[k]? = some a ∧ a.length ≤ c' ∧ c' ≤ maxLen ∧ SlV w 1 (.slice A' a.length c') a.length (ints .i64 a) := fun k hk => by
    obtain ⟨a, ha⟩ : ∃ a, ls[k]? = some a := ⟨_, List.getElem?_eq_getElem (by rw [← hp.1]; exact hk)⟩
    obtain ⟨u, hu, hs⟩ := hp.2 k a ha
    obtain ⟨A', c', rfl, h1, h2, -⟩ := id hs
    exact ⟨A', c', a, hu, ha, h1, h2, hs⟩
  have HL := Lib.hid hp.1
  have HO := Lib.hid (And.intro hone hsz)
  clear hone hsz hp hlen
  go_enter Try.func34, Try.ntmps34
  go_wp2
  go_loop [3, 11] (fun s i => ∃ k : Nat, k ≤ os.length ∧ i = .int .i64 k ∧ s = .int .i64 (flenJ ls k : Nat)) (fun s i => os.length - (intOf i).toNat)
  case atStart => exact ⟨0, Nat.zero_le _, rfl, rfl⟩
  case round =>
    obtain ⟨k, hk, rfl, rfl⟩ := hrel
    have hb := flenJ_le ls k
    have hb2 := HO.out.2
    by_cases hlt : k < os.length
    · obtain ⟨A', c', a, hu, hpk, hle', hm', -⟩ := HO.out.1 k hlt
      obtain ⟨b, o, rfl, hbb, hcc⟩ := hc.at_ (fun e => by rw [e] at hu; simp at hu)
      have c1 := hcc _ _ hu
      have hln := flenJ_snoc hpk
      have hb3 := flenJ_le ls (k + 1)
      rw [hln] at hb3
      have HN := Lib.hid hln
      obtain ⟨l, hl⟩ : ∃ l, l = flenJ ls k := ⟨_, rfl⟩
      rw [← hl] at hb hb3 ⊢
      have HK := Lib.hid hl
      clear hc hcc hu hpk hln hl
      go_wp2
      go_round
      case rel => exact ⟨k + 1, by omega, by go_num, by rw [HN.out, ← HK.out]; go_num⟩
      case measure => simp [intOf]; omega
    · have HK := Lib.hid (show k = ls.length by have := HL.out; omega)
      clear hb
      go_wp2_with fail
      refine (grow_intsJ _ _ (by rw [HK.out, flenJ_all]; omega)).mono ?_
      rintro e w1 ⟨v1, rfl, hown1, hb1⟩
      go_wp2_with fail
      go_loopw [6, 27] (fun s i wr => ∃ k : Nat, k ≤ os.length ∧ i = .int .i64 k ∧ wr.ownsRow w.heap.size 3 1 s (flenJ ls k) (ints .i64 (ls.take k).flatten) ∧ Below w.heap.size w wr) (fun s i _ => os.length - (intOf i).toNat)
      case atStart => exact ⟨0, Nat.zero_le _, rfl, hown1, hb1⟩
      case round =>
        clear hb1 hown1
        obtain ⟨k, hk, rfl, hown, hbw⟩ := hrel
        have hb := flenJ_le ls k
        by_cases hlt : k < os.length
        · obtain ⟨A', c', a, hu, hpk, hle', hm', hpr⟩ := HO.out.1 k hlt
          obtain ⟨b, o, rfl, hbb, hcc⟩ := hc.at_ (fun e => by rw [e] at hu; simp at hu)
          have c1 := (hbw.cell (p := ⟨b, o + k, none⟩) hbb).trans (hcc _ _ hu)
          have hln : (ls.take (k + 1)).flatten = (ls.take k).flatten ++ a := flat_snocJ hpk
          have hfl := flenJ_snoc hpk
          have hb3 := flenJ_le ls (k + 1)
          rw [hfl] at hb3
          obtain ⟨A'', c'', he, -, -, hil, hcd⟩ := hpr.below hbw
          injection he with e1 e2 e3
          subst e1
          have HN := Lib.hid (And.intro hln hfl)
          have n63 : flenJ ls k + a.length ≤ maxLen := by unfold maxLen; omega
          have n47 : (flenJ ls k + a.length) * 8 ≤ 140737488355328 := by omega
          have hle0 := hbw.size
          have hone : ∀ u ∈ ints .i64 a, u.oneCell' = true := ints_one1 .i64 _
          clear hc hcc hu hpk hln hfl e2 e3
          go_wp2_with (at_builtin; refine wp_append wr _ _ _ _ _ _ _ _ Try.underlying33 info_int3J rfl (by decide) hown hcd hil hone n63 n47 hle0 rfl rfl rfl rfl ?_; intro v' w4 hown4 _ _ hb4)
          have hbw4 := hbw.trans hb4
          clear hown hcd hb4 hbw hpr
          go_roundw
          case rel => exact ⟨k + 1, by omega, by go_num, by rw [HN.out.1, HN.out.2]; simpa [ints] using hown4, hbw4⟩
          case measure => simp [intOf]; omega
        · have HK2 := Lib.hid (show k = ls.length by have := HL.out; omega)
          clear hc
          go_wp2
          go_ret
          exact ⟨_, rfl, by rw [HK2.out, List.take_length, flenJ_all] at hown; exact hown, hbw⟩
end Go.Proofs.Ytcoijmnnnfogdaa


namespace Go.Proofs.Ytcoijmnnnfogdaa
set_option linter.unusedVariables false
set_option linter.unusedSimpArgs false
set_option maxRecDepth 100000
open Go.RowKit

theorem before_nat {t : Sp.T} {a b : Nat} (ha : a < t.size) (hb : b < t.size) : t.before (a : Int) (b : Int) = decide (t.bf a b) := by
  unfold Sp.T.before
  rw [Bool.eq_iff_iff]
  simp
  omega

theorem concat3 (w : World) (v1 v2 : Value) (l1 l2 : List Int) (x y : Int) (h1 : SlV w 1 v1 l1.length (ints .i64 l1)) (h2 : SlV w 1 v2 l2.length (ints .i64 l2)) (hsz : l1.length + l2.length ≤ 1000000000) :
    Calls Try.prog 34 #[.slice (some ⟨w.heap.size + 1, 0, none⟩) 3 3] ((w.alloc (.cells #[.int .i64 x, .int .i64 y] 3)).alloc (.cells #[v1, .slice (some ⟨w.heap.size, 0, none⟩) 2 2, v2] 33)) fun e w' => ∃ u, e = .returned u ∧ w'.ownsRow w.heap.size 3 1 u (l1 ++ ([x, y] ++ l2)).length (ints .i64 (l1 ++ ([x, y] ++ l2))) ∧ Below w.heap.size w w' := by
  have e1 := SlV.lit w [.int .i64 x, .int .i64 y] 3 1 2 rfl (by decide)
  have e2 := SlV.lit (w.alloc (.cells #[.int .i64 x, .int .i64 y] 3)) [v1, .slice (some ⟨w.heap.size, 0, none⟩) 2 2, v2] 33 1 3 rfl (by decide)
  rw [show (w.alloc (.cells #[.int .i64 x, .int .i64 y] 3)).heap.size = w.heap.size + 1 by simp] at e2
  have hb2 : Below w.heap.size w ((w.alloc (.cells #[.int .i64 x, .int .i64 y] 3)).alloc (.cells #[v1, .slice (some ⟨w.heap.size, 0, none⟩) 2 2, v2] 33)) := below_alloc (below_alloc (Below.refl _ _) _) _
  have hfl : [l1, [x, y], l2].flatten = l1 ++ ([x, y] ++ l2) := by simp
  have hb1 : w.heap.size ≤ ((w.alloc (.cells #[.int .i64 x, .int .i64 y] 3)).alloc (.cells #[v1, .slice (some ⟨w.heap.size, 0, none⟩) 2 2, v2] 33)).heap.size := hb2.size
  refine (concat_intsJ [v1, .slice (some ⟨w.heap.size, 0, none⟩) 2 2, v2] [l1, [x, y], l2] _ _ e2 ⟨rfl, fun k a hk => ?_⟩ (by rw [hfl]; simp; omega)).mono ?_
  · match k, hk with
    | 0, hk =>
      injection hk with hk
      subst hk
      exact ⟨_, rfl, h1.below hb2⟩
    | 1, hk =>
      injection hk with hk
      subst hk
      exact ⟨_, rfl, e1.alloc _⟩
    | 2, hk =>
      injection hk with hk
      subst hk
      exact ⟨_, rfl, h2.below hb2⟩
    | k + 3, hk => simp at hk
  · rintro e w' ⟨u, h3, h4, h5⟩
    rw [hfl] at h4
    exact ⟨u, h3, own_base h4 hb1, below_self hb2 h5⟩

def ilL (l : List Nat) : List Value := ints .i64 (l.map fun n : Nat => (n : Int))
theorem ilL_append (a b : List Nat) : ilL (a ++ b) = ilL a ++ ilL b := by simp [ilL, ints]
def apI (t : Sp.T) (a b : Nat) : List Int := (Rc.apL t a b).map fun n : Nat => (n : Int)
/-- what Apart answers -/
inductive ApPost (t : Sp.T) (i j : Int) (w : World) (e : Ending) (w' : World) : Prop
  | yes (a b : Nat) (u1 u2 : Value) : i = a → j = b → Rc.Apt t a b → e = .returned (.tuple #[u1, u2, .int .i64 0]) → w'.ownsRow w.heap.size 3 1 u1 (apI t a b).length (ints .i64 (apI t a b)) → w'.ownsRow w.heap.size 3 1 u2 (apI t b a).length (ints .i64 (apI t b a)) → Below w.heap.size w w' → ApPost t i j w e w'
  | no (c : Int) : c ≠ 0 → (∀ a b : Nat, i = a → j = b → ¬ Rc.Apt t a b) → e = .returned (.tuple #[.slice none 0 0, .slice none 0 0, .int .i64 c]) → Below w.heap.size w w' → ApPost t i j w e w'

set_option maxRecDepth 20000 in
set_option maxHeartbeats 8000000 in
theorem race_apart (t : Sp.T) (i j : Int) (w : World) (cs : List Value) (hT : TmR w.heap.size w cs t) (hn : t.size ≤ 1048576) :
    Calls Try.prog 15 #[.agg cs.toArray, .int .i64 i, .int .i64 j] w (ApPost t i j w) := by
  obtain ⟨a0, a1, a2, a3, A4, a5, a6, rfl, -, -⟩ := hT.form
  have x0 := Blk.new w 26 [.int .i64 a0, .int .i64 a1, .bool a2, .int .i64 a3, .slice A4 a5 a6]
  unfold tcells at hT ⊢
  have hb0 : Below w.heap.size w (w.alloc (.cells [Value.int .i64 a0, .int .i64 a1, .bool a2, .int .i64 a3, .slice A4 a5 a6].toArray 26)) := below_alloc (Below.refl _ _) _
  go_enter Try.func15, Try.ntmps15
  go_wp2_with fail
  obtain ⟨q, hq⟩ : ∃ q, q = w.heap.size := ⟨_, rfl⟩
  have hT0 := tm_up (hT.later hb0) hb0.size
  generalize (w.alloc (.cells [Value.int .i64 a0, .int .i64 a1, .bool a2, .int .i64 a3, .slice A4 a5 a6].toArray 26)) = W0 at x0 hb0 hT0 ⊢
  rw [← hq] at x0 ⊢
  refine (marks_any _ _ t hT0 (by omega)).mono ?_
  rintro e w1 ⟨pm, rfl, -, -, hb1⟩
  have hX := Boxed.of (x0.below hb1) (hT0.later hb1) hb1.size
  have hbw := below_next hb1 hb0
  obtain ⟨⟨c0, c1, c2, c3, c4⟩, hT1⟩ := hX.look _ (Below.refl _ _)
  clear x0 hb0 hT0 hb1 hq hT
  obtain ⟨N, hN⟩ : ∃ N, N = t.size := ⟨_, rfl⟩
  rw [← hN] at hn ⊢
  have HN := Lib.hid hN
  clear hN
  have HW := Lib.hid hbw
  clear hbw
  by_cases h1 : i < 0
  · have g1 : decide (i < 0) = true := by simpa using h1
    go_wp2_with fail
    go_ret3
    exact .no 7 (by decide) (fun a b ha _ => by omega) rfl HW.out
  obtain ⟨a, rfl⟩ := Int.eq_ofNat_of_zero_le (show 0 ≤ i by omega)
  have g1 : decide ((a : Int) < 0) = false := by simp
  by_cases h2 : j < 0
  · have g2 : decide (j < 0) = true := by simpa using h2
    go_wp2_with fail
    go_ret3
    exact .no 7 (by decide) (fun a b _ hb => by omega) rfl HW.out
  obtain ⟨b, rfl⟩ := Int.eq_ofNat_of_zero_le (show 0 ≤ j by omega)
  have g2 : decide ((b : Int) < 0) = false := by simp
  by_cases h3 : N ≤ a
  · have g3 : decide (N ≤ a) = true := by simpa using h3
    go_wp2_with fail
    go_ret3
    exact .no 7 (by decide) (fun a' b' ha _ h => by have := h.la; have := HN.out; omega) rfl HW.out
  have g3 : decide (N ≤ a) = false := by simpa using h3
  by_cases h4 : N ≤ b
  · have g4 : decide (N ≤ b) = true := by simpa using h4
    go_wp2_with fail
    go_ret3
    exact .no 7 (by decide) (fun a' b' _ hb h => by have := h.lb; have := HN.out; omega) rfl HW.out
  have g4 : decide (N ≤ b) = false := by simpa using h4
  have ha : a < N := by omega
  have hb : b < N := by omega
  clear h1 h2 h3 h4
  have gB : ∀ (x y : Nat) w', x < N → y < N → Below w1.heap.size w1 w' → Calls Try.prog 33 #[.agg #[.int .i64 a0, .int .i64 a1, .bool a2, .int .i64 a3, .slice A4 a5 a6], .int .i64 (x : Int), .int .i64 (y : Int)] w' fun e w'' => e = .returned (.bool (decide (t.bf x y))) ∧ Below w'.heap.size w' w'' := fun x y w' hx hy hb' => by
    rw [← before_nat (t := t) (by rw [← HN.out]; exact hx) (by rw [← HN.out]; exact hy)]
    exact before_any w' _ t x y (hX.look _ hb').2 (by rw [← HN.out]; omega)
  have keepS : ∀ w', Below w1.heap.size w1 w' → (w'.cell? ⟨q, 0, none⟩ = some (.int .i64 a0) ∧ w'.cell? ⟨q, 1, none⟩ = some (.int .i64 a1) ∧ w'.cell? ⟨q, 2, none⟩ = some (.bool a2) ∧ w'.cell? ⟨q, 3, none⟩ = some (.int .i64 a3) ∧ w'.cell? ⟨q, 4, none⟩ = some (.slice A4 a5 a6)) := fun w' hb => (hX.look _ hb).1
  have HG := Lib.hid (And.intro gB keepS)
  clear gB keepS hX hT1
  by_cases hab : a = b
  · subst hab
    go_wp2_with fail
    go_ret3
    exact .no 1 (by decide) (fun a' b' h1 h2 h => h.ne (by omega)) rfl HW.out
  have g5 : ((a : Int) == (b : Int)) = false := by rw [beq_eq_false_iff_ne]; omega
  have g5' : (a == b) = false := by rw [beq_eq_false_iff_ne]; exact hab
  have gB1 := HG.out.1 a b w1 ha hb (Below.refl _ _)
  rcases hf : decide (t.bf a b) with _ | _
  rotate_left
  · rw [hf] at gB1
    go_wp2_with fail
    refine gB1.mono ?_
    rintro e w2 ⟨rfl, hb2⟩
    have hbE := below_self HW.out hb2
    clear gB1 hb2
    go_wp2_with fail
    go_ret3
    exact .no 1 (by decide) (fun a' b' h1 h2 h => h.ab (by
      have := of_decide_eq_true hf
      rwa [show a' = a by omega, show b' = b by omega])) rfl hbE
  rw [hf] at gB1
  go_wp2_with fail
  refine gB1.mono ?_
  rintro e w2 ⟨rfl, hb2⟩
  have gB2 := HG.out.1 b a w2 hb ha hb2
  obtain ⟨d0, d1, d2, d3, d4⟩ := HG.out.2 w2 hb2
  clear gB1 c0 c1 c2 c3 c4
  rcases hg : decide (t.bf b a) with _ | _
  rotate_left
  · rw [hg] at gB2
    go_wp2_with fail
    refine gB2.mono ?_
    rintro e w3 ⟨rfl, hb3⟩
    have hbE := below_self (below_self HW.out hb2) hb3
    clear gB2 hb2 hb3
    go_wp2_with fail
    go_ret3
    exact .no 1 (by decide) (fun a' b' h1 h2 h => h.ba (by
      have := of_decide_eq_true hg
      rwa [show a' = a by omega, show b' = b by omega])) rfl hbE
  rw [hg] at gB2
  go_wp2_with fail
  refine gB2.mono ?_
  rintro e w3 ⟨rfl, hb3⟩
  have hb13 := below_self hb2 hb3
  have hapt : Rc.Apt t a b := ⟨by rw [← HN.out]; exact ha, by rw [← HN.out]; exact hb, hab, of_decide_eq_false hf, of_decide_eq_false hg⟩
  have HA := Lib.hid (And.intro hapt hb13)
  clear gB2 d0 d1 d2 d3 d4 hb2 hb3 hb13 hapt hf hg
  go_wp2_with fail
  go_loopw [10, 11, 50] (fun od bd i wr => ∃ k : Nat, k ≤ N ∧ i = .int .i64 (k : Int) ∧ Below w3.heap.size w3 wr ∧ wr.ownsRow w3.heap.size 3 1 od (Rc.ahL t a b k).length (ilL (Rc.ahL t a b k)) ∧ wr.ownsRow w3.heap.size 3 1 bd (Rc.bhL t a b k).length (ilL (Rc.bhL t a b k)) ∧ ∀ i, od.ownBlock = some i → bd.ownBlock ≠ some i) (fun _ _ i _ => N - (intOf i).toNat)
  case atStart => exact ⟨0, Nat.zero_le _, rfl, Below.refl _ _, World.ownsRow_nil _ _ _ _, World.ownsRow_nil _ _ _ _, fun i h => by simp [Value.ownBlock] at h⟩
  case round =>
    obtain ⟨k, hk, rfl, hb3, ho1, ho2, hap⟩ := hrel
    by_cases hlt : k < N
    · have hb13 := below_self HA.out.2 hb3
      obtain ⟨c0, c1, c2, c3, c4⟩ := HG.out.2 wr hb13
      have hs1 := Rc.ahL_succ t a b k
      have hs2 := Rc.bhL_succ t a b k
      have l1 := Rc.ahL_len t a b k
      have l2 := Rc.bhL_len t a b k
      have hd1 : Rc.ahd t a b k = (!(k == a || k == b) && (decide (t.bf k a) || decide (t.bf k b))) := rfl
      have hd2 : Rc.bhd t a b k = (!(k == a || k == b) && !(decide (t.bf k a) || decide (t.bf k b))) := rfl
      have HM := Lib.hid (show ((Rc.ahL t a b k).length + 1 ≤ maxLen ∧ ((Rc.ahL t a b k).length + 1) * 8 ≤ 140737488355328) ∧ ((Rc.bhL t a b k).length + 1 ≤ maxLen ∧ ((Rc.bhL t a b k).length + 1) * 8 ≤ 140737488355328) by unfold maxLen; omega)
      have gB1 := HG.out.1 k a wr hlt ha hb13
      have hsz0 := hb3.size
      clear l1 l2
      by_cases hka : k = a
      · subst hka
        have hkk : (k == k) = true := by simp
        rw [hkk] at hd1 hd2
        simp at hd1 hd2
        rw [hd1] at hs1
        rw [hd2] at hs2
        have HZ := Lib.hid (And.intro ho1 (And.intro ho2 (And.intro hb3 hap)))
        have HS := Lib.hid (And.intro hs1 hs2)
        clear ho1 ho2 hap hb3 hs1 hs2 hd1 hd2 gB1 hb13
        go_wp2_with fail
        go_roundw
        case rel => exact ⟨k + 1, by omega, by go_num, HZ.out.2.2.1, by rw [HS.out.1]; simpa using HZ.out.1, by rw [HS.out.2]; simpa using HZ.out.2.1, HZ.out.2.2.2⟩
        case measure => simp [intOf]; omega
      have ga : (k == a) = false := by rw [beq_eq_false_iff_ne]; exact hka
      have ga' : ((k : Int) == (a : Int)) = false := by rw [beq_eq_false_iff_ne]; omega
      rw [ga] at hd1 hd2
      by_cases hkb : k = b
      · subst hkb
        have hkk : (k == k) = true := by simp
        rw [hkk] at hd1 hd2
        simp at hd1 hd2
        rw [hd1] at hs1
        rw [hd2] at hs2
        have HZ := Lib.hid (And.intro ho1 (And.intro ho2 (And.intro hb3 hap)))
        have HS := Lib.hid (And.intro hs1 hs2)
        clear ho1 ho2 hap hb3 hs1 hs2 hd1 hd2 gB1 hb13
        go_wp2_with fail
        go_roundw
        case rel => exact ⟨k + 1, by omega, by go_num, HZ.out.2.2.1, by rw [HS.out.1]; simpa using HZ.out.1, by rw [HS.out.2]; simpa using HZ.out.2.1, HZ.out.2.2.2⟩
        case measure => simp [intOf]; omega
      have gb : (k == b) = false := by rw [beq_eq_false_iff_ne]; exact hkb
      have gb' : ((k : Int) == (b : Int)) = false := by rw [beq_eq_false_iff_ne]; omega
      rw [gb] at hd1 hd2
      rcases hfa : decide (t.bf k a) with _ | _
      rotate_left
      · rw [hfa] at gB1 hd1 hd2
        simp only [Bool.or_false, Bool.false_or, Bool.not_false, Bool.not_true, Bool.true_and, Bool.true_or, Bool.and_false] at hd1 hd2
        rw [hd1, if_pos rfl] at hs1
        rw [hd2] at hs2
        have HS := Lib.hid (And.intro hs1 hs2)
        clear hs1 hs2 hd1 hd2 hb13
        go_wp2_with fail
        refine gB1.mono ?_
        rintro e w5 ⟨rfl, hb5⟩
        have hb35 := below_self hb3 hb5
        have hq1 := own_keeps ho1 (Keeps.of_below hb5 (fun _ => False)) (fun _ _ => id)
        have hq2 := own_keeps ho2 (Keeps.of_below hb5 (fun _ => False)) (fun _ _ => id)
        have hsz5 := hb35.size
        clear gB1 hb5 ho1 ho2 hb3 c0 c1 c2 c3 c4
        go_wp2_with (at_builtin; refine wp_push_at _ _ _ _ (by first | rfl | simp) _ _ _ _ _ _ Try.underlying33 info_rc rfl (by decide) hq1 [.int .i64 (k : Int)] rfl (by simp [Value.oneCell']) HM.out.1.1 HM.out.1.2 hsz5 rfl rfl rfl rfl ?_; intro v7 w7 hr7 hg7 hv7 hb7)
        obtain ⟨ho7, hap7⟩ := two_push hq1 hq2 hap hg7 hv7
        have HZ := Lib.hid (And.intro hr7 (And.intro ho7 (And.intro (hb35.trans hb7) hap7)))
        clear hr7 hg7 hv7 hb7 ho7 hap7
        go_roundw
        case rel => exact ⟨k + 1, by omega, by go_num, HZ.out.2.2.1, by rw [HS.out.1]; simpa [ilL, ints] using HZ.out.1, by rw [HS.out.2]; simpa using HZ.out.2.1, HZ.out.2.2.2⟩
        case measure => simp [intOf]; omega
      rw [hfa] at gB1 hd1 hd2
      have gB2 : ∀ w5, Below wr.heap.size wr w5 → Calls Try.prog 33 #[.agg #[.int .i64 a0, .int .i64 a1, .bool a2, .int .i64 a3, .slice A4 a5 a6], .int .i64 (k : Int), .int .i64 (b : Int)] w5 fun e w'' => e = .returned (.bool (decide (t.bf k b))) ∧ Below w5.heap.size w5 w'' := fun w5 hb5 => HG.out.1 k b w5 hlt hb (below_self hb13 hb5)
      have hlk : ∀ w5, Below wr.heap.size wr w5 → (w5.cell? ⟨q, 0, none⟩ = some (.int .i64 a0) ∧ w5.cell? ⟨q, 1, none⟩ = some (.int .i64 a1) ∧ w5.cell? ⟨q, 2, none⟩ = some (.bool a2) ∧ w5.cell? ⟨q, 3, none⟩ = some (.int .i64 a3) ∧ w5.cell? ⟨q, 4, none⟩ = some (.slice A4 a5 a6)) := fun w5 hb5 => HG.out.2 w5 (below_self hb13 hb5)
      rcases hfb : decide (t.bf k b) with _ | _
      · rw [hfb] at gB2 hd1 hd2
        simp only [Bool.or_false, Bool.false_or, Bool.not_false, Bool.not_true, Bool.true_and, Bool.true_or, Bool.or_true, Bool.and_false, Bool.and_true] at hd1 hd2
        rw [hd1] at hs1
        rw [hd2, if_pos rfl] at hs2
        have HS := Lib.hid (And.intro hs1 hs2)
        have HL := Lib.hid (And.intro gB2 hlk)
        clear hs1 hs2 hd1 hd2 hb13 gB2 hlk
        go_wp2_with fail
        refine gB1.mono ?_
        rintro e w5 ⟨rfl, hb5⟩
        obtain ⟨d0, d1, d2, d3, d4⟩ := HL.out.2 w5 hb5
        have gB3 := HL.out.1 w5 hb5
        clear gB1 c0 c1 c2 c3 c4
        go_wp2_with fail
        refine gB3.mono ?_
        rintro e w6 ⟨rfl, hb6⟩
        have hb56 := below_self hb5 hb6
        have hb35 := below_self hb3 hb56
        have hq1 := own_keeps ho1 (Keeps.of_below hb56 (fun _ => False)) (fun _ _ => id)
        have hq2 := own_keeps ho2 (Keeps.of_below hb56 (fun _ => False)) (fun _ _ => id)
        have hsz5 := hb35.size
        clear gB3 hb5 hb6 hb56 ho1 ho2 hb3 d0 d1 d2 d3 d4
        go_wp2_with (at_builtin; refine wp_push_at _ _ _ _ (by first | rfl | simp) _ _ _ _ _ _ Try.underlying33 info_rc rfl (by decide) hq2 [.int .i64 (k : Int)] rfl (by simp [Value.oneCell']) HM.out.2.1 HM.out.2.2 hsz5 rfl rfl rfl rfl ?_; intro v7 w7 hr7 hg7 hv7 hb7)
        obtain ⟨ho7, hap7⟩ := two_push hq2 hq1 (fun i h1 h2 => hap i h2 h1) hg7 hv7
        have HZ := Lib.hid (And.intro ho7 (And.intro hr7 (And.intro (hb35.trans hb7) (fun i h1 h2 => hap7 i h2 h1))))
        clear hr7 hg7 hv7 hb7 ho7 hap7
        go_roundw
        case rel => exact ⟨k + 1, by omega, by go_num, HZ.out.2.2.1, by rw [HS.out.1]; simpa using HZ.out.1, by rw [HS.out.2]; simpa [ilL, ints] using HZ.out.2.1, HZ.out.2.2.2⟩
        case measure => simp [intOf]; omega
      · rw [hfb] at gB2 hd1 hd2
        simp only [Bool.or_false, Bool.false_or, Bool.not_false, Bool.not_true, Bool.true_and, Bool.true_or, Bool.or_true, Bool.and_false, Bool.and_true] at hd1 hd2
        rw [hd1, if_pos rfl] at hs1
        rw [hd2] at hs2
        have HS := Lib.hid (And.intro hs1 hs2)
        have HL := Lib.hid (And.intro gB2 hlk)
        clear hs1 hs2 hd1 hd2 hb13 gB2 hlk
        go_wp2_with fail
        refine gB1.mono ?_
        rintro e w5 ⟨rfl, hb5⟩
        obtain ⟨d0, d1, d2, d3, d4⟩ := HL.out.2 w5 hb5
        have gB3 := HL.out.1 w5 hb5
        clear gB1 c0 c1 c2 c3 c4
        go_wp2_with fail
        refine gB3.mono ?_
        rintro e w6 ⟨rfl, hb6⟩
        have hb56 := below_self hb5 hb6
        have hb35 := below_self hb3 hb56
        have hq1 := own_keeps ho1 (Keeps.of_below hb56 (fun _ => False)) (fun _ _ => id)
        have hq2 := own_keeps ho2 (Keeps.of_below hb56 (fun _ => False)) (fun _ _ => id)
        have hsz5 := hb35.size
        clear gB3 hb5 hb6 hb56 ho1 ho2 hb3 d0 d1 d2 d3 d4
        go_wp2_with (at_builtin; refine wp_push_at _ _ _ _ (by first | rfl | simp) _ _ _ _ _ _ Try.underlying33 info_rc rfl (by decide) hq1 [.int .i64 (k : Int)] rfl (by simp [Value.oneCell']) HM.out.1.1 HM.out.1.2 hsz5 rfl rfl rfl rfl ?_; intro v7 w7 hr7 hg7 hv7 hb7)
        obtain ⟨ho7, hap7⟩ := two_push hq1 hq2 hap hg7 hv7
        have HZ := Lib.hid (And.intro hr7 (And.intro ho7 (And.intro (hb35.trans hb7) hap7)))
        clear hr7 hg7 hv7 hb7 ho7 hap7
        go_roundw
        case rel => exact ⟨k + 1, by omega, by go_num, HZ.out.2.2.1, by rw [HS.out.1]; simpa [ilL, ints] using HZ.out.1, by rw [HS.out.2]; simpa using HZ.out.2.1, HZ.out.2.2.2⟩
        case measure => simp [intOf]; omega
    · obtain rfl : N = k := by omega
      obtain ⟨A1, d1, rfl, hd1, hm1⟩ := own_slice ho1
      obtain ⟨A2, d2, rfl, hd2, hm2⟩ := own_slice ho2
      have l1 := Rc.ahL_len t a b N
      have l2 := Rc.bhL_len t a b N
      have s1 := SlV.of_own ho1
      have s2 := SlV.of_own ho2
      have hbF := below_self (below_self HW.out HA.out.2) hb3
      have hwr := hbF.size
      obtain ⟨X1, hX1⟩ : ∃ X, X = (Rc.ahL t a b N).length := ⟨_, rfl⟩
      obtain ⟨X2, hX2⟩ : ∃ X, X = (Rc.bhL t a b N).length := ⟨_, rfl⟩
      rw [← hX1] at s1 hd1 l1 ⊢
      rw [← hX2] at s2 hd2 l2 ⊢
      unfold maxLen at hm1 hm2
      have q1 : ((Rc.ahL t a b N).map fun n : Nat => (n : Int)).length = X1 := by rw [List.length_map, hX1]
      have q2 : ((Rc.bhL t a b N).map fun n : Nat => (n : Int)).length = X2 := by rw [List.length_map, hX2]
      have gC : ∀ (w' : World) (x y : Nat), Below wr.heap.size wr w' → Calls Try.prog 34 #[.slice (some ⟨w'.heap.size + 1, 0, none⟩) 3 3] ((w'.alloc (.cells #[.int .i64 (x : Int), .int .i64 (y : Int)] 3)).alloc (.cells #[.slice A1 X1 d1, .slice (some ⟨w'.heap.size, 0, none⟩) 2 2, .slice A2 X2 d2] 33)) fun e w'' => ∃ u, e = .returned u ∧ w''.ownsRow wr.heap.size 3 1 u (Rc.ahL t a b N ++ ([x, y] ++ Rc.bhL t a b N)).length (ilL (Rc.ahL t a b N ++ ([x, y] ++ Rc.bhL t a b N))) ∧ Below w'.heap.size w' w'' := fun w' x y hb' => by
        have z1 := s1.below hb'
        have z2 := s2.below hb'
        refine (concat3 w' (.slice A1 X1 d1) (.slice A2 X2 d2) ((Rc.ahL t a b N).map fun n : Nat => (n : Int)) ((Rc.bhL t a b N).map fun n : Nat => (n : Int)) x y (by rw [q1]; exact z1) (by rw [q2]; exact z2) (by rw [q1, q2]; omega)).mono ?_
        rintro e w'' ⟨u, h3, h4, h5⟩
        refine ⟨u, h3, ?_, h5⟩
        have := own_base h4 hb'.size
        simpa [ilL, ints] using this
      have HC := Lib.hid gC
      have gC1 := gC wr a b (Below.refl _ _)
      clear s1 s2 gC hX1 hX2 q1 q2 ho1 ho2 hap hb3
      go_wp2_with fail
      refine gC1.mono ?_
      rintro e w5 ⟨u5, rfl, h5, hb5⟩
      obtain ⟨A5, d5, rfl, -, -⟩ := own_slice h5
      obtain ⟨L5, hL5⟩ : ∃ L, L = (Rc.ahL t a b N ++ ([a, b] ++ Rc.bhL t a b N)).length := ⟨_, rfl⟩
      rw [← hL5] at h5 ⊢
      have gC2 := HC.out w5 b a hb5
      have hbG := below_self hbF hb5
      have H5 := Lib.hid h5
      have HL5 := Lib.hid hL5
      clear gC1 hb5 hbF h5 hL5
      go_wp2_with fail
      refine gC2.mono ?_
      rintro e w6 ⟨u6, rfl, h6, hb6⟩
      obtain ⟨A6, d6, rfl, -, -⟩ := own_slice h6
      obtain ⟨L6, hL6⟩ : ∃ L, L = (Rc.ahL t a b N ++ ([b, a] ++ Rc.bhL t a b N)).length := ⟨_, rfl⟩
      rw [← hL6] at h6 ⊢
      have hbH := below_self hbG hb6
      have h5 := own_keeps H5.out (Keeps.of_below hb6 (fun _ => False)) (fun _ _ => id)
      have HL6 := Lib.hid hL6
      clear gC2 hb6 hbG hL6
      go_wp2_with fail
      go_ret3
      refine .yes a b _ _ rfl rfl HA.out.1 rfl ?_ ?_ hbH
      · unfold apI Rc.apL
        rw [List.length_map, ← HN.out, ← HL5.out]
        exact own_base h5 hwr
      · unfold apI Rc.apL Rc.ahL Rc.bhL
        rw [List.length_map, ← HN.out, Rc.ahd_comm t b a, Rc.bhd_comm t b a]
        change w6.ownsRow w.heap.size _ _ _ (Rc.ahL t a b N ++ ([b, a] ++ Rc.bhL t a b N)).length _
        rw [← HL6.out]
        exact own_base h6 hwr
end Go.Proofs.Ytcoijmnnnfogdaa


namespace Go.Proofs.Ytcoijmnnnfogdaa
set_option linter.unusedVariables false
set_option linter.unusedSimpArgs false
set_option maxRecDepth 100000
open Go.RowKit


set_option maxHeartbeats 2000000 in
theorem rc_pairs (v v' : Value) (xs ys : List (Nat × Nat)) (w : World) (h : SlV w 2 v xs.length (Sp.prcs xs)) (h' : SlV w 2 v' ys.length (Sp.prcs ys)) :
    Calls Try.prog 20 #[v, v'] w fun e w' => e = .returned (.bool (decide (xs = ys))) ∧ ∃ m, w' = w.drewN m := by
  obtain ⟨A, c, rfl, hle, hm, hlen, hc⟩ := h
  obtain ⟨A', c', rfl, hle', hm', hlen', hc'⟩ := h'
  clear hlen hlen'
  unfold maxLen at hm hm'
  by_cases hn : xs.length = ys.length
  · have hne : ((xs.length : Int) != ys.length) = false := by simp [hn]
    have HN := Lib.hid hn
    clear hn
    go_enter Try.func20, Try.ntmps20
    go_wp2
    go_loopw [13] (fun i wr => ∃ k : Nat, k ≤ xs.length ∧ i = .int .i64 k ∧ (∃ a, wr = w.drewN a) ∧ xs.take k = ys.take k) (fun i _ => xs.length - (intOf i).toNat)
    case atStart => exact ⟨0, Nat.zero_le _, rfl, ⟨0, rfl⟩, rfl⟩
    case round =>
      obtain ⟨k, hk, rfl, ⟨a, rfl⟩, ht⟩ := hrel
      have HT := Lib.hid ht
      clear ht
      by_cases hlt : k < xs.length
      · have hlt' : k < ys.length := by rw [← HN.out]; exact hlt
        obtain ⟨⟨x1, x2⟩, hx⟩ : ∃ x, xs[k]? = some x := ⟨_, List.getElem?_eq_getElem hlt⟩
        obtain ⟨⟨y1, y2⟩, hy⟩ : ∃ x, ys[k]? = some x := ⟨_, List.getElem?_eq_getElem hlt'⟩
        obtain ⟨gx1, gx2⟩ := Sp.prcs_get _ _ _ hx
        obtain ⟨gy1, gy2⟩ := Sp.prcs_get _ _ _ hy
        obtain ⟨b, o, rfl, hb, hcc⟩ := hc.at_ (fun e => by rw [e] at gx1; simp at gx1)
        obtain ⟨b', o', rfl, hb', hcc'⟩ := hc'.at_ (fun e => by rw [e] at gy1; simp at gy1)
        have c1 := hcc _ _ gx1
        have c2 := hcc _ _ gx2
        have d1 := hcc' _ _ gy1
        have d2 := hcc' _ _ gy2
        rw [← Nat.add_assoc] at c2 d2
        have HX := Lib.hid hx
        have HY := Lib.hid hy
        clear hc hc' hcc hcc' hx hy gx1 gx2 gy1 gy2
        by_cases e : x1 = y1 ∧ x2 = y2
        · obtain ⟨rfl, rfl⟩ := e
          go_wp2
          go_quiet (fail)
          go_wp2
          go_roundw
          case rel => exact ⟨k + 1, by omega, by go_num, ⟨_, rfl⟩, Sp.take_snoc_eq HX.out HY.out HT.out rfl⟩
          case measure => simp [intOf]; omega
        · have hnl : xs ≠ ys := Sp.ne_of_get HX.out HY.out (fun h => by injection h with h1 h2; exact e ⟨h1, h2⟩)
          have HNL := Lib.hid hnl
          obtain ⟨X1, hX1⟩ : ∃ z : Int, z = x1 := ⟨_, rfl⟩
          obtain ⟨X2, hX2⟩ : ∃ z : Int, z = x2 := ⟨_, rfl⟩
          obtain ⟨Y1, hY1⟩ : ∃ z : Int, z = y1 := ⟨_, rfl⟩
          obtain ⟨Y2, hY2⟩ : ∃ z : Int, z = y2 := ⟨_, rfl⟩
          have he : (X1 == Y1 && X2 == Y2) = false := by
            rw [Bool.eq_false_iff]
            intro h
            simp only [Bool.and_eq_true, beq_iff_eq] at h
            exact e ⟨by omega, by omega⟩
          rw [← hX1] at c1
          rw [← hX2] at c2
          rw [← hY1] at d1
          rw [← hY2] at d2
          clear e hnl hX1 hX2 hY1 hY2
          rcases h1 : X1 == Y1 with _ | _
          · clear he
            go_wp2
            go_quiet (fail)
            go_wp2
            go_ret
            exact ⟨ret_bool (by simp [HNL.out]), ⟨_, World.drewN_drewN _ _ _⟩⟩
          · have h2 : (X2 == Y2) = false := by rw [h1] at he; simpa using he
            clear he
            go_wp2
            go_quiet (fail)
            go_wp2
            go_ret
            exact ⟨ret_bool (by simp [HNL.out]), ⟨_, World.drewN_drewN _ _ _⟩⟩
      · have HK := Lib.hid (show k = xs.length by omega)
        clear hc hc'
        go_wp2
        go_ret
        refine ⟨ret_bool ?_, ⟨_, rfl⟩⟩
        symm
        simp only [decide_eq_true_eq]
        have := HT.out
        rw [HK.out, List.take_length, HN.out, List.take_length] at this
        exact this
  · have hne : ((xs.length : Int) != ys.length) = true := by simp; omega
    have hnl : xs ≠ ys := fun e => hn (by rw [e])
    have HNL := Lib.hid hnl
    clear hnl hc hc'
    go_enter Try.func20, Try.ntmps20
    go_wp2
    go_ret
    exact ⟨ret_bool (by simp [HNL.out]), ⟨0, rfl⟩⟩

end Go.Proofs.Ytcoijmnnnfogdaa


namespace Go.Proofs.Ytcoijmnnnfogdaa
set_option linter.unusedVariables false
set_option linter.unusedSimpArgs false
set_option maxRecDepth 100000
open Go.RowKit

theorem wr_any (n l : Int) (w : World) : Calls Try.prog 30 #[.int .i64 n, .int .i64 l] w fun e w' => e = .returned (.agg #[.int .i64 1, .int .i64 n, .bool true, .int .i64 l, .slice none 0 0]) ∧ Below w.heap.size w w' := by
  go_enter Try.func30, Try.ntmps30
  have hB0 := Blk.new w 26 [.int .i64 0, .int .i64 0, .bool false, .int .i64 0, .slice none 0 0]
  go_wp2_with (refine wpl_put_blk hB0 [.int .i64 1, .int .i64 n, .bool true, .int .i64 l, .slice none 0 0] (by kernel_rfl) rfl (by intro v hv; simp only [List.mem_cons, List.not_mem_nil, or_false] at hv; rcases hv with rfl | rfl | rfl | rfl | rfl <;> rfl) rfl rfl rfl rfl ?_; intro w2 hB2 hg2)
  have hb : Below w.heap.size w w2 := (below_alloc (Below.refl _ _) _).trans (below_of_grown hg2 (by simp) (Nat.le_refl _))
  exact ret_blk hB2 rfl rfl Try.underlying26 rfl (by kernel_rfl) rfl ⟨rfl, hb⟩

def rc3 : Sp.T := .two true (.one 1 true 4) (.two false (.one 1 false 0) (.one 2 true 3))
theorem rc3_size : rc3.size = 3 := by decide
theorem rc3_races : Rc.races rc3 = [(0, 1)] := by decide
theorem rc3_apt : Rc.Apt rc3 1 0 := ⟨by decide, by decide, by decide, by decide, by decide⟩
theorem rc3_ap : Rc.apL rc3 1 0 = [1, 0, 2] ∧ Rc.apL rc3 0 1 = [0, 1, 2] := ⟨by decide, by decide⟩
theorem rc3_see : Rc.seeL rc3 [1, 0, 2] = [-1, -1, -1] := by decide
theorem rc3_cells : Rc.cellsL rc3 = [1] := by
  unfold Rc.cellsL Rc.rcel
  rw [rc3_races]
  simp [srt, Rc.acc, rc3, Sp.T.leaves]
  rfl
theorem rc3_wfl : rc3.wfl := by
  intro a ha
  simp [rc3, Sp.T.leaves] at ha
  rcases ha with rfl | rfl | rfl <;> rfl

set_option maxRecDepth 20000 in
set_option maxHeartbeats 8000000 in
theorem alive15_any (w : World) : Calls Try.prog 13 #[] w fun e w' => e = .returned (.bool true) ∧ Below w.heap.size w w' := by
  go_enter Try.func13, Try.ntmps13
  go_wp2_with fail
  refine (wr_any 1 4 _).mono ?_
  rintro e w1 ⟨rfl, hb1⟩
  go_wp2_with fail
  refine (leaf_any 1 _).mono ?_
  rintro e w2 ⟨rfl, hb2⟩
  go_wp2_with fail
  refine (wr_any 2 3 _).mono ?_
  rintro e w3 ⟨rfl, hb3⟩
  have hb13 : Below w.heap.size w w3 := (by repeat (first | exact Below.refl _ _ | assumption | apply below_alloc | apply below_drew | (apply below_next; assumption)))
  clear hb1 hb2 hb3
  obtain ⟨x0, x1, x2, hz, hk⟩ := three_allocs w3 [.int .i64 1, .int .i64 1, .bool false, .int .i64 0, .slice none 0 0, .int .i64 1, .int .i64 2, .bool true, .int .i64 3, .slice none 0 0] [.int .i64 1, .int .i64 1, .bool true, .int .i64 4, .slice none 0 0, .int .i64 2, .int .i64 0, .bool false, .int .i64 0, .slice (some ⟨w3.heap.size, 0, none⟩) 2 2] [.int .i64 3, .int .i64 0, .bool false, .int .i64 0, .slice (some ⟨w3.heap.size + 1, 0, none⟩) 2 2] 26 26 26
  have hbW := hb13.trans (hk.below hb13.size (fun i h => h.elim))
  go_upto_region 2 with (fail)
  obtain ⟨q0, hq0⟩ : ∃ q, q = w3.heap.size := ⟨_, rfl⟩
  generalize (((w3.alloc (.cells [Value.int .i64 1, .int .i64 1, .bool false, .int .i64 0, .slice none 0 0, .int .i64 1, .int .i64 2, .bool true, .int .i64 3, .slice none 0 0].toArray 26)).alloc (.cells [Value.int .i64 1, .int .i64 1, .bool true, .int .i64 4, .slice none 0 0, .int .i64 2, .int .i64 0, .bool false, .int .i64 0, .slice (some ⟨w3.heap.size, 0, none⟩) 2 2].toArray 26)).alloc (.cells [Value.int .i64 3, .int .i64 0, .bool false, .int .i64 0, .slice (some ⟨w3.heap.size + 1, 0, none⟩) 2 2].toArray 26)) = W at x0 x1 x2 hz hk hbW ⊢
  rw [← hq0] at x0 x1 x2 hz ⊢
  have lf : ∀ (n : Int) (b : Bool) (l : Int), TmR W.heap.size W [.int .i64 1, .int .i64 n, .bool b, .int .i64 l, .slice none 0 0] (.one n b l) := fun n b l => .one n b l none 0 0 (Nat.le_refl _) (Nat.zero_le _)
  have r1 : TmR W.heap.size W (tcells 2 0 false 0 (some ⟨q0, 0, none⟩) 2 2) (.two false (.one 1 false 0) (.one 2 true 3)) := TmR.made (xs := [.int .i64 1, .int .i64 1, .bool false, .int .i64 0, .slice none 0 0]) (ys := [.int .i64 1, .int .i64 2, .bool true, .int .i64 3, .slice none 0 0]) false x0 rfl x0.lt (lf 1 false 0) (lf 2 true 3)
  have rt : TmR W.heap.size W [.int .i64 3, .int .i64 0, .bool false, .int .i64 0, .slice (some ⟨q0 + 1, 0, none⟩) 2 2] rc3 := TmR.made (xs := [.int .i64 1, .int .i64 1, .bool true, .int .i64 4, .slice none 0 0]) (ys := [.int .i64 2, .int .i64 0, .bool false, .int .i64 0, .slice (some ⟨q0, 0, none⟩) 2 2]) true x1 rfl x1.lt (lf 1 true 4) r1
  have look : ∀ w', Below W.heap.size W w' → (w'.cell? ⟨q0 + 1 + 1, 0, none⟩ = some (.int .i64 3) ∧ w'.cell? ⟨q0 + 1 + 1, 1, none⟩ = some (.int .i64 0) ∧ w'.cell? ⟨q0 + 1 + 1, 2, none⟩ = some (.bool false) ∧ w'.cell? ⟨q0 + 1 + 1, 3, none⟩ = some (.int .i64 0) ∧ w'.cell? ⟨q0 + 1 + 1, 4, none⟩ = some (.slice (some ⟨q0 + 1, 0, none⟩) 2 2)) ∧ TmR w'.heap.size w' [.int .i64 3, .int .i64 0, .bool false, .int .i64 0, .slice (some ⟨q0 + 1, 0, none⟩) 2 2] rc3 := fun w' hb =>
    ⟨⟨by rw [(x2.below hb).cell]; rfl, by rw [(x2.below hb).cell]; rfl, by rw [(x2.below hb).cell]; rfl, by rw [(x2.below hb).cell]; rfl, by rw [(x2.below hb).cell]; rfl⟩, tm_up (rt.later hb) hb.size⟩
  have HL := Lib.hid (And.intro look hbW)
  have hsz := rc3_size
  clear lf r1 rt x0 x1 x2 hz hk hq0 look hbW
  obtain ⟨⟨c0, c1, c2, c3, c4⟩, -⟩ := HL.out.1 W (Below.refl _ _)
  have hbA : Below W.heap.size W (W.alloc (.cells #[.int .i64 1, .int .i64 0, .int .i64 2] 3)) := below_alloc (Below.refl _ _) _
  have gS := race_see rc3 [1, 0, 2] (W.alloc (.cells #[.int .i64 1, .int .i64 0, .int .i64 2] 3)) _ (.slice (some ⟨W.heap.size, 0, none⟩) 3 3) (HL.out.1 _ hbA).2 (by omega) rc3_wfl (SlV.lit W [.int .i64 1, .int .i64 0, .int .i64 2] 3 1 3 rfl (by decide))
  go_wp2_with fail
  refine gS.mono ?_
  rintro e w4 h4
  rcases h4 with ⟨ns, G, hns, hR, rfl, hG, hB, hb4⟩ | ⟨hno, -, -⟩
  rotate_left
  · have := Rc.right_ap rc3_apt
    rw [rc3_ap.1] at this
    exact absurd (Rc.right_nats this) hno
  have hnse : ns = [1, 0, 2] := by
    have h1 : ns.map (fun n : Nat => (n : Int)) = [1, 0, 2].map (fun n : Nat => (n : Int)) := hns.symm
    exact (List.map_inj_right (f := fun n : Nat => (n : Int)) (fun a b h => Int.ofNat.inj h)).1 h1
  rw [hnse, rc3_see] at hB
  have hbX := below_self hbA hb4
  obtain ⟨⟨d0, d1, d2, d3, d4⟩, hT4⟩ := HL.out.1 w4 hbX
  have gA := race_apart rc3 0 1 w4 _ hT4 (by omega)
  rw [hsz]
  have HB := Lib.hid (And.intro hB hbX)
  clear gS hbA hns hR hG hB hb4 hnse hbX hT4 c0 c1 c2 c3 c4
  go_wp2_with fail
  refine gA.mono ?_
  rintro e w5 h5
  rcases h5 with ⟨a, b, u1, u2, ha, hb, -, rfl, ho1, ho2, hb5⟩ | ⟨c, -, hno, -, -⟩
  rotate_left
  · exact absurd (rc3_apt.swap) (hno 0 1 rfl rfl)
  obtain rfl : a = 0 := by omega
  obtain rfl : b = 1 := by omega
  have hX5 := below_self HB.out.2 hb5
  have s1 := SlV.of_own ho1
  have s2 := SlV.of_own ho2
  have e1 : apI rc3 0 1 = [0, 1, 2] := by unfold apI; rw [rc3_ap.2]; rfl
  have e2 : apI rc3 1 0 = [1, 0, 2] := by unfold apI; rw [rc3_ap.1]; rfl
  rw [e1] at s1
  rw [e2] at s2
  have sB := SlV.of_blk (HB.out.1.below hb5) (sz := 1) (n := 3) rfl (by omega)
  obtain ⟨⟨c0, c1, c2, c3, c4⟩, hT5⟩ := HL.out.1 w5 hX5
  have gR := race_races rc3 w5 _ hT5 (by omega)
  rw [rc3_races] at gR
  have HS := Lib.hid (And.intro s1 (And.intro s2 (And.intro sB hX5)))
  obtain ⟨A1, d1', rfl, -, -, -, -⟩ := s1
  obtain ⟨A2, d2', rfl, -, -, -, -⟩ := s2
  clear gA ho1 ho2 ha hb e1 e2 sB hX5 hT5 hb5 d0 d1 d2 d3 d4
  go_wp2_with fail
  refine gR.mono ?_
  rintro e w6 ⟨u, rfl, hu, hb6⟩
  have su := (SlV.of_own hu).alloc (.cells (Sp.prcs [(0, 1)]).toArray 46)
  have sl := SlV.lit w6 (Sp.prcs [(0, 1)]) 46 2 1 rfl (by decide)
  have gE := rc_pairs _ _ [(0, 1)] [(0, 1)] _ su sl
  have hX6 := below_alloc (below_self HS.out.2.2.2 hb6) (.cells (Sp.prcs [(0, 1)]).toArray 46)
  have hb56 : Below w5.heap.size w5 (w6.alloc (.cells (Sp.prcs [(0, 1)]).toArray 46)) := below_alloc hb6 _
  obtain ⟨Au, du, rfl, -, -⟩ := own_slice hu
  have HX := Lib.hid (And.intro hX6 hb56)
  clear gR su sl hu hb6 c0 c1 c2 c3 c4 hX6 hb56
  go_wp2_with fail
  refine gE.mono ?_
  rintro e w7 ⟨rfl, m7, rfl⟩
  have g7 : Below w5.heap.size w5 ((w6.alloc (.cells (Sp.prcs [(0, 1)]).toArray 46)).drewN m7) := below_drewN HX.out.2 m7
  generalize ((w6.alloc (.cells (Sp.prcs [(0, 1)]).toArray 46)).drewN m7) = w7 at g7 ⊢
  obtain ⟨⟨c0, c1, c2, c3, c4⟩, hT7⟩ := HL.out.1 w7 (below_self HS.out.2.2.2 g7)
  have gC := race_cells rc3 w7 _ hT7 (by omega)
  rw [rc3_cells] at gC
  clear gE hT7 HX
  go_wp2_with fail
  refine gC.mono ?_
  rintro e w8 ⟨u8, rfl, hu8, hb8⟩
  have g8 := below_self g7 hb8
  have su := hu8.alloc (.cells [Value.int .i64 1].toArray 3)
  have sl := SlV.lit w8 [.int .i64 1] 3 1 1 rfl (by decide)
  have gE := rc_equal _ _ [1] [1] _ su sl
  obtain ⟨A8, d8, rfl, -, -, -, -⟩ := hu8
  clear gC su sl c0 c1 c2 c3 c4 hb8 g7
  go_wp2_with fail
  refine gE.mono ?_
  rintro e w9 ⟨rfl, m9, rfl⟩
  have g9 : Below w5.heap.size w5 ((w8.alloc (.cells #[.int .i64 1] 3)).drewN m9) := below_drewN (below_alloc g8 _) m9
  generalize (w8.alloc (.cells #[.int .i64 1] 3)).drewN m9 = w9 at g9 ⊢
  clear gE g8
  have su := ((HS.out.2.2.1).below g9).alloc (.cells [Value.int .i64 (-1), .int .i64 (-1), .int .i64 (-1)].toArray 3)
  have sl := SlV.lit w9 [Value.int .i64 (-1), .int .i64 (-1), .int .i64 (-1)] 3 1 3 rfl (by decide)
  have gE := rc_equal _ _ [-1, -1, -1] [-1, -1, -1] _ su sl
  clear su sl
  go_wp2_with fail
  refine gE.mono ?_
  rintro e w10 ⟨rfl, m10, rfl⟩
  have g10 : Below w5.heap.size w5 ((w9.alloc (.cells #[Value.int .i64 (-1), .int .i64 (-1), .int .i64 (-1)] 3)).drewN m10) := below_drewN (below_alloc g9 _) m10
  generalize (w9.alloc (.cells #[Value.int .i64 (-1), .int .i64 (-1), .int .i64 (-1)] 3)).drewN m10 = w10 at g10 ⊢
  clear gE g9
  have su := ((HS.out.1).below g10).alloc (.cells [Value.int .i64 0, .int .i64 1, .int .i64 2].toArray 3)
  have sl := SlV.lit w10 [Value.int .i64 0, .int .i64 1, .int .i64 2] 3 1 3 rfl (by decide)
  have gE := rc_equal _ _ [0, 1, 2] [0, 1, 2] _ su sl
  clear su sl
  go_wp2_with fail
  refine gE.mono ?_
  rintro e w11 ⟨rfl, m11, rfl⟩
  have g11 : Below w5.heap.size w5 ((w10.alloc (.cells #[Value.int .i64 0, .int .i64 1, .int .i64 2] 3)).drewN m11) := below_drewN (below_alloc g10 _) m11
  generalize (w10.alloc (.cells #[Value.int .i64 0, .int .i64 1, .int .i64 2] 3)).drewN m11 = w11 at g11 ⊢
  clear gE g10
  have su := ((HS.out.2.1).below g11).alloc (.cells [Value.int .i64 1, .int .i64 0, .int .i64 2].toArray 3)
  have sl := SlV.lit w11 [Value.int .i64 1, .int .i64 0, .int .i64 2] 3 1 3 rfl (by decide)
  have gE := rc_equal _ _ [1, 0, 2] [1, 0, 2] _ su sl
  clear su sl
  go_wp2_with fail
  refine gE.mono ?_
  rintro e w12 ⟨rfl, m12, rfl⟩
  have g12 : Below w5.heap.size w5 ((w11.alloc (.cells #[Value.int .i64 1, .int .i64 0, .int .i64 2] 3)).drewN m12) := below_drewN (below_alloc g11 _) m12
  generalize (w11.alloc (.cells #[Value.int .i64 1, .int .i64 0, .int .i64 2] 3)).drewN m12 = w12 at g12 ⊢
  clear gE g11
  obtain ⟨⟨c0, c1, c2, c3, c4⟩, hT9⟩ := HL.out.1 w12 (below_self HS.out.2.2.2 g12)
  have gL := race_labels1 rc3 w12 _ hT9 (by omega) (by rw [rc3_races]; rfl)
  have hbF := below_self HL.out.2 (below_self HS.out.2.2.2 g12)
  clear hT9 g12
  go_wp2_with fail
  refine gL.mono ?_
  rintro e w13 ⟨⟨A9, d9, rfl⟩, hb13⟩
  have hbG := below_self hbF hb13
  clear gL hb13 c0 c1 c2 c3 c4 hbF
  go_wp2_with fail
  go_ret
  exact ⟨rfl, hbG⟩
end Go.Proofs.Ytcoijmnnnfogdaa


namespace Go.Proofs.Ytcoijmnnnfogdaa
set_option linter.unusedVariables false
set_option linter.unusedSimpArgs false
set_option maxRecDepth 100000
open Go.RowKit

set_option maxRecDepth 20000 in
set_option maxHeartbeats 8000000 in
theorem raceFree_walk (t : Sp.T) (zs : List Int) (w : World) (cs : List Value) (v : Value) (hT : TmR w.heap.size w cs t) (hwl : t.wfl) (hn : t.size ≤ 1048576) (hz : SlV w 1 v zs.length (ints .i64 zs)) :
    Calls Try.prog 4 #[.agg cs.toArray, v] w fun e w' => e = .returned (.bool true) ∧ Below w.heap.size w w' := by
  obtain ⟨a0, a1, a2, a3, A4, a5, a6, rfl, -, -⟩ := hT.form
  have x0 := Blk.new w 26 [.int .i64 a0, .int .i64 a1, .bool a2, .int .i64 a3, .slice A4 a5 a6]
  unfold tcells at hT ⊢
  have hb0 : Below w.heap.size w (w.alloc (.cells [Value.int .i64 a0, .int .i64 a1, .bool a2, .int .i64 a3, .slice A4 a5 a6].toArray 26)) := below_alloc (Below.refl _ _) _
  go_enter Try.func4, Try.ntmps4
  go_wp2_with fail
  obtain ⟨q, hq⟩ : ∃ q, q = w.heap.size := ⟨_, rfl⟩
  have hT0 := tm_up (hT.later hb0) hb0.size
  have hz0 := hz.below hb0
  generalize (w.alloc (.cells [Value.int .i64 a0, .int .i64 a1, .bool a2, .int .i64 a3, .slice A4 a5 a6].toArray 26)) = W0 at x0 hb0 hT0 hz0 ⊢
  rw [← hq] at x0 ⊢
  refine (alive15_any _).mono ?_
  rintro e w1 ⟨rfl, hb1⟩
  have hX := Boxed.of (x0.below hb1) (hT0.later hb1) hb1.size
  have hz1 := hz0.below hb1
  have hbw := below_next hb1 hb0
  have HQ := Lib.hid (And.intro hq (And.intro hbw hX))
  clear x0 hb0 hT0 hb1 hq hbw hT hz hz0
  obtain ⟨⟨c0, c1, c2, c3, c4⟩, hT1⟩ := hX.look _ (Below.refl _ _)
  have gS := race_see t zs w1 _ v hT1 hn hwl hz1
  clear hX hT1 hz1
  go_wp2_with fail
  refine gS.mono ?_
  rintro e w2 h2
  rcases h2 with ⟨ns, G, hns, hR, rfl, hG, hB, hb2⟩ | ⟨hno, rfl, hb2⟩
  rotate_left
  · have hbE := below_self HQ.out.2.1 hb2
    clear gS hb2 c0 c1 c2 c3 c4
    go_wp2_with fail
    go_ret
    exact ⟨rfl, hbE⟩
  have hbE := below_self HQ.out.2.1 hb2
  obtain ⟨⟨d0, d1, d2, d3, d4⟩, hT2⟩ := HQ.out.2.2.look _ hb2
  have gRc := race_races t w2 _ hT2 hn
  have HS := Lib.hid (And.intro hR (And.intro hB hb2))
  have hn2 : t.size ≤ 1048576 := hn
  obtain ⟨N, hN⟩ : ∃ N, N = t.size := ⟨_, rfl⟩
  rw [← hN] at hn ⊢
  have HN := Lib.hid hN
  clear gS c0 c1 c2 c3 c4 hT2 hR hB hns hG hN
  go_wp2_with fail
  refine gRc.mono ?_
  rintro e w3 ⟨u, rfl, hu, hb3⟩
  obtain ⟨A7, d7, rfl, hd7, hm7⟩ := own_slice hu
  have hbF := below_self hbE hb3
  unfold maxLen at hm7
  obtain ⟨R, hR⟩ : ∃ R, R = (Rc.races t).length := ⟨_, rfl⟩
  rw [← hR] at hd7 ⊢
  clear gRc d0 d1 d2 d3 d4 hu hbE
  by_cases hR0 : R = 0
  rotate_left
  · have gR : decide (0 < R) = true := by simp; omega
    clear hR hb3 hb2
    go_wp2_with fail
    go_ret
    exact ⟨rfl, hbF⟩
  subst hR0
  have hf := List.length_eq_zero_iff.1 hR.symm
  have hb13 := below_self hb2 hb3
  obtain ⟨⟨c0, c1, c2, c3, c4⟩, hT3⟩ := HQ.out.2.2.look _ hb13
  have gL := leaves_any w3 _ t hT3 (by omega)
  have HF := Lib.hid (And.intro hf (And.intro hb3 hb13))
  clear hR hf hT3 hb3 hb13 hb2
  go_wp2_with fail
  refine gL.mono ?_
  rintro e w4 ⟨v4, rfl, ⟨PL, cL, rfl, hleL, hmL, -, -⟩, hb4⟩
  have hbG := below_self hbF hb4
  unfold maxLen at hmL
  rw [← HN.out] at hleL ⊢
  clear gL c0 c1 c2 c3 c4 hbF
  have HB4 := Lib.hid hb4
  clear hb4
  go_wp2_with fail
  go_loopw [7, 37] (fun pl i wr => ∃ k : Nat, k ≤ N ∧ i = .int .i64 (k : Int) ∧ Below w4.heap.size w4 wr ∧ wr.ownsRow w4.heap.size 3 1 pl k (ints .i64 ((List.range k).map fun n : Nat => (n : Int)))) (fun _ i _ => N - (intOf i).toNat)
  case atStart => exact ⟨0, Nat.zero_le _, rfl, Below.refl _ _, World.ownsRow_nil _ _ _ _⟩
  case round =>
    obtain ⟨k, hk, rfl, hb, hown⟩ := hrel
    by_cases hlt : k < N
    · have HM := Lib.hid (show k + 1 ≤ maxLen ∧ (k + 1) * 8 ≤ 140737488355328 by unfold maxLen; omega)
      have hsz := hb.size
      go_wp2_with (first
        | (at_builtin; refine wp_push_at _ _ _ _ (by first | rfl | simp) _ _ _ _ _ _ Try.underlying33 info_rc rfl (by decide) hown [.int .i64 (k : Int)] rfl (by simp [Value.oneCell']) HM.out.1 HM.out.2 hsz rfl rfl rfl rfl ?_; intro v7 w7 hr7 hg7 hv7 hb7)
        | fail)
      have HZ := Lib.hid (And.intro hr7 (hb.trans hb7))
      clear hr7 hg7 hv7 hb7 hown hb
      go_roundw
      case rel => exact ⟨k + 1, by omega, by go_num, HZ.out.2, by rw [List.range_succ]; simpa [ints] using HZ.out.1⟩
      case measure => simp [intOf]; omega
    · obtain rfl : N = k := by omega
      obtain ⟨A2, d2, rfl, hd2, hm2⟩ := own_slice hown
      have s2 := SlV.of_own hown
      unfold maxLen at hm2
      have hb15 := below_self (below_self HF.out.2.2 HB4.out) hb
      obtain ⟨⟨c0, c1, c2, c3, c4⟩, hT5⟩ := HQ.out.2.2.look _ hb15
      have hz2 : ((List.range N).map fun n : Nat => (n : Int)).length = N := by simp
      have gS2 := race_see t ((List.range N).map fun n : Nat => (n : Int)) wr _ (.slice A2 N d2) hT5 hn2 hwl (by rw [hz2]; exact s2)
      have hb25 := below_self (below_self HF.out.2.1 HB4.out) hb
      have hbH := below_self hbG hb
      clear hown s2 hT5 hb15 hb
      go_wp2_with fail
      refine gS2.mono ?_
      rintro e w6 h6
      rcases h6 with ⟨ns2, G2, hn2', hr2, rfl, hG2, hB2, hb6⟩ | ⟨hno, -, -⟩
      rotate_left
      · exact absurd (Rc.right_nats (by rw [HN.out]; exact Rc.right_plain t)) hno
      have hbI := below_self hbH hb6
      have hE : Calls Try.prog 12 #[.slice (some ⟨G, 0, none⟩) N N, .slice (some ⟨G2, 0, none⟩) t.size t.size] w6 fun e w'' => e = .returned (.bool true) ∧ ∃ m, w'' = w6.drewN m := by
        have e1 := Rc.free_same HF.out.1 HS.out.1
        have e2 := Rc.free_same HF.out.1 hr2
        have l1 : (Rc.seeL t ns).length = N := by rw [HN.out]; simp [Rc.seeL]
        have l2 : (Rc.seeL t ns2).length = t.size := by simp [Rc.seeL]
        have q1 : SlV w6 1 (.slice (some ⟨G, 0, none⟩) N N) (Rc.seeL t ns).length (ints .i64 (Rc.seeL t ns)) := by
          rw [l1]
          exact SlV.of_blk (HS.out.2.1.below (below_self hb25 hb6)) (by simp [ints, l1]) (by omega)
        have q2 : SlV w6 1 (.slice (some ⟨G2, 0, none⟩) t.size t.size) (Rc.seeL t ns2).length (ints .i64 (Rc.seeL t ns2)) := by
          rw [l2]
          exact SlV.of_blk hB2 (by simp [ints, l2]) (by omega)
        refine (rc_equal _ _ _ _ w6 q1 q2).mono fun e w'' ⟨h1, h2⟩ => ⟨?_, h2⟩
        rw [h1, e1, e2]
        simp
      rw [← HN.out] at hE ⊢
      clear gS2 c0 c1 c2 c3 c4 hb25 hbH hr2 hn2' hB2 hb6 hG2
      go_wp2_with fail
      refine hE.mono ?_
      rintro e w7 ⟨rfl, m, rfl⟩
      clear hE
      go_wp2_with fail
      go_ret
      exact ⟨rfl, below_drewN hbI _⟩
end Go.Proofs.Ytcoijmnnnfogdaa
