/-
  The small graph of 'alive2', in numbers.
-/
import Derived.Lib.Hide
import Derived.Test.YtkjmddgnfgbioaaDoorGdP3
import Derived.Test.YtkjmddgnfgbioaaDoorGdP1
import Derived.Test.YtkjmddgnfgbioaaDoorGdP2
import Derived.OrdersIn
import Derived.CallsIn
import Derived.RangeFuncCalls
import Derived.TacticsIn

namespace Go.Proofs.YtkjmddgnfgbioaaDoor
set_option linter.unusedVariables false
set_option linter.unusedSimpArgs false
set_option maxRecDepth 100000

def rv (l : List Int) (k : Nat) : List Int := (List.range l.length).map fun i => if i < k ∨ l.length ≤ i + k then l.getD (l.length - 1 - i) 0 else l.getD i 0
theorem rv_length (l : List Int) (k : Nat) : (rv l k).length = l.length := by simp [rv]
theorem rv_get (l : List Int) (k i : Nat) (h : i < l.length) : (rv l k)[i]? = some (if i < k ∨ l.length ≤ i + k then l.getD (l.length - 1 - i) 0 else l.getD i 0) := by
  unfold rv
  rw [List.getElem?_map, List.getElem?_range h]
  rfl
theorem rv_zero (l : List Int) : rv l 0 = l := by
  apply List.ext_getElem?
  intro i
  by_cases h : i < l.length
  · rw [rv_get l 0 i h, if_neg (by omega), List.getD_eq_getElem?_getD, List.getElem?_eq_getElem h]
    rfl
  · rw [List.getElem?_eq_none (by rw [rv_length]; omega), List.getElem?_eq_none (by omega)]
theorem rv_step (l : List Int) (k : Nat) (h : 2 * k + 1 < l.length) : rv l (k + 1) = ((rv l k).set k (l.getD (l.length - 1 - k) 0)).set (l.length - 1 - k) (l.getD k 0) := by
  apply List.ext_getElem?
  intro i
  by_cases hi : i < l.length
  · rw [rv_get l (k + 1) i hi, List.getElem?_set, List.getElem?_set]
    by_cases e1 : l.length - 1 - k = i
    · subst e1
      rw [if_pos rfl, if_pos (by omega), if_pos (by rw [List.length_set, rv_length]; omega), show l.length - 1 - (l.length - 1 - k) = k by omega]
    · rw [if_neg e1]
      by_cases e2 : k = i
      · subst e2
        rw [if_pos rfl, if_pos (by omega), if_pos (by rw [rv_length]; omega)]
      · rw [if_neg e2, rv_get l k i hi]
        by_cases h1 : i < k ∨ l.length ≤ i + k
        · rw [if_pos h1, if_pos (by omega)]
        · rw [if_neg h1, if_neg (by omega)]
  · rw [List.getElem?_eq_none (by rw [rv_length]; omega), List.getElem?_eq_none (by rw [List.length_set, List.length_set, rv_length]; omega)]
theorem rv_end (l : List Int) (k : Nat) (h : l.length ≤ 2 * k + 1) : rv l k = l.reverse := by
  apply List.ext_getElem?
  intro i
  by_cases hi : i < l.length
  · rw [rv_get l k i hi, List.getElem?_reverse hi, List.getElem?_eq_getElem (by omega)]
    by_cases h1 : i < k ∨ l.length ≤ i + k
    · rw [if_pos h1, List.getD_eq_getElem?_getD, List.getElem?_eq_getElem (by omega)]
      rfl
    · have : i = l.length - 1 - i := by omega
      rw [if_neg h1, List.getD_eq_getElem?_getD, List.getElem?_eq_getElem hi]
      simp only [Option.getD_some]
      congr 1
      congr 1
  · rw [List.getElem?_eq_none (by rw [rv_length]; omega), List.getElem?_eq_none (by simp; omega)]
end Go.Proofs.YtkjmddgnfgbioaaDoor


namespace Go.Proofs.YtkjmddgnfgbioaaDoor
set_option linter.unusedVariables false
set_option linter.unusedSimpArgs false
set_option maxRecDepth 100000
open Go.RowKit

set_option maxHeartbeats 2000000 in
theorem reverse_any (w : World) (B g c : Nat) (l : List Int) (h : w.ownsRow B 3 1 (.slice (some ⟨g, 0, none⟩) l.length c) l.length (ints .i64 l)) (hl : l.length ≤ 1099511627776) :
    Calls Tryd.prog 119 #[.slice (some ⟨g, 0, none⟩) l.length c] w fun e w' => (∃ v, e = .returned v) ∧ w'.ownsRow B 3 1 (.slice (some ⟨g, 0, none⟩) l.length c) l.length (ints .i64 l.reverse) ∧ w.grownBy w' (some g) := by
  have H := Lib.hid h
  clear h
  go_enter Tryd.func119, Tryd.ntmps119
  go_wp2_with fail
  go_loopw [2, 3] (fun i j wr => ∃ k : Nat, 2 * k ≤ l.length + 1 ∧ i = .int .i64 (k : Int) ∧ j = .int .i64 ((l.length : Int) - 1 - k) ∧ wr.ownsRow B 3 1 (.slice (some ⟨g, 0, none⟩) l.length c) l.length (ints .i64 (rv l k)) ∧ w.grownBy wr (some g)) (fun i _ _ => l.length - (intOf i).toNat)
  case atStart => exact ⟨0, by omega, rfl, by simp, by rw [rv_zero]; exact H.out, World.grownBy.refl w _⟩
  case round =>
    obtain ⟨k, hk, rfl, rfl, hr, hg⟩ := hrel
    by_cases hlt : 2 * k + 1 < l.length
    · obtain ⟨m, hm⟩ : ∃ m : Nat, m = l.length - 1 - k := ⟨_, rfl⟩
      have hmi : (l.length : Int) - 1 - k = (m : Int) := by omega
      rw [hmi]
      have hkm : k < m := by omega
      have hml : m < l.length := by omega
      obtain ⟨a, ha⟩ : ∃ a, a = l.getD k 0 := ⟨_, rfl⟩
      obtain ⟨b, hb⟩ : ∃ b, b = l.getD m 0 := ⟨_, rfl⟩
      have c0 := own_cell hr (j := k) (u := .int .i64 a) (by
        show (List.map _ _)[k]? = _
        rw [List.getElem?_map, rv_get l k k (by omega), if_neg (by omega), ha]
        rfl)
      have c1 := own_cell hr (j := m) (u := .int .i64 b) (by
        show (List.map _ _)[m]? = _
        rw [List.getElem?_map, rv_get l k m hml, if_neg (by omega), hb]
        rfl)
      have f0 := row_frozen hr k
      have f1 := row_frozen hr m
      have hst := rv_step l k (by omega)
      rw [← hm, ← ha, ← hb] at hst
      have HH := Lib.hid (And.intro hr (And.intro hg (And.intro hst (And.intro hmi hm))))
      have hlen : l.length = m + k + 1 := by omega
      clear hr hg hst hmi hm ha hb
      go_wp2_with fail
      go_region
      have hrow : ((wr.setCell ⟨g, k, none⟩ (.int .i64 b)).setCell ⟨g, m, none⟩ (.int .i64 a)).drew.ownsRow B 3 1 (.slice (some ⟨g, 0, none⟩) l.length c) l.length (ints .i64 (rv l (k + 1))) := by
        rw [HH.out.2.2.1, ints_set, ints_set]
        exact row_set (row_set HH.out.1 k (.int .i64 b)) m (.int .i64 a)
      have hgr : w.grownBy ((wr.setCell ⟨g, k, none⟩ (.int .i64 b)).setCell ⟨g, m, none⟩ (.int .i64 a)).drew (some g) := grown_trans HH.out.2.1 (grown_trans (grown_setCell wr g k _) (grown_trans (grown_setCell _ g m _) (grown_drew _ _)))
      generalize ((wr.setCell ⟨g, k, none⟩ (.int .i64 b)).setCell ⟨g, m, none⟩ (.int .i64 a)).drew = wN at hrow hgr ⊢
      have HN := Lib.hid (And.intro hrow hgr)
      clear hrow hgr c0 c1 f0 f1
      go_wp2_with fail
      go_roundw
      case rel => exact ⟨k + 1, by omega, by go_num, by congr 1; have := HH.out.2.2.2.1; omega, HN.out.1, HN.out.2⟩
      case measure => simp [intOf]; omega
    · have e := rv_end l k (by omega)
      rw [e] at hr
      have HR := Lib.hid (And.intro hr hg)
      clear hr hg e
      have hlt' : decide ((k : Int) < (l.length : Int) - 1 - k) = false := by simp; omega
      go_wp2_with fail
      go_end0
      exact ⟨⟨_, rfl⟩, HR.out⟩
end Go.Proofs.YtkjmddgnfgbioaaDoor


namespace Go.Proofs.YtkjmddgnfgbioaaDoor.Gr
set_option linter.unusedVariables false
set_option linter.unusedSimpArgs false
set_option maxRecDepth 100000
open Bs
theorem behL_snoc {S : Type} (em : S) (un : S → Nat → S → S) (es : List Ed) : ∀ (l : List Nat) (n : Nat) (B : List S), behL em un es (l ++ [n]) B = (behL em un es l B).set n (beh1 em un es (behL em un es l B) n)
  | [], n, B => rfl
  | k :: l, n, B => by
    rw [List.cons_append]
    unfold behL
    exact behL_snoc em un es l n _
/-- when the first k from the end are done -/
def bk (N : Nat) (es : List Ed) (k : Nat) : List (List Nat) := behL [] un es ((take N es).reverse.take k) (List.replicate N [])
theorem bk_zero (N : Nat) (es : List Ed) : bk N es 0 = List.replicate N [] := by unfold bk; rw [List.take_zero]; rfl
theorem bk_all {N : Nat} {es : List Ed} (hl : (take N es).length = N) : bk N es N = behW N es := by
  unfold bk behW
  rw [List.take_of_length_le (by rw [List.length_reverse, hl]; exact Nat.le_refl _)]
theorem bk_length (N : Nat) (es : List Ed) (k : Nat) : (bk N es k).length = N := by unfold bk; rw [behL_length]; simp
theorem bk_gs {N : Nat} {es : List Ed} (hes : ∀ e ∈ es, e.2 < N) (k : Nat) : ∀ s ∈ bk N es k, Gs N s := behL_gs hes _ _ fun s hs => by
  rw [(List.mem_replicate.1 hs).2]
  exact Gs.nil N
/-- the set of one node, when j of those it leads to are in -/
def bs (N : Nat) (es : List Ed) (k n j : Nat) : List Nat := ((next es n).take j).foldl (fun s m => un s m ((bk N es k).getD m [])) []
theorem bs_zero (N : Nat) (es : List Ed) (k n : Nat) : bs N es k n 0 = [] := by unfold bs; rw [List.take_zero]; rfl
theorem bs_step {N : Nat} {es : List Ed} {k n j m : Nat} (hj : (next es n)[j]? = some m) : bs N es k n (j + 1) = op for_ (put (bs N es k n j) m) ((bk N es k).getD m []) := by
  unfold bs
  rw [take_snoc hj, List.foldl_append]
  rfl
theorem bk_step {N : Nat} {es : List Ed} {k n : Nat} (hk : (take N es).reverse[k]? = some n) : bk N es (k + 1) = (bk N es k).set n (bs N es k n (next es n).length) := by
  have h := take_snoc hk
  unfold bk at *
  rw [h, behL_snoc]
  unfold beh1 bs
  rw [List.take_length]
  rfl
theorem bs_gs {N : Nat} {es : List Ed} (hes : ∀ e ∈ es, e.2 < N) (k n : Nat) : ∀ j, Gs N (bs N es k n j)
  | 0 => by rw [bs_zero]; exact Gs.nil N
  | j + 1 => by
    by_cases hj : j < (next es n).length
    · rw [bs_step (List.getElem?_eq_getElem hj)]
      refine ((bs_gs hes k n j).put (hes _ (mem_next.1 (List.getElem_mem hj)))).or ?_
      by_cases hm : (next es n)[j] < (bk N es k).length
      · rw [List.getD_eq_getElem?_getD, List.getElem?_eq_getElem hm, Option.getD_some]
        exact bk_gs hes k _ (List.getElem_mem hm)
      · rw [List.getD_eq_getElem?_getD, List.getElem?_eq_none (by omega), Option.getD_none]
        exact Gs.nil N
    · have := bs_gs hes k n j
      unfold bs at *
      rw [List.take_of_length_le (by omega)] at this ⊢
      exact this
end Go.Proofs.YtkjmddgnfgbioaaDoor.Gr
namespace Go.Proofs.YtkjmddgnfgbioaaDoor
open Go.RowKit

theorem info_swords : (Tryd.prog.info? 22).map (fun i => (i.zero, i.size, i.bytes)) = some (some (.slice none 0 0), 1, 24) := by kernel_rfl
/-- a slice of sets, as words -/
def SlW (w : World) (v : Value) (L : List (List Nat)) : Prop := ∃ os, SlV w 1 v L.length os ∧ ∀ (i : Nat) (u : Value) (s : List Nat), os[i]? = some u → L[i]? = some s → SlU w u s
theorem SlW.below {w w' : World} {v : Value} {L : List (List Nat)} (h : SlW w v L) (hb : Below w.heap.size w w') : SlW w' v L := by
  obtain ⟨os, h1, h2⟩ := h
  exact ⟨os, h1.below hb, fun i u s hu hs => (h2 i u s hu hs).below hb⟩
def FSU (B : Nat) (s : List Nat) : Fact (fun w w' => Below w.heap.size w w') := ⟨fun v w => SlU w v s ∧ New B v, fun _ _ _ h k => ⟨h.1.below k, h.2⟩⟩
theorem own_slV {w : World} {B n : Nat} {e : TypeId} {v : Value} {xs : List Value} (h : w.ownsRow B e 1 v n xs) : SlV w 1 v n xs := by
  obtain ⟨A, c, rfl, h1, h2⟩ := own_slice h
  by_cases hn : n = 0
  · subst hn
    have : xs = [] := List.length_eq_zero_iff.1 (by have := h.1; omega)
    subst this
    exact ⟨A, c, rfl, h1, h2, rfl, 0, 0, fun e => absurd rfl e, fun j u hu => by simp at hu⟩
  · obtain ⟨g, c', e, -, -, -, h5⟩ := own_addr h (by omega)
    injection e with e1 e2 e3
    subst e1 e3
    exact ⟨_, c, rfl, h1, h2, by have := h.1; omega, g, 0, fun _ => ⟨rfl, h5⟩, fun j u hu => by rw [Nat.zero_add]; exact own_cell h hu⟩

theorem reverse_row (w : World) (B c : Nat) (A : Option Addr) (l : List Int) (h : w.ownsRow B 3 1 (.slice A l.length c) l.length (ints .i64 l)) (hl : l.length ≤ 1099511627776) :
    Calls Tryd.prog 119 #[.slice A l.length c] w fun e w' => (∃ v, e = .returned v) ∧ w'.ownsRow B 3 1 (.slice A l.length c) l.length (ints .i64 l.reverse) ∧ w.grownBy w' (Value.slice A l.length c).ownBlock := by
  rcases h.2 with ⟨h1, h2⟩ | ⟨g, cap, cur, h1, h2, h3, h4, h5, h6, h7⟩
  · injection h1 with e1 e2 e3
    subst e1 e3
    have hl0 : l = [] := List.length_eq_zero_iff.1 e2
    subst hl0
    clear e2
    go_enter Tryd.func119, Tryd.ntmps119
    go_wp2_with fail
    go_loopw [2, 3] (fun i j wr => i = .int .i64 0 ∧ j = .int .i64 (-1) ∧ w.grownBy wr none) (fun _ _ _ => 0)
    case atStart => exact ⟨rfl, rfl, World.grownBy.refl w _⟩
    case round =>
      obtain ⟨rfl, rfl, hg⟩ := hrel
      go_wp2_with fail
      go_end0
      exact ⟨⟨_, rfl⟩, World.ownsRow_nil _ _ _ _, hg⟩
  · injection h1 with e1 e2 e3
    subst e1
    exact reverse_any w B g c l h hl

theorem reverse_nat (w : World) (B c : Nat) (A : Option Addr) (l : List Nat) (h : w.ownsRow B 3 1 (.slice A l.length c) l.length (ilist l)) (hl : l.length ≤ 1099511627776) :
    Calls Tryd.prog 119 #[.slice A l.length c] w fun e w' => (∃ v, e = .returned v) ∧ w'.ownsRow B 3 1 (.slice A l.length c) l.length (ilist l.reverse) ∧ w.grownBy w' (Value.slice A l.length c).ownBlock := by
  have := reverse_row w B c A (l.map fun (x : Nat) => (x : Int)) (by rw [List.length_map]; exact h) (by rw [List.length_map]; exact hl)
  rw [List.length_map, ← List.map_reverse] at this
  exact this

/-- one row, and what each one leads to -/
def nxR (r : Rw) (vs : List Value) (L : List (List Nat)) : List Rw := r :: List.zipWith irw vs L
theorem nxR_i (r : Rw) (vs : List Value) (L : List (List Nat)) (i : Nat) (v : Value) (l : List Nat) : (nxR r vs L).set (i + 1) (irw v l) = nxR r (vs.set i v) (L.set i l) := by
  unfold nxR
  rw [List.set_cons_succ, zip_set]
theorem nxR_get (r : Rw) (vs : List Value) (L : List (List Nat)) (i : Nat) (v : Value) (l : List Nat) (hv : vs[i]? = some v) (hl : L[i]? = some l) : (nxR r vs L)[i + 1]? = some (irw v l) := by
  unfold nxR
  rw [List.getElem?_cons_succ, List.getElem?_zipWith, hv, hl]
theorem nl_nil (N : Nat) : Gr.nl N [] = List.replicate N [] := by
  apply List.ext_getElem
  · simp [Gr.nl]
  · intro i h h'; simp [Gr.nl, Gr.next]
theorem nx_start {B r : Nat} {w2 : World} {N : Nat} (r0 : Rw) (h1 : r0.at_ B w2) (hne : r0.v.ownBlock ≠ some r) (h2 : Blk w2 r 29 (List.replicate N (.slice none 0 0))) (hB : B ≤ w2.heap.size) (lo : B ≤ r) :
    Own B w2 r 29 (List.replicate N (.slice none 0 0)) (nxR r0 (List.replicate N (.slice none 0 0)) (Gr.nl N [])) := by
  have hz : List.zipWith irw (List.replicate N (.slice none 0 0)) (List.replicate N []) = List.replicate N (irw (.slice none 0 0) []) := by simp
  unfold nxR
  rw [nl_nil, hz]
  refine ⟨h2, fun s hs => ?_, fun i j s t hi hj hij => ?_, fun s hs => ?_, hB, lo⟩
  · rcases List.mem_cons.1 hs with rfl | hs
    · exact h1
    · rw [(List.mem_replicate.1 hs).2]
      exact World.ownsRow_nil _ _ _ _
  · intro k hk hk'
    cases i with
    | zero =>
      cases j with
      | zero => exact hij rfl
      | succ j =>
        rw [List.getElem?_cons_succ, List.getElem?_replicate] at hj
        split at hj
        · injection hj with hj; subst hj; simp [irw, Value.ownBlock] at hk'
        · cases hj
    | succ i =>
      rw [List.getElem?_cons_succ, List.getElem?_replicate] at hi
      split at hi
      · injection hi with hi; subst hi; simp [irw, Value.ownBlock] at hk
      · cases hi
  · rcases List.mem_cons.1 hs with rfl | hs
    · exact hne
    · rw [(List.mem_replicate.1 hs).2]
      simp [irw, Value.ownBlock]

set_option maxHeartbeats 4000000 in
theorem behind_yes (N : Nat) (es : List Gr.Ed) (w : World) (A : Option Addr) (c : Nat) (hN : N ≤ 200) (hes : ∀ e ∈ es, e.1 < N ∧ e.2 < N) (hl : (Gr.take N es).length = N) (hA : SlV w 2 (.slice A es.length c) es.length (edcs es)) (hle : es.length ≤ 1099511627776)
    (hs : ∀ w', Below w.heap.size w w' → Calls Tryd.prog 44 #[.agg #[.int .i64 (N : Int), .slice A es.length c]] w' fun e w'' => ∃ v, e = .returned (.tuple #[v, .int .i64 0]) ∧ w''.ownsRow w'.heap.size 3 1 v N (ilist (Gr.take N es)) ∧ Below w'.heap.size w' w'') :
    Calls Tryd.prog 84 #[.agg #[.int .i64 (N : Int), .slice A es.length c]] w fun e w' => ∃ v, e = .returned (.tuple #[v, .int .i64 0]) ∧ SlW w' v (Gr.behW N es) ∧ Below w.heap.size w w' := by
  have HES := Lib.hid hes
  have HL := Lib.hid hl
  have x0 := Blk.new w 72 [.int .i64 (N : Int), .slice A es.length c]
  have hb0 : Below w.heap.size w (w.alloc (.cells #[.int .i64 (N : Int), .slice A es.length c] 72)) := below_alloc (Below.refl _ _) _
  have hz0 : (w.alloc (.cells #[.int .i64 (N : Int), .slice A es.length c] 72)).heap.size = w.heap.size + 1 := by simp
  have HZ0 := Lib.hid hz0
  clear hes hl hz0
  have n47' : 24 * N ≤ 281474976710656 := by omega
  have n63 : N ≤ 9223372036854775807 := by omega
  go_enter Tryd.func84, Tryd.ntmps84
  go_upto_region 1 with (fail)
  have HZ := Lib.hid HZ0.out
  clear HZ0
  generalize (w.alloc (.cells #[.int .i64 (N : Int), .slice A es.length c] 72)) = W0 at x0 hb0 HZ ⊢
  have d0 : W0.cell? ⟨w.heap.size, 0, none⟩ = some (.int .i64 (N : Int)) := (x0.cell 0).trans rfl
  have d1 : W0.cell? ⟨w.heap.size, 1, none⟩ = some (.slice A es.length c) := (x0.cell 1).trans rfl
  go_wp2_with fail
  refine (hs W0 hb0).mono ?_
  rintro e w1 ⟨lv, rfl, ho1, hb1⟩
  obtain ⟨VB, cl, rfl, -, -⟩ := own_slice ho1
  have x1 := x0.below hb1
  have hb01 := below_next hb1 hb0
  have c0 : w1.cell? ⟨w.heap.size, 0, none⟩ = some (.int .i64 (N : Int)) := (x1.cell 0).trans rfl
  have c1 : w1.cell? ⟨w.heap.size, 1, none⟩ = some (.slice A es.length c) := (x1.cell 1).trans rfl
  clear d0 d1 x0 hs
  go_wp2_with (first | (at_make; refine wp_make _ 103 22 (.slice none 0 0) 24 N Tryd.underlying103 info_swords rfl (by omega) (by omega) n47' n63 rfl rfl rfl rfl ?_; intro w2 hown2 hb2 hs2; have x2 := x1.below hb2; have c20 : w2.cell? ⟨w.heap.size, 0, none⟩ = some (.int .i64 (N : Int)) := (x2.cell 0).trans rfl; have c21 : w2.cell? ⟨w.heap.size, 1, none⟩ = some (.slice A es.length c) := (x2.cell 1).trans rfl) | fail)
  have hrev : Calls Tryd.prog 119 #[.slice VB N cl] w2 fun e w' => (∃ v, e = .returned v) ∧ w'.ownsRow W0.heap.size 3 1 (.slice VB N cl) N (ilist (Gr.take N es).reverse) ∧ w2.grownBy w' (Value.slice VB N cl).ownBlock := by
    have h1 := own_keeps ho1 (Keeps.of_below hb2 (fun _ => False)) (fun _ _ => id)
    have hrl : (Gr.take N es).length = N := HL.out
    have h2 := reverse_nat w2 W0.heap.size cl VB (Gr.take N es) (by rw [hrl]; exact h1) (by rw [hrl]; omega)
    rw [hrl] at h2
    exact h2
  refine hrev.mono ?_
  rintro e w3 ⟨⟨rv, rfl⟩, ho3, hg3⟩
  have hlge : ∀ k, (Value.slice VB N cl).ownBlock = some k → w.heap.size + 1 ≤ k := fun k hk => by have := own_ge ho1 k hk; have := HZ.out; omega
  have hllt : ∀ k, (Value.slice VB N cl).ownBlock = some k → k < w1.heap.size := fun k hk => (ho1.lt k hk).2
  have x3 := x2.keeps (Keeps.of_grown hg3) (fun e => by have := hlge _ e.symm; omega)
  have c30 : w3.cell? ⟨w.heap.size, 0, none⟩ = some (.int .i64 (N : Int)) := (x3.cell 0).trans rfl
  have hown3 := own_keeps hown2 (Keeps.of_grown hg3) (fun k hk e => by have h1 := hllt k e.symm; have h2 : w1.heap.size = k := (by injection hk); omega)
  have hb03 : Below w.heap.size w w3 := (below_next hb2 hb01).trans ((Keeps.of_grown hg3).below (below_next hb2 hb01).size (fun k hk => by have := hlge k hk.symm; omega))
  have hsW0 := hb1.size
  have hs13 : w1.heap.size < w3.heap.size := by have := (Keeps.of_grown hg3).size; omega
  clear hown2 hg3 hrev ho1 hb01 hb2 hs2 x2 x1 c0 c1 c20 c21 hb1
  go_wp2_with (first | (at_make; refine wp_make _ 146 29 (.slice none 0 0) 24 N Tryd.underlying146 info_sint rfl (by omega) (by omega) n47' n63 rfl rfl rfl rfl ?_; intro w4 hown4 hb4 hs4; have x4 := x3.below hb4; have c40 : w4.cell? ⟨w.heap.size, 0, none⟩ = some (.int .i64 (N : Int)) := (x4.cell 0).trans rfl; have c41 : w4.cell? ⟨w.heap.size, 1, none⟩ = some (.slice A es.length c) := (x4.cell 1).trans rfl) | fail)
  have hlr : w4.ownsRow W0.heap.size 3 1 (.slice VB N cl) N (ilist (Gr.take N es).reverse) := own_keeps ho3 (Keeps.of_below hb4 (fun _ => False)) (fun _ _ => id)
  have hor := own_keeps hown3 (Keeps.of_below hb4 (fun _ => False)) (fun _ _ => id)
  have hnb := row_whole hown4
  have hb04 := below_next hb4 hb03
  have hsQ : W0.heap.size = w.heap.size + 1 := HZ.out
  have hne0 : (Value.slice (some ⟨w1.heap.size, 0, none⟩) N N).ownBlock ≠ some w3.heap.size := fun e => by
    have h2 : w1.heap.size = w3.heap.size := (by injection e)
    omega
  have hO : Own (w.heap.size + 1) w4 w3.heap.size 29 (List.replicate N (.slice none 0 0)) (nxR ⟨22, 1, .slice (some ⟨w1.heap.size, 0, none⟩) N N, N, List.replicate N (.slice none 0 0)⟩ (List.replicate N (.slice none 0 0)) (Gr.nl N [])) :=
    nx_start _ (own_base hor (by omega)) hne0 hnb (by have := hb04.size; omega) (by omega)
  have hlr' : w4.ownsRow (w.heap.size + 1) 3 1 (.slice VB N cl) N (ilist (Gr.take N es).reverse) := own_base hlr (by omega)
  have hsz : w.heap.size + 1 ≤ w1.heap.size ∧ w1.heap.size < w3.heap.size ∧ w3.heap.size < w4.heap.size := ⟨by omega, hs13, by omega⟩
  clear hlr hor hnb hne0 hown3 hown4 ho3 hb4 hs4 hb03 hsQ hsW0 hs13 x3 x4 c30 HZ hb0
  obtain ⟨gO, hgO⟩ : ∃ g, g = w1.heap.size := ⟨_, rfl⟩
  obtain ⟨gN, hgN⟩ : ∃ g, g = w3.heap.size := ⟨_, rfl⟩
  obtain ⟨Q, hQ⟩ : ∃ g, g = w.heap.size := ⟨_, rfl⟩
  have HQ := Lib.hid hQ
  simp only [← hgO, ← hgN, ← hQ] at hb04 hO hlr' hsz hlge hllt c40 c41 ⊢
  clear hgO hgN hQ
  obtain ⟨r0, hr0⟩ : ∃ r : Rw, r = ⟨22, 1, .slice (some ⟨gO, 0, none⟩) N N, N, List.replicate N (.slice none 0 0)⟩ := ⟨_, rfl⟩
  rw [← hr0] at hO
  have hOT := OwnTo.start hO
  have hkT : ∀ w', Keeps (Tw gN (nxR r0 (List.replicate N (.slice none 0 0)) (Gr.nl N []))) w4 w' → Below Q w w' := fun w' h => hb04.trans ((hO.below h).mono (by omega))
  have hTb : ∀ k, Tw gN (nxR r0 (List.replicate N (.slice none 0 0)) (Gr.nl N [])) k → gO ≤ k := fun k hk => by
    rcases hk with rfl | ⟨s, hs, hk⟩
    · exact Nat.le_of_lt hsz.2.1
    · unfold nxR at hs
      rw [nl_nil] at hs
      rcases List.mem_cons.1 hs with rfl | hs
      · rw [hr0] at hk
        have : gO = k := by injection hk
        omega
      · have hz : List.zipWith irw (List.replicate N (.slice none 0 0)) (List.replicate N []) = List.replicate N (irw (.slice none 0 0) []) := by simp
        rw [hz] at hs
        rw [(List.mem_replicate.1 hs).2] at hk
        simp [irw, Value.ownBlock] at hk
  obtain ⟨T0, hT0⟩ : ∃ T, T = Tw gN (nxR r0 (List.replicate N (.slice none 0 0)) (Gr.nl N [])) := ⟨_, rfl⟩
  rw [← hT0] at hOT hkT hTb
  have HR0 := Lib.hid hr0
  have HKT := Lib.hid hkT
  have HLR := Lib.hid (And.intro hlr' (And.intro hlge hllt))
  clear hO hT0 hr0 hkT hlr' hlge hllt hb04 c40
  go_loopw [34] (fun i wr => ∃ (k : Nat) (vs : List Value), k ≤ es.length ∧ i = .int .i64 (k : Int) ∧ vs.length = N ∧ OwnTo (Q + 1) w4 T0 wr gN 29 vs (nxR r0 vs (Gr.nl N (es.take k)))) (fun i _ => es.length - (intOf i).toNat)
  case atStart => exact ⟨0, _, Nat.zero_le _, rfl, by simp, hOT⟩
  case round =>
    obtain ⟨k, vs, hk, rfl, hvl, hOk⟩ := hrel
    have hbw := HKT.out _ hOk.kp
    by_cases hlt : k < es.length
    · obtain ⟨⟨a, b⟩, hx⟩ : ∃ x, es[k]? = some x := ⟨_, List.getElem?_eq_getElem hlt⟩
      obtain ⟨ha, hb⟩ := HES.out _ (List.mem_of_getElem? hx)
      have gx := flat_get edc 2 (fun _ => rfl) es k
      have g1 := gx 0 _ hx (by omega)
      have g2 := gx 1 _ hx (by omega)
      rw [HQ.out] at hbw
      obtain ⟨A', c', he, -, -, -, hcc⟩ := hA.below hbw
      injection he with e1 e2 e3
      subst e1 e3
      obtain ⟨g, o, rfl, hgl, hcell⟩ := hcc.at_ (fun e => by rw [show List.flatMap edc es = edcs es from rfl, e] at g1; simp [edc] at g1)
      have d0 : wr.cell? ⟨g, o + k * 2, none⟩ = some (.int .i64 (a : Int)) := (hcell _ _ g1).trans rfl
      have d1 : wr.cell? ⟨g, o + k * 2 + 1, none⟩ = some (.int .i64 (b : Int)) := by rw [Nat.add_assoc]; exact hcell _ _ g2
      have htk := Gr.take_snoc hx
      have hn1 := Gr.nl_one N (es.take k) a b
      rw [← htk] at hn1
      have hTA := hOk.later (below_alloc (Below.refl _ _) (.cells #[.int .i64 (a : Int), .int .i64 (b : Int)] 75))
      have hE := Blk.new wr 75 [.int .i64 (a : Int), .int .i64 (b : Int)]
      obtain ⟨v, hv⟩ : ∃ v, vs[a]? = some v := ⟨_, List.getElem?_eq_getElem (by omega)⟩
      have hnx : (Gr.nl N (es.take k))[a]? = some (Gr.next (es.take k) a) := Gr.map_get _ _ _ ha
      have hnl : (Gr.next (es.take k) a).length ≤ 1099511627776 := by
        have := List.length_filter_le (fun e : Gr.Ed => e.1 == a) (es.take k)
        rw [List.length_take] at this
        unfold Gr.next
        rw [List.length_map]
        omega
      obtain ⟨nx, hnxq⟩ : ∃ nx, nx = Gr.next (es.take k) a := ⟨_, rfl⟩
      rw [← hnxq] at hnx hn1 hnl
      clear hnxq
      have hvne : v.ownBlock ≠ some wr.heap.size := fun e => by
        have := ((hOk.own.row (a + 1) (nxR_get _ _ _ a v nx hv hnx)).lt _ e).2
        omega
      have HX := Lib.hid (And.intro hn1 (And.intro hv hnx))
      clear hv hnx
      have HA := Lib.hid hA
      clear hOk htk hn1 hx gx g1 g2 hcc hcell e2 hA hbw
      go_upto_region 10 with (fail)
      have hb5 : Below wr.heap.size wr (wr.alloc (.cells #[.int .i64 (a : Int), .int .i64 (b : Int)] 75)) := below_alloc (Below.refl _ _) _
      generalize (wr.alloc (.cells #[.int .i64 (a : Int), .int .i64 (b : Int)] 75)) = w6 at hTA hE hb5 ⊢
      clear d0 d1 hb5
      have hget := nxR_get r0 vs (Gr.nl N (es.take k)) a v nx HX.out.2.1 HX.out.2.2
      have rv : w6.ownsRow (Q + 1) 3 1 v nx.length (ilist nx) := hTA.own.row (a + 1) hget
      have hng : v.ownBlock ≠ some gN := hTA.own.ng _ (List.mem_of_getElem? hget)
      obtain ⟨VB2, cb, rfl, -, -⟩ := own_slice rv
      have hR : ∀ w', Below w6.heap.size w6 w' → w'.ownsRow (Q + 1) 3 1 (.slice VB2 nx.length cb) nx.length (ilist nx) ∧ Q + 1 ≤ w'.heap.size := fun w' hb => ⟨(hTA.own.later hb).row (a + 1) hget, (hTA.own.later hb).base⟩
      have keepS : ∀ w', Keeps (fun k => (Value.slice VB2 nx.length cb).ownBlock = some k) w6 w' → Keeps (fun k => (Value.slice VB2 nx.length cb).ownBlock = some k) w6 w' ∧ w'.cell? ⟨gN, a, none⟩ = some (.slice VB2 nx.length cb) ∧ w'.cell? ⟨wr.heap.size, 0, none⟩ = some (.int .i64 (a : Int)) ∧ w'.cell? ⟨wr.heap.size, 1, none⟩ = some (.int .i64 (b : Int)) := fun w' k =>
        ⟨k, ((hTA.own.blk.keeps k hng).cell a).trans HX.out.2.1, ((hE.keeps k hvne).cell 0).trans rfl, ((hE.keeps k hvne).cell 1).trans rfl⟩
      have hS1 := keepS _ ((Keeps.refl _ w6).drewN 1)
      have hn63 : nx.length + 1 ≤ maxLen := by unfold maxLen; omega
      have hn47 : (nx.length + 1) * 8 ≤ 140737488355328 := by omega
      have HT := Lib.hid (And.intro hTA hget)
      clear hTA rv hE hget hng hvne
      refine wp_walk_mt 13 (fun i => ([11] : List Nat).contains i) (fun i => ([0,1,2,12] : List Nat).contains i) [11] (by intro m h; simpa using h) (by kernel_rfl) (by kernel_rfl) (by kernel_rfl) (fun w w' => Below w.heap.size w w')  (fun w' => Keeps (fun k => (Value.slice VB2 nx.length cb).ownBlock = some k) w6 w' ∧ w'.cell? ⟨gN, a, none⟩ = some (.slice VB2 nx.length cb) ∧ w'.cell? ⟨wr.heap.size, 0, none⟩ = some (.int .i64 (a : Int)) ∧ w'.cell? ⟨wr.heap.size, 1, none⟩ = some (.int .i64 (b : Int))) (fun w' => Below w6.heap.size w6 w') hS1 (below_drew (Below.refl _ _)) (fun _ _ h h' => below_next h' h) ?_
      simp only [List.length_cons, List.length_nil, Nat.reduceAdd, Nat.reduceSub, List.take_succ_cons, List.take_zero, List.drop_succ_cons, List.drop_zero]
      repeat (first | (refine nsettle_skip (by rfl) (fun _ => by rfl) ?_; (simp only [Act.put, List.setIfInBounds_toArray, List.set_cons_zero, List.set_cons_succ])) | (refine' nsettle_run (by rfl) (fun _ _ => Below.refl _ _) (fun _ => by rfl) ?_ ?_; rotate_left; (focus (intro ρ w hS hF hP; (try dsimp only at hS); go_split_ands; go_simp; try with_reducible rfl)); (simp only [Act.put, List.setIfInBounds_toArray, List.set_cons_zero, List.set_cons_succ])))
      (refine nsettle_known (FSl 1 1 [.int .i64 (b : Int)]) (by rfl) (by rfl) (by rfl) (fun _ => by rfl)  ?_ ?_; (focus (intro ρ w hS hF hP K hK; (simp only [Act.put, List.setIfInBounds_toArray, List.set_cons_zero, List.set_cons_succ] at hK); go_simp; exact hK _ _ (SlV.lit w [.int .i64 (b : Int)] 3 1 1 rfl (by decide)) (keepS _ (hS.1.alloc _)) (below_alloc (Below.refl _ _) _))); (simp only [Act.put, List.setIfInBounds_toArray, List.set_cons_zero, List.set_cons_succ]))
      (refine nsettle_mark (FPush w6 (Q + 1) 3 1 (.slice VB2 nx.length cb) (nx.length + 1) (ilist nx ++ [.int .i64 (b : Int)])) (by rfl) (by rfl) (by rfl) (fun _ => by rfl) ?_ ?_; (focus (intro ρ w hS hF hP K hK; refine oper_append (.tmp 45) (.tmp 48) (Q + 1) _ _ _ _ _ Tryd.underlying29 info_int rfl (by decide) (hR w (hP (by rfl))).1 (hF.1 (by rfl)) (by simp [Value.oneCell']) hn63 hn47 (hR w (hP (by rfl))).2 rfl rfl rfl ?_; intro v' w' hown hg hv _; exact hK v' w' ⟨w, hP (by rfl), hg, hown, hv.imp id fun e => ⟨_, Nat.le_refl _, e⟩⟩ (keepS _ (hS.1.trans ((Keeps.of_grown hg).mono fun i hi => hi.symm))))); (simp only [Act.put, List.setIfInBounds_toArray, List.set_cons_zero, List.set_cons_succ]))
      repeat (first | (refine nsettle_skip (by rfl) (fun _ => by rfl) ?_; (simp only [Act.put, List.setIfInBounds_toArray, List.set_cons_zero, List.set_cons_succ])) | (refine' nsettle_run (by rfl) (fun _ _ => Below.refl _ _) (fun _ => by rfl) ?_ ?_; rotate_left; (focus (intro ρ w hS hF hP; (try dsimp only at hS); go_split_ands; go_simp; try with_reducible rfl)); (simp only [Act.put, List.setIfInBounds_toArray, List.set_cons_zero, List.set_cons_succ])))
      refine nsettle_nil ?_
      intro ρ w7 hS hF
      obtain ⟨wa, ha1, ha2, ha3, ha4⟩ := hF 49 (FPush w6 (Q + 1) 3 1 (.slice VB2 nx.length cb) (nx.length + 1) (ilist nx ++ [.int .i64 (b : Int)])) (by repeat (first | exact List.mem_cons_self | apply List.mem_cons_of_mem))
      clear hF hS hS1 keepS hR
      dsimp only
      generalize ρ 48 = v44
      generalize ρ 49 = v4 at ha3 ha4 ⊢
      have hx4 : wa.grownBy w7 (irw (.slice VB2 nx.length cb) nx).v.ownBlock := ha2
      have ho4 : w7.ownsRow (Q + 1) 3 1 v4 (nx ++ [b]).length (ilist (nx ++ [b])) := by simpa [ilist, ints] using ha3
      have hB4 := ((HT.out.1.own.later ha1).put (i := a + 1) HT.out.2 ho4 hx4 ha4).1
      have hend : ∀ w8, Blk w8 gN 29 (vs.set a v4) → w7.grownBy w8 (some gN) → OwnTo (Q + 1) w4 T0 w8 gN 29 (vs.set a v4) (nxR r0 (vs.set a v4) (Gr.nl N (es.take (k + 1)))) := fun w8 b8 g8 => by
        have := (HT.out.1.later ha1).step ((HT.out.1.own.later ha1).put_to (i := a + 1) HT.out.2 ho4 hx4 ha4 b8 g8)
        have e := nxR_i r0 vs (Gr.nl N (es.take k)) a v4 (nx ++ [b])
        rw [← HX.out.1] at e
        exact e ▸ this
      obtain ⟨V4, c4, rfl, -, -⟩ := own_slice ha3
      clear ha1 ha2 ha3 ha4 hx4 ho4
      have hva : a < vs.length := by omega
      refine wpl_set_blk hB4 a _ (by kernel_rfl) hva rfl rfl rfl rfl rfl rfl ?_
      intro w8 hB8 hg8
      have T8 := hend w8 hB8 hg8
      have HT8 := Lib.hid T8
      clear hB4 hB8 hg8 hend T8 HT
      go_wp2_with fail
      go_roundw
      case rel => exact ⟨k + 1, _, by omega, by go_num, by simpa using hvl, HT8.out⟩
      case measure => simp [intOf]; omega
    · obtain rfl : k = es.length := by omega
      rw [List.take_length] at hOk
      clear hA
      have hlr4 := HLR.out.1
      have hlrz : wr.ownsRow (Q + 1) 3 1 (.slice VB N cl) N (ilist (Gr.take N es).reverse) := own_keeps hlr4 hOk.kp (fun k hk e => by have := hTb k e; have := HLR.out.2.2 k hk; omega)
      have r0z : wr.ownsRow (Q + 1) 22 1 (.slice (some ⟨gO, 0, none⟩) N N) N (List.replicate N (.slice none 0 0)) := by
        have := hOk.own.row 0 rfl
        rw [HR0.out] at this
        exact this
      obtain ⟨wz, rfl⟩ : ∃ wz : World, wz = wr := ⟨_, rfl⟩
      have hgz : gO < wz.heap.size := (r0z.lt _ rfl).2
      have hk2 : ∀ w', Keeps (fun k => k = gO) wz w' → (∀ n, n < N → ∃ v, w'.cell? ⟨gN, n, none⟩ = some v ∧ w'.ownsRow (Q + 1) 3 1 v (Gr.next es n).length (ilist (Gr.next es n))) ∧ w'.ownsRow (Q + 1) 3 1 (.slice VB N cl) N (ilist (Gr.take N es).reverse) ∧ Below Q w w' := fun w' hk => by
        refine ⟨fun n hn => ?_, own_keeps hlrz hk (fun k hk e => by have := HLR.out.2.2 k hk; omega), hbw.trans ((hk.below (B := Q) (by have := hbw.size; have := HQ.out; omega) (fun k hk => by omega)).mono (by have := HQ.out; omega))⟩
        obtain ⟨v, hv⟩ : ∃ v, vs[n]? = some v := ⟨_, List.getElem?_eq_getElem (by omega)⟩
        have hget := nxR_get r0 vs (Gr.nl N es) n v _ hv (Gr.map_get _ _ _ hn)
        refine ⟨v, ((hOk.own.blk.keeps hk (by omega)).cell n).trans hv, own_keeps (hOk.own.row (n + 1) hget) hk (fun k hk e => ?_)⟩
        refine hOk.own.ap (n + 1) 0 _ _ hget rfl (by omega) k hk ?_
        rw [HR0.out, e]
        rfl
      have HK2 := Lib.hid hk2
      clear hk2 hlr4 hlrz hOk hbw hOT c41 HKT HLR HR0 hTb hlt
      go_wp2_with fail
      go_loopw [54] (fun i wr => ∃ (k : Nat) (os : List Value), k ≤ N ∧ i = .int .i64 (k : Int) ∧ os.length = N ∧ wr.ownsRow (Q + 1) 22 1 (.slice (some ⟨gO, 0, none⟩) N N) N os ∧ (∀ (i : Nat) (u : Value) (s : List Nat), os[i]? = some u → (Gr.bk N es k)[i]? = some s → SlU wr u s ∧ FarU (fun k => k = gO) u s) ∧ Keeps (fun k => k = gO) wz wr) (fun i _ => N - (intOf i).toNat)
      case atStart => exact ⟨0, _, Nat.zero_le _, rfl, by simp, r0z, fun i u s hu hs => by
        rw [Gr.bk_zero] at hs
        have h1 := List.eq_of_mem_replicate (List.mem_of_getElem? hu)
        have h2 := List.eq_of_mem_replicate (List.mem_of_getElem? hs)
        subst h1 h2
        exact ⟨SlU.nil _, fun h => absurd rfl h⟩, Keeps.refl _ _⟩
      case round =>
        obtain ⟨k, os, hk, rfl, hol, hro, hos, hkz⟩ := hrel
        by_cases hlt : k < N
        · obtain ⟨hnx, hlr, -⟩ := HK2.out _ hkz
          obtain ⟨n, hn⟩ : ∃ n, (Gr.take N es).reverse[k]? = some n := ⟨_, List.getElem?_eq_getElem (by rw [List.length_reverse, HL.out]; exact hlt)⟩
          have hnN : n < N := (Gr.good_take N es).lt n (List.mem_reverse.1 (List.mem_of_getElem? hn))
          obtain ⟨gl, cl', e, -, -, -, -⟩ := own_addr hlr (by omega)
          injection e with e1 e2 e3
          subst e1 e3
          have c0 := own_cell hlr (j := k) (u := .int .i64 (n : Int)) (by unfold ilist ints; rw [List.map_map, List.getElem?_map, hn]; rfl)
          obtain ⟨v, hv, hrv⟩ := hnx n hnN
          obtain ⟨V, cv, rfl, -, -⟩ := own_slice hrv
          have HN := Lib.hid (And.intro hn (And.intro hrv (And.intro hro (And.intro hos hkz))))
          have hln : (Gr.next es n).length ≤ es.length := by unfold Gr.next; rw [List.length_map]; exact List.length_filter_le _ _
          have hgr : gO < wr.heap.size := Nat.lt_of_lt_of_le hgz hkz.size
          clear hn hrv hro hos hkz hnx hlr e2
          go_wp2_with fail
          obtain ⟨wy, rfl⟩ : ∃ wy : World, wy = wr := ⟨_, rfl⟩
          clear c0 hv
          go_loopw [12, 63] (fun u i wr => ∃ j : Nat, j ≤ (Gr.next es n).length ∧ i = .int .i64 (j : Int) ∧ SlU wr u (Gr.bs N es k n j) ∧ New wy.heap.size u ∧ Below wy.heap.size wy wr) (fun _ i _ => (Gr.next es n).length - (intOf i).toNat)
          case atStart => exact ⟨0, Nat.zero_le _, rfl, by rw [Gr.bs_zero]; exact SlU.nil _, New.nil _ _ _, Below.refl _ _⟩
          case round =>
            obtain ⟨j, hj, rfl, hu, hnw, hby⟩ := hrel
            obtain ⟨A8, c8, rfl⟩ := slU_form hu
            by_cases hjl : j < (Gr.next es n).length
            · obtain ⟨m, hm⟩ : ∃ m, (Gr.next es n)[j]? = some m := ⟨_, List.getElem?_eq_getElem hjl⟩
              have hmN : m < N := (HES.out _ (Gr.mem_next.1 (List.mem_of_getElem? hm))).2
              have hrv := own_keeps HN.out.2.1 (Keeps.of_below hby (fun _ => False)) (fun _ _ => id)
              obtain ⟨gv, cv', e, -, -, -, -⟩ := own_addr hrv (by omega)
              injection e with e1 e2 e3
              subst e1 e3
              have c0 := own_cell hrv (j := j) (u := .int .i64 (m : Int)) (by unfold ilist ints; rw [List.map_map, List.getElem?_map, hm]; rfl)
              obtain ⟨um, hum⟩ : ∃ u, os[m]? = some u := ⟨_, List.getElem?_eq_getElem (by omega)⟩
              obtain ⟨sm, hsm⟩ : ∃ s, (Gr.bk N es k)[m]? = some s := ⟨_, List.getElem?_eq_getElem (by rw [Gr.bk_length]; exact hmN)⟩
              have hsu := (HN.out.2.2.2.1 m um sm hum hsm).1.below hby
              have hro := own_keeps HN.out.2.2.1 (Keeps.of_below hby (fun _ => False)) (fun _ _ => id)
              have c2 := own_cell hro hum
              obtain ⟨Am, cm, rfl⟩ := slU_form hsu
              have hst := Gr.bs_step hm (N := N) (k := k)
              rw [List.getD_eq_getElem?_getD, hsm, Option.getD_some] at hst
              have hg1 := Gr.bs_gs (fun e he => (HES.out e he).2) k n j (N := N)
              have hgm := Gr.bk_gs (fun e he => (HES.out e he).2) k _ (List.mem_of_getElem? hsm)
              have HST := Lib.hid hst
              have HJ := Lib.hid (And.intro hm hby)
              obtain ⟨sj, hsj⟩ : ∃ s, s = Gr.bs N es k n j := ⟨_, rfl⟩
              rw [← hsj] at hu hg1 HST ⊢
              have hadd := fun w' (hb : Below wr.heap.size wr w') => put_new w' _ sj m (hu.below hb) (by omega) (Nat.le_trans hg1.length (by omega))
              have hl1 : (Bs.put sj m).length ≤ 17592186044416 := Nat.le_trans (hg1.put hmN).length (by omega)
              have hl2 : sm.length ≤ 17592186044416 := Nat.le_trans hgm.length (by omega)
              have hor := fun w' (v : Value) (hb : Below wr.heap.size wr w') (hv : SlU w' v (Bs.put sj m)) => sor_new w' v _ (Bs.put sj m) sm hv (hsu.below hb) hl1 hl2
              have keepS : ∀ w', Below wr.heap.size wr w' → Below wr.heap.size wr w' ∧ w'.cell? ⟨gO, m, none⟩ = some (.slice Am sm.length cm) := fun w' hb => ⟨hb, (hb.cell (p := ⟨gO, m, none⟩) (Nat.lt_of_lt_of_le hgr hby.size)).trans c2⟩
              have hS0 := keepS _ (below_drew (Below.refl _ _))
              have hby' := Lib.hid hby.size
              clear hm hum hsm hsu hro hst hg1 hgm hby hrv e2 hnw hsj hu
              go_upto_region 19 with (fail)
              refine wp_walk (by kernel_rfl) (by kernel_rfl) (fun w w' => Below w.heap.size w w') (fun w' => Below wr.heap.size wr w' ∧ w'.cell? ⟨gO, m, none⟩ = some (.slice Am sm.length cm)) hS0 ?_
              repeat (first | (refine settle_skip (fun _ => by rfl) ?_; (simp only [Act.put, List.setIfInBounds_toArray, List.set_cons_zero, List.set_cons_succ])) | (refine' settle_run (fun _ _ => Below.refl _ _) (fun _ => by rfl) ?_ ?_; rotate_left; (focus (intro ρ w hS hF; (try dsimp only at hS); go_split_ands; go_simp; try with_reducible rfl)); (simp only [Act.put, List.setIfInBounds_toArray, List.set_cons_zero, List.set_cons_succ])))
              (refine settle_known (FSU wy.heap.size (Bs.put sj m)) (by rfl) (fun _ => by rfl)  ?_ ?_; (focus (intro ρ w hS hF K hK; (simp only [Act.put, List.setIfInBounds_toArray, List.set_cons_zero, List.set_cons_succ] at hK); go_simp; (refine (hadd _ hS.1).mono ?_; rintro e w' ⟨u, rfl, ⟨h1, h2⟩, hb'⟩; exact hK _ _ ⟨h1, h2.mono (Nat.le_trans hby'.out hS.1.size)⟩ (keepS _ (below_next hb' hS.1)) hb'))); (simp only [Act.put, List.setIfInBounds_toArray, List.set_cons_zero, List.set_cons_succ]))
              repeat (first | (refine settle_skip (fun _ => by rfl) ?_; (simp only [Act.put, List.setIfInBounds_toArray, List.set_cons_zero, List.set_cons_succ])) | (refine' settle_run (fun _ _ => Below.refl _ _) (fun _ => by rfl) ?_ ?_; rotate_left; (focus (intro ρ w hS hF; (try dsimp only at hS); go_split_ands; go_simp; try with_reducible rfl)); (simp only [Act.put, List.setIfInBounds_toArray, List.set_cons_zero, List.set_cons_succ])))
              (refine settle_known (FSU wy.heap.size (Bs.op Bs.for_ (Bs.put sj m) sm)) (by rfl) (fun _ => by rfl)  ?_ ?_; (focus (intro ρ w hS hF K hK; (simp only [Act.put, List.setIfInBounds_toArray, List.set_cons_zero, List.set_cons_succ] at hK); go_simp; (refine (hor _ _ hS.1 (hF.1 (by rfl)).1).mono ?_; rintro e w' ⟨u, rfl, ⟨h1, h2⟩, hb'⟩; exact hK _ _ ⟨h1, h2.mono (Nat.le_trans hby'.out hS.1.size)⟩ (keepS _ (below_next hb' hS.1)) hb'))); (simp only [Act.put, List.setIfInBounds_toArray, List.set_cons_zero, List.set_cons_succ]))
              (refine settle_known (FSU wy.heap.size (Bs.op Bs.for_ (Bs.put sj m) sm)) (by rfl) (fun _ => by rfl)  ?_ ?_; (focus (intro ρ w hS hF K hK; (simp only [Act.put, List.setIfInBounds_toArray, List.set_cons_zero, List.set_cons_succ] at hK); go_simp; exact hK _ _ (hF.1 (by rfl)) hS (Below.refl _ _))); (simp only [Act.put, List.setIfInBounds_toArray, List.set_cons_zero, List.set_cons_succ]))
              refine settle_nil ?_
              intro ρ wE hS hF
              obtain ⟨hE1, hE2⟩ := hF 12 (FSU wy.heap.size (Bs.op Bs.for_ (Bs.put sj m) sm)) (by repeat (first | exact List.mem_cons_self | apply List.mem_cons_of_mem))
              dsimp only
              generalize ρ 12 = v12 at hE1 hE2 ⊢
              rw [← HST.out] at hE1
              have HE := Lib.hid (And.intro hE1 (And.intro hE2 (below_next hS.1 HJ.out.2)))
              clear hF hS hS0 keepS hor hadd hE1 hE2 c2
              generalize ρ 69 = v69
              generalize ρ 74 = v74
              go_wp2_with fail
              go_roundw
              case rel => exact ⟨j + 1, by omega, by go_num, HE.out⟩
              case measure => simp [intOf]; omega
            · obtain rfl : j = (Gr.next es n).length := by omega
              have hro := own_keeps HN.out.2.2.1 (Keeps.of_below hby (fun _ => False)) (fun _ _ => id)
              have hst := Gr.bk_step HN.out.1
              have hos := fun i u s hi hs => (HN.out.2.2.2.1 i u s hi hs).1.below hby
              have hfo := fun i u s hi hs => (HN.out.2.2.2.1 i u s hi hs).2
              have hkz : Keeps (fun k => k = gO) wz wr := HN.out.2.2.2.2.trans (Keeps.of_below hby _)
              obtain ⟨sj, hsj⟩ : ∃ s, s = Gr.bs N es k n (Gr.next es n).length := ⟨_, rfl⟩
              rw [← hsj] at hu hst hnw ⊢
              have HST := Lib.hid (And.intro hst hsj)
              obtain ⟨uo, huo⟩ : ∃ u, os[n]? = some u := ⟨_, List.getElem?_eq_getElem (by omega)⟩
              have c9 := own_cell hro huo
              clear hst hsj hby
              have f0 := row_frozen hro n
              have hr6 := row_set hro n (.slice A8 sj.length c8)
              have hg6 := grown_setCell wr gO n (.slice A8 sj.length c8)
              go_wp2_with fail
              generalize (wr.setCell ⟨gO, n, none⟩ (.slice A8 sj.length c8)) = w6 at hr6 hg6 ⊢
              have kk : Keeps (fun k => k = gO) wr w6 := (Keeps.of_grown hg6).mono fun i hi => by injection hi
              have hfn : FarU (fun k => k = gO) (.slice A8 sj.length c8) sj := FarU.new hnw fun k hk => by omega
              have hend : ∀ (i : Nat) (u : Value) (s : List Nat), (os.set n (.slice A8 sj.length c8))[i]? = some u → (Gr.bk N es (k + 1))[i]? = some s → SlU w6 u s ∧ FarU (fun k => k = gO) u s := fun i u s hi hs => by
                rw [HST.out.1] at hs
                by_cases e : n = i
                · subst e
                  rw [List.getElem?_set_self (by omega)] at hi
                  rw [List.getElem?_set_self (by rw [Gr.bk_length]; omega)] at hs
                  injection hi with hi
                  injection hs with hs
                  subst hi hs
                  exact ⟨hu.far kk hfn, hfn⟩
                · rw [List.getElem?_set_ne e] at hi hs
                  exact ⟨(hos i u s hi hs).far kk (hfo i u s hi hs), hfo i u s hi hs⟩
              go_roundw
              case rel => exact ⟨k + 1, _, by omega, by go_num, by simpa using hol, hr6, hend, hkz.step kk fun _ _ h => h⟩
              case measure => simp [intOf]; omega
        · obtain rfl : k = N := by omega
          have hbw := (HK2.out _ hkz).2.2
          have hlk : (Gr.bk k es k).length = k := Gr.bk_length _ _ _
          have hSW : SlW wr (.slice (some ⟨gO, 0, none⟩) k k) (Gr.bk k es k) := by
            refine ⟨os, ?_, fun i u s hu hs => (hos i u s hu hs).1⟩
            rw [hlk]
            exact own_slV hro
          rw [Gr.bk_all HL.out] at hSW
          rw [HQ.out] at hbw
          have HE := Lib.hid (And.intro hSW hbw)
          clear hSW hbw hlk hos hro hkz hol
          go_wp2_with fail
          go_ret2
          exact ⟨_, rfl, HE.out.1, HE.out.2⟩
end Go.Proofs.YtkjmddgnfgbioaaDoor


namespace Go.Proofs.YtkjmddgnfgbioaaDoor
set_option linter.unusedVariables false
set_option linter.unusedSimpArgs false
set_option maxRecDepth 100000
open Go.RowKit

theorem Gr.wrong_zero {n : Int} {es : List Gr.Er} (h : Gr.wrong n es = 0) : Gr.okG n es = true ∧ ∃ N : Nat, n = (N : Int) ∧ N ≤ 200 ∧ (∀ e ∈ Gr.nat es, e.1 < N ∧ e.2 < N) ∧ (Gr.nat es).length = es.length ∧ (Gr.take N (Gr.nat es)).length = N := by
  have hok : Gr.okG n es = true := by
    cases h1 : Gr.okG n es with
    | true => rfl
    | false =>
      unfold Gr.wrong at h
      rw [h1] at h
      cases h
  obtain ⟨N, rfl, hN, hes, hln, -⟩ := Gr.nat_ok hok
  refine ⟨hok, N, rfl, hN, hes, hln, ?_⟩
  unfold Gr.wrong at h
  rw [hok] at h
  simp only [if_true, Int.toNat_natCast] at h
  by_cases hl : (Gr.take N (Gr.nat es)).length < N
  · rw [if_pos hl] at h
    cases h
  · have := (Gr.good_take N (Gr.nat es)).length
    omega

set_option maxHeartbeats 4000000 in
theorem behind_no (R : Int) (hR : R ≠ 0) (w : World) (x : Value) (A : Option Addr) (l c : Nat) (n : Int) (hx : x = .agg #[.int .i64 n, .slice A l c])
    (hs : ∀ w', Below w.heap.size w w' → Calls Tryd.prog 44 #[x] w' fun e w'' => ∃ v, e = .returned (.tuple #[v, .int .i64 R]) ∧ v = .slice none 0 0 ∧ Below w'.heap.size w' w'') :
    Calls Tryd.prog 84 #[x] w fun e w' => ∃ v, e = .returned (.tuple #[v, .int .i64 R]) ∧ v = .slice none 0 0 ∧ Below w.heap.size w w' := by
  subst hx
  have x0 := Blk.new w 72 [.int .i64 n, .slice A l c]
  have hb0 : Below w.heap.size w (w.alloc (.cells #[.int .i64 n, .slice A l c] 72)) := below_alloc (Below.refl _ _) _
  go_enter Tryd.func84, Tryd.ntmps84
  go_upto_region 1 with (fail)
  generalize (w.alloc (.cells #[.int .i64 n, .slice A l c] 72)) = W0 at x0 hb0 ⊢
  have d0 : W0.cell? ⟨w.heap.size, 0, none⟩ = some (.int .i64 n) := (x0.cell 0).trans rfl
  have d1 : W0.cell? ⟨w.heap.size, 1, none⟩ = some (.slice A l c) := (x0.cell 1).trans rfl
  have g0 : (R != 0) = true := by simpa using hR
  have HR := Lib.hid hR
  clear hR
  go_wp2_with fail
  refine (hs W0 hb0).mono ?_
  rintro e w1 ⟨v, rfl, rfl, hb1⟩
  have hb01 := Lib.hid (below_next hb1 hb0)
  clear d0 d1 x0 hs hb1 hb0
  go_wp2_with fail
  go_ret2
  exact ⟨_, rfl, rfl, hb01.out⟩

theorem behind_any (n : Int) (es : List Gr.Er) (w : World) (A : Option Addr) (c : Nat) (hA : SlV w 2 (.slice A es.length c) es.length (ercs es)) (hle : es.length ≤ 1099511627776) (hT : Tab w) :
    Calls Tryd.prog 84 #[.agg #[.int .i64 n, .slice A es.length c]] w fun e w' => ∃ v, e = .returned (.tuple #[v, .int .i64 (Gr.wrong n es)]) ∧ (Gr.wrong n es ≠ 0 → v = .slice none 0 0) ∧ (Gr.wrong n es = 0 → SlW w' v (Gr.behW n.toNat (Gr.nat es))) ∧ Below w.heap.size w w' := by
  have hTb : ∀ w', Below w.heap.size w w' → Tab w' := fun w' hb j hj => (hb.cell (p := ⟨0, j, none⟩) hT.lt).trans (hT j hj)
  have hs := fun w' (hb : Below w.heap.size w w') => sort_any n es w' A c (hA.below hb) hle (hTb w' hb)
  by_cases h0 : Gr.wrong n es = 0
  · obtain ⟨hok, N, rfl, hN, hes, hln, hl⟩ := Gr.wrong_zero h0
    rw [Int.toNat_natCast] at hs ⊢
    have h4 := hA
    rw [ercs_nat hok, ← hln] at h4
    have hb := behind_yes N (Gr.nat es) w A c hN hes hl h4 (by omega) (fun w' hb => by
      rw [hln]
      refine (hs w' hb).mono ?_
      rintro e w'' ⟨v, rfl, -, h2, h3⟩
      have := h2 h0
      rw [hl] at this
      exact ⟨v, by rw [h0], this, h3⟩)
    rw [hln] at hb
    refine hb.mono ?_
    rintro e w' ⟨v, rfl, h1, h2⟩
    exact ⟨v, by rw [h0], fun h => absurd h0 h, fun _ => h1, h2⟩
  · refine (behind_no (Gr.wrong n es) h0 w _ A es.length c n rfl fun w' hb => ?_).mono ?_
    · refine (hs w' hb).mono ?_
      rintro e w'' ⟨v, rfl, h1, -, h3⟩
      exact ⟨v, rfl, h1 h0, h3⟩
    · rintro e w' ⟨v, rfl, h1, h2⟩
      exact ⟨v, rfl, fun _ => h1, fun h => absurd h h0, h2⟩
end Go.Proofs.YtkjmddgnfgbioaaDoor


namespace Go.Proofs.YtkjmddgnfgbioaaDoor
set_option linter.unusedVariables false
set_option linter.unusedSimpArgs false
set_option maxRecDepth 100000
open Go.RowKit Go.Shelf

attribute [local go_sem] Oper.semAt_some

theorem all1_gen (m l qb cap : Nat) (A : Option Addr) (xs : List Nat) (hws : Bs.Ws xs) (hreach : xs.length ≤ 17592186044416) (J Jx : List Nat → World → Prop) (Kp : World → World → Prop) (hKr : ∀ w, Kp w w) (hKt : ∀ {a b c : World}, Kp a b → Kp b c → Kp a c)
    (hY : ∀ pre x W, x ∈ Bs.ls 0 xs → J pre W → pre.length < (Bs.ls 0 xs).length → YieldAt Fence.wide m Tryd.prog l #[.int .i64 ((x : Nat) : Int)] W fun e W' =>
      (e = .returned (.bool true) ∧ J (pre ++ [x]) W' ∧ Kp W W') ∨ (e = .returned (.bool false) ∧ Jx (pre ++ [x]) W'))
    (W : World) (hcb : ∀ wr, Kp W wr → wr.cell? ⟨qb, 0, none⟩ = some (.slice A xs.length cap)) (hcc : ∀ wr, Kp W wr → ∃ B, Cells wr B A (nats xs)) (hTT : ∀ wr, Kp W wr → Tab wr) (h0 : J [] W) :
    CallsIn Fence.wide (m + 1) Tryd.prog 99 #[.func (.yield l) #[] #[], .pointer (some ⟨qb, 0, none⟩)] W fun e W' => (∃ v, e = .returned v) ∧
      ((J (Bs.ls 0 xs) W') ∨ (∃ pre, Jx pre W')) := by
  refine callsIn_of_wp Tryd.func99 rfl trivial ?_ rfl
  simp only [Tryd.ntmps99, List.size_toArray, List.length_cons, List.length_nil, Nat.reduceAdd, Nat.reduceSub, Array.replicate_succ, Array.replicate_zero, List.push_toArray, List.append_toArray, List.nil_append, List.cons_append]
  have hqb := hcb W (hKr W)
  gi_wp2
  gi_loopw [7] (fun i wr => ∃ k : Nat, k ≤ xs.length ∧ i = .int .i64 (k : Int) ∧ J (Bs.ls 0 (xs.take k)) wr ∧ Kp W wr) (fun i _ => xs.length - (intOf i).toNat)
  case atStart => exact ⟨0, Nat.zero_le _, rfl, h0, hKr _⟩
  case round =>
    clear hqb h0
    obtain ⟨k, hk, rfl, hJ, hK⟩ := hrel
    by_cases hlt : k < xs.length
    · obtain ⟨x, hx⟩ : ∃ x, xs[k]? = some x := ⟨_, List.getElem?_eq_getElem hlt⟩
      obtain ⟨B0, hc0⟩ := hcc wr hK
      obtain ⟨b, o, rfl, hb, hcx⟩ := hc0.nat hx
      clear hb hc0
      have HX := Lib.hid hx
      clear hx
      gi_wp2
      have hxw : x < 18446744073709551616 := hws x (List.mem_of_getElem? HX.out)
      have hsn : Bs.ls 0 (xs.take (k + 1)) = Bs.ls 0 (xs.take k) ++ (Bs.bl x).map (64 * k + ·) := by
        obtain ⟨h', hx'⟩ := List.getElem?_eq_some_iff.1 HX.out
        rw [List.take_succ_eq_append_getElem h', hx', Bs.ls_snoc, List.length_take, Nat.min_eq_left (by omega)]
      have hcount : ∀ m ≤ ((Bs.bl x).map (64 * k + ·)).length, m < ((Bs.bl x).map (64 * k + ·)).length → (Bs.ls 0 (xs.take k)).length + m < (Bs.ls 0 xs).length := fun m _ hm => by
        have e : xs = xs.take (k + 1) ++ xs.drop (k + 1) := (List.take_append_drop _ _).symm
        have : (Bs.ls 0 xs).length = (Bs.ls 0 (xs.take (k + 1))).length + (Bs.ls (0 + (xs.take (k + 1)).length) (xs.drop (k + 1))).length := by
          conv => lhs; rw [e, Bs.ls_append]
          rw [List.length_append]
        rw [this, hsn, List.length_append]
        omega
      have hmem : ∀ z ∈ (Bs.bl x).map (64 * k + ·), z ∈ Bs.ls 0 xs := fun z hz => by
        have e : xs = xs.take (k + 1) ++ xs.drop (k + 1) := (List.take_append_drop _ _).symm
        rw [e, Bs.ls_append]
        exact List.mem_append_left _ (by rw [hsn]; exact List.mem_append_right _ hz)
      have HSN := Lib.hid (And.intro hsn (And.intro hcount hmem))
      clear hsn hcount hmem hcb hcc
      obtain ⟨wo, rfl⟩ : ∃ wo : World, wo = wr := ⟨_, rfl⟩
      gi_loopw [4] (fun i wr => ∃ (v : Nat) (dn : List Nat), i = .int .u64 (v : Int) ∧ v < 18446744073709551616 ∧ dn ++ (Bs.bl v).map (64 * k + ·) = (Bs.bl x).map (64 * k + ·) ∧ J (Bs.ls 0 (xs.take k) ++ dn) wr ∧ Kp W wr) (fun i _ => (intOf i).toNat)
      case atStart => exact ⟨x, [], rfl, hxw, rfl, by rw [List.append_nil]; exact hJ, hK⟩
      case round =>
        clear hJ hK hxw
        obtain ⟨v, dn, rfl, hv, hd, hJ, hK⟩ := hrel
        have HD := Lib.hid hd
        clear hd
        rcases hz : ((v : Int) != 0) with _ | _
        · have HV := Lib.hid (show v = 0 by simpa using hz)
          gi_wp2
          go_roundw
          case rel => exact ⟨k + 1, by omega, by go_num, by
            have h := HD.out
            rw [HV.out, Bs.bl_zero, List.map_nil, List.append_nil] at h
            rw [HSN.out.1, ← h]
            exact hJ, hK⟩
          case measure => simp [intOf]; omega
        · have hv0 : v ≠ 0 := by simpa using hz
          have HV := Lib.hid hv0
          clear hv0
          gi_wp2_with fail
          refine ⟨trivial, (callsIn_wide.2 (tz_any _ v hv HV.out (hTT _ hK))).mono ?_⟩
          rintro e w1 ⟨rfl, rfl⟩
          obtain ⟨-, -, hc64, -⟩ := Bs.low HV.out hv
          have hbl := Bs.bl_pos HV.out
          have hclr := and_pred v hv HV.out
          have hcl := Bs.clear_low HV.out
          have hd := HD.out
          rw [hbl, List.map_cons] at hd
          have hlen : dn.length < ((Bs.bl x).map (64 * k + ·)).length := by rw [← hd, List.length_append, List.length_cons]; omega
          obtain ⟨fn, tmps, assign, body, hy, hR⟩ := hY _ (64 * k + Lib.ctz 64 v) w1 (HSN.out.2.2 _ (by rw [← hd]; simp)) hJ (by rw [List.length_append]; exact HSN.out.2.1 _ (Nat.le_of_lt hlen) hlen)
          obtain ⟨c, hc⟩ : ∃ c, c = Lib.ctz 64 v := ⟨_, rfl⟩
          rw [← hc] at hc64 hd hy hR ⊢
          rw [show ((64 * k + c : Nat) : Int) = 64 * (k : Int) + (c : Int) by omega] at hy
          have HC := Lib.hid (And.intro hclr (And.intro hcl hd))
          clear hbl hclr hcl hd hlen hc HD
          gi_wp2
          refine hR.mono ?_
          rintro e W3 (⟨rfl, hJ3, hk3⟩ | ⟨rfl, hJx3⟩)
          · gi_wp2
            go_roundw
            case rel => exact ⟨v &&& (v - 1), dn ++ [64 * k + c], by rw [HC.out.1], Bs.clear_lt hv, by rw [List.append_assoc]; exact HC.out.2.2, by rw [← List.append_assoc]; exact hJ3, hKt hK hk3⟩
            case measure => simp only [intOf, HC.out.1]; have := HC.out.2.1; simp; omega
          · gi_wp2
            refine bodyPost_ret (results_none rfl _ _ _) rfl ?_
            exact ⟨⟨_, rfl⟩, .inr ⟨_, hJx3⟩⟩
    · have HK := Lib.hid (show k = xs.length by omega)
      gi_wp2
      go_end0
      exact ⟨⟨_, rfl⟩, .inl (by have := hJ; rw [HK.out, List.take_length] at this; exact this)⟩

/-- the loop's body is told that what comes is in the set -/
theorem all_gen_stops (m qb cap : Nat) (A : Option Addr) (xs : List Nat) (hws : Bs.Ws xs) (hreach : xs.length ≤ 17592186044416) (Kp : World → World → Prop) (hKr : ∀ w, Kp w w) (hKt : ∀ {a b c : World}, Kp a b → Kp b c → Kp a c) (w : World)
    (hcb : ∀ W wr, Below w.heap.size w W → Kp W wr → wr.cell? ⟨qb, 0, none⟩ = some (.slice A xs.length cap)) (hcc : ∀ W wr, Below w.heap.size w W → Kp W wr → ∃ B, Cells wr B A (nats xs)) (hTT : ∀ W wr, Below w.heap.size w W → Kp W wr → Tab wr) :
    SeqStopsK Fence.wide (m + 1) Tryd.prog 99 #[.pointer (some ⟨qb, 0, none⟩)] (fun x : { x : Nat // x ∈ Bs.ls 0 xs } => #[Value.int .i64 ((x.1 : Nat) : Int)]) Kp (fun ys => ys.map (·.1) = Bs.ls 0 xs) (fun _ => True) (Bs.ls 0 xs).length w := fun l J Jx W hW _ _ hY h0 => by
  refine (all1_gen m l qb cap A xs hws hreach (fun l W => ∃ la : List { x : Nat // x ∈ Bs.ls 0 xs }, la.map (·.1) = l ∧ J la W) (fun l W => ∃ la : List { x : Nat // x ∈ Bs.ls 0 xs }, la.map (·.1) = l ∧ Jx la W) Kp hKr hKt (fun pre x W1 hx hJ hlt => ?_) W (fun wr hk => hcb W wr hW hk) (fun wr hk => hcc W wr hW hk) (fun wr hk => hTT W wr hW hk) ⟨[], rfl, h0⟩).mono ?_
  · obtain ⟨la, rfl, hJ⟩ := hJ
    have := hY la ⟨x, hx⟩ W1 hJ (by simpa using hlt)
    obtain ⟨fn, tmps, assign, body, hy, hR⟩ := this
    refine ⟨fn, tmps, assign, body, hy, hR.mono ?_⟩
    rintro e W' (⟨h1, h2, h3⟩ | ⟨h1, h2⟩)
    · exact .inl ⟨h1, ⟨_, by simp, h2⟩, h3⟩
    · exact .inr ⟨h1, _, by simp, h2⟩
  · rintro e W' ⟨he, ⟨la, h1, h2⟩ | ⟨pre, la, h1, h2⟩⟩
    · exact ⟨he, .inl ⟨_, h1, h2⟩⟩
    · exact ⟨he, .inr ⟨_, trivial, h2⟩⟩

theorem all_gen (m : Nat) (a : Option Addr) (len cap : Nat) (w : World) :
    CallsIn Fence.wide (m + 1) Tryd.prog 63 #[.slice a len cap] w fun e w' => e = .returned (.func (.func 99) #[] #[.pointer (some ⟨w.heap.size, 0, none⟩)]) ∧ w' = w.alloc (.cells #[.slice a len cap] 91) := by
  refine callsIn_of_wp Tryd.func63 rfl trivial ?_ rfl
  simp only [Tryd.ntmps63, List.size_toArray, List.length_cons, List.length_nil, Nat.reduceAdd, Nat.reduceSub, Array.replicate_succ, Array.replicate_zero, List.push_toArray, List.append_toArray, List.nil_append, List.cons_append]
  gi_wp2
  go_ret
  exact ⟨rfl, rfl⟩
end Go.Proofs.YtkjmddgnfgbioaaDoor


namespace Go.Proofs.YtkjmddgnfgbioaaDoor
set_option linter.unusedVariables false
set_option linter.unusedSimpArgs false
set_option maxRecDepth 100000
open Go.RowKit Go.Shelf

attribute [local go_sem] Oper.semAt_some

def Nums (w w' : World) : Prop := w.heap.size ≤ w'.heap.size ∧ ∀ (p : Addr) (k : IntKind) (x : Int), w.cell? p = some (.int k x) → w'.cell? p = some (.int k x)
theorem Nums.refl (w : World) : Nums w w := ⟨Nat.le_refl _, fun _ _ _ h => h⟩
theorem Nums.trans {a b c : World} (h : Nums a b) (k : Nums b c) : Nums a c := ⟨Nat.le_trans h.1 k.1, fun p i x hx => k.2 p i x (h.2 p i x hx)⟩
theorem Nums.of_below {w w' : World} (h : Below w.heap.size w w') : Nums w w' := ⟨h.size, fun p _ _ hx => (h.cell (World.block_lt_of_cell? w p hx)).trans hx⟩
theorem Cells.nums {w w' : World} {B : Nat} {A : Option Addr} {xs : List Nat} (h : Cells w B A (nats xs)) (hB : B ≤ w.heap.size) (hn : Nums w w') : Cells w' w'.heap.size A (nats xs) := by
  by_cases hx : xs = []
  · subst hx; exact Cells.nil _ _ _
  obtain ⟨b, o, hA, hb, hc⟩ := h.at_ (fun e => hx (by simpa [nats] using e))
  refine ⟨b, o, fun _ => ⟨hA, by have := hn.1; omega⟩, fun j u hu => ?_⟩
  have hu' := hu
  simp only [nats, List.getElem?_map, Option.map_eq_some_iff] at hu'
  obtain ⟨y, -, rfl⟩ := hu'
  exact hn.2 _ _ _ (hc j _ hu)
theorem SlU.nums {w w' : World} {v : Value} {xs : List Nat} (h : SlU w v xs) (hn : Nums w w') : SlU w' v xs := by
  obtain ⟨⟨A, c, rfl, h1, h2, h3, h4⟩, hw⟩ := h
  exact ⟨⟨A, c, rfl, h1, h2, h3, h4.nums (Nat.le_refl _) hn⟩, hw⟩
theorem Tab.nums {w w' : World} (h : Tab w) (hn : Nums w w') : Tab w' := fun j hj => hn.2 _ _ _ (h j hj)
/-! ### a range over a function within a plain loop: a mark for each round -/
def markOf (D : Nat) : Deferred := { target := .collected D, args := #[] }
theorem leaves_marks {F : Fence} {n : Nat} {P : Program} {fn : Func} {tmps : Array Value} {R : Ending → World → Prop} (b : Nat) (T : World → Prop)
    (hT : ∀ W D, b ≤ D → T W → W.heap[D]? = some (.deferred (some [])) → T (W.putObj D (.deferred none))) (hend : ∀ W, T W → LeavesInM F n P fn tmps R [] .returning W) :
    ∀ (Ds : List Nat) (W : World), Ds.Nodup → (∀ D ∈ Ds, b ≤ D ∧ W.heap[D]? = some (.deferred (some []))) → T W → LeavesInM F n P fn tmps R (Ds.map markOf) .returning W
  | [], W, _, _, h => hend W h
  | D :: Ds, W, hn, hD, h => by
    obtain ⟨h1, h2⟩ := hD D List.mem_cons_self
    have hn' := List.nodup_cons.1 hn
    refine ⟨by simp, .inl ⟨D, _, rfl, run_takeDeferred h2, ?_⟩⟩
    refine leaves_marks b T hT hend Ds _ hn'.2 (fun D' hD' => ?_) (hT _ _ h1 h h2)
    obtain ⟨h3, h4⟩ := hD D' (List.mem_cons_of_mem _ hD')
    exact ⟨h3, (World.putObj_heap_other (fun e => hn'.1 (by subst e; exact hD'))).trans h4⟩

/-- of the blocks below p all are as they were; and so is a box -/
def KpQ (p q : Nat) (A B : World) : Prop := A.heap.size ≤ B.heap.size ∧ (∀ k, k < p → B.heap[k]? = A.heap[k]?) ∧ ∀ v, Boxed A q 91 v → Boxed B q 91 v
theorem KpQ.refl (p q : Nat) (A : World) : KpQ p q A A := ⟨Nat.le_refl _, fun _ _ => rfl, fun _ h => h⟩
theorem KpQ.trans {p q : Nat} {A B C : World} (h : KpQ p q A B) (k : KpQ p q B C) : KpQ p q A C := ⟨Nat.le_trans h.1 k.1, fun i hi => (k.2.1 i hi).trans (h.2.1 i hi), fun v hv => k.2.2 v (h.2.2 v hv)⟩
theorem KpQ.put {p q : Nat} {W : World} {l : Nat} {o o' : Obj} (hl : p ≤ l) (h : W.heap[l]? = some o) (ho : o.isCells = false) : KpQ p q W (W.putObj l o') := by
  have hg := grownBy_putObj' W l o'
  refine ⟨hg.size, fun k hk => hg.block k (by have := (Array.getElem?_eq_some_iff.1 h).1; omega) (fun e => by cases e; omega), fun v hv => hv.kept hg fun e => ?_⟩
  injection e with e
  subst e
  rw [show W.heap[q]? = _ from hv] at h
  cases h
  cases ho
end Go.Proofs.YtkjmddgnfgbioaaDoor


namespace Go.Proofs.YtkjmddgnfgbioaaDoor.Gr
set_option linter.unusedVariables false
set_option linter.unusedSimpArgs false
set_option maxRecDepth 100000
open Bs

/-- has j: the set of j alone is within -/
theorem win_one {N : Nat} {s : List Nat} (h : Gs N s) {j : Nat} (hj : j ≤ 65535) : win (of_ [(j : Int)]) s = bit s j := by
  have ho := of_facts [(j : Int)]
  have key : win (of_ [(j : Int)]) s = true ↔ bit s j = true := by
    rw [win_iff ho.1 h.ws]
    constructor
    · intro hs
      have hb : bit (of_ [(j : Int)]) j = true := by rw [of_one hj, bit_put]; simp
      exact hs _ _ hb
    · intro hb i k hik
      by_cases hk : k < 64
      · have h1 : bit (of_ [(j : Int)]) (64 * i + k) = true := by
          unfold bit
          rw [show (64 * i + k) / 64 = i by omega, show (64 * i + k) % 64 = k by omega]
          exact hik
        rw [of_one hj, bit_put, bit_nil, Bool.false_or, beq_iff_eq] at h1
        rw [← h1] at hb
        unfold bit at hb
        rw [show (64 * i + k) / 64 = i by omega, show (64 * i + k) % 64 = k by omega] at hb
        exact hb
      · rw [Nat.testBit_lt_two_pow (Nat.lt_of_lt_of_le (show Bs.at_ (of_ [(j : Int)]) i < 2 ^ 64 from ho.1.at_ i) (Nat.pow_le_pow_right (by decide) (by omega)))] at hik
        cases hik
  cases h1 : win (of_ [(j : Int)]) s <;> cases h2 : bit s j <;> simp_all
theorem win_sub {N : Nat} {s t : List Nat} (h : Gs N s) (k : Gs N t) (e : ∀ m, bit s m = true → bit t m = true) : win s t = true := by
  rw [win_iff h.ws k.ws]
  intro i j hij
  by_cases hj : j < 64
  · have := e (64 * i + j)
    unfold bit at this
    rw [show (64 * i + j) / 64 = i by omega, show (64 * i + j) % 64 = j by omega] at this
    exact this hij
  · rw [Nat.testBit_lt_two_pow (Nat.lt_of_lt_of_le (show Bs.at_ s i < 2 ^ 64 from h.ws.at_ i) (Nat.pow_le_pow_right (by decide) (by omega)))] at hij
    cases hij
theorem behW_at {N : Nat} {es : List Ed} (hes : ∀ e ∈ es, e.2 < N) (n : Nat) : Gs N ((behW N es).getD n []) := by
  by_cases hn : n < (behW N es).length
  · rw [List.getD_eq_getElem?_getD, List.getElem?_eq_getElem hn, Option.getD_some]
    exact behW_gs hes _ (List.getElem_mem hn)
  · rw [List.getD_eq_getElem?_getD, List.getElem?_eq_none (by omega), Option.getD_none]
    exact Gs.nil N
/-- what the law says -/
theorem behind_law {N : Nat} {es : List Ed} (hN : N ≤ 200) (hl : (take N es).length = N) (hes : ∀ e ∈ es, e.2 < N) {i j : Nat} (hi : i < N) (hj : j < N) :
    win (of_ [(i : Int)]) ((behW N es).getD i []) = false ∧ (win (of_ [(j : Int)]) ((behW N es).getD i []) = true → win ((behW N es).getD j []) ((behW N es).getD i []) = true ∧ win (of_ [(i : Int)]) ((behW N es).getD j []) = false) := by
  have hr := (good_take N es).not_round hl hes
  have key : ∀ a b, a < N → b < N → (win (of_ [(b : Int)]) ((behW N es).getD a []) = true ↔ Way es a b) := fun a b ha hb => by
    rw [win_one (behW_at hes a) (by omega), behW_is hl hes a ha]
  refine ⟨?_, fun h => ⟨?_, ?_⟩⟩
  · cases hc : win (of_ [(i : Int)]) ((behW N es).getD i []) with
    | false => rfl
    | true => exact absurd ((key i i hi hi).1 hc) (hr i)
  · exact win_sub (behW_at hes j) (behW_at hes i) fun m hm => (behW_is hl hes i hi m).2 (((key i j hi hj).1 h).trans ((behW_is hl hes j hj m).1 hm))
  · cases hc : win (of_ [(i : Int)]) ((behW N es).getD j []) with
    | false => rfl
    | true => exact absurd (((key i j hi hj).1 h).trans ((key j i hj hi).1 hc)) (hr i)
end Go.Proofs.YtkjmddgnfgbioaaDoor.Gr


namespace Go.Proofs.YtkjmddgnfgbioaaDoor.Gr
set_option linter.unusedVariables false
set_option linter.unusedSimpArgs false
set_option maxRecDepth 100000
open Bs
/-- the pairs of the first k -/
def edk (L : List (List Nat)) (k : Nat) : List Ed := (List.range k).flatMap fun i => (ls 0 (L.getD i [])).map fun j => (i, j)
def edW (L : List (List Nat)) : List Ed := edk L L.length
theorem edk_zero (L : List (List Nat)) : edk L 0 = [] := rfl
theorem edk_succ (L : List (List Nat)) (k : Nat) : edk L (k + 1) = edk L k ++ (ls 0 (L.getD k [])).map fun j => (k, j) := by
  unfold edk
  rw [List.range_succ, List.flatMap_append]
  simp
theorem getD_gs {N : Nat} {L : List (List Nat)} (h : ∀ s ∈ L, Gs N s) (k : Nat) : Gs N (L.getD k []) := by
  by_cases hk : k < L.length
  · rw [List.getD_eq_getElem?_getD, List.getElem?_eq_getElem hk, Option.getD_some]
    exact h _ (List.getElem_mem hk)
  · rw [List.getD_eq_getElem?_getD, List.getElem?_eq_none (by omega), Option.getD_none]
    exact Gs.nil N
theorem edk_mem {N : Nat} {L : List (List Nat)} (h : ∀ s ∈ L, Gs N s) (k : Nat) (e : Ed) : e ∈ edk L k ↔ e.1 < k ∧ bit (L.getD e.1 []) e.2 = true := by
  unfold edk
  rw [List.mem_flatMap]
  constructor
  · rintro ⟨i, hi, he⟩
    obtain ⟨j, hj, rfl⟩ := List.mem_map.1 he
    exact ⟨List.mem_range.1 hi, (mem_list (getD_gs h i).ws j).1 hj⟩
  · rintro ⟨h1, h2⟩
    exact ⟨e.1, List.mem_range.2 h1, List.mem_map.2 ⟨e.2, (mem_list (getD_gs h e.1).ws e.2).2 h2, rfl⟩⟩
theorem edW_mem {N : Nat} {L : List (List Nat)} (h : ∀ s ∈ L, Gs N s) (e : Ed) : e ∈ edW L ↔ e.1 < L.length ∧ bit (L.getD e.1 []) e.2 = true := edk_mem h _ e
theorem edW_lt {N : Nat} {L : List (List Nat)} (h : ∀ s ∈ L, Gs N s) (hL : L.length = N) : ∀ e ∈ edW L, e.1 < N ∧ e.2 < N := fun e he => by
  obtain ⟨h1, h2⟩ := (edW_mem h e).1 he
  exact ⟨by omega, (getD_gs h e.1).lt e.2 h2⟩
theorem ls_len {N : Nat} {s : List Nat} (h : Gs N s) : (ls 0 s).length ≤ N := by
  have hn : (ls 0 s).Nodup := (ls_rise s 0 h.ws).imp fun h => by omega
  have := hn.length_le_of_subset (l₂ := List.range N) (fun m hm => List.mem_range.2 (h.lt m ((mem_list h.ws m).1 hm)))
  simpa using this
theorem edk_len {N : Nat} {L : List (List Nat)} (h : ∀ s ∈ L, Gs N s) : ∀ k, (edk L k).length ≤ k * N
  | 0 => by simp [edk]
  | k + 1 => by
    rw [edk_succ, List.length_append, List.length_map, Nat.add_mul, Nat.one_mul]
    exact Nat.add_le_add (edk_len h k) (ls_len (getD_gs h k))
end Go.Proofs.YtkjmddgnfgbioaaDoor.Gr


namespace Go.Proofs.YtkjmddgnfgbioaaDoor
set_option linter.unusedVariables false
set_option linter.unusedSimpArgs false
set_option maxRecDepth 100000
open Go.RowKit Go.Shelf

attribute [local go_sem] Oper.semAt_some

theorem info_edge : (Tryd.prog.info? 75).map (fun i => (i.zero, i.size, i.bytes)) = some (some (.agg #[.int .i64 0, .int .i64 0]), 2, 16) := by kernel_rfl

set_option maxRecDepth 100000 in
set_option maxHeartbeats 4000000 in
theorem edges_any (N : Nat) (L : List (List Nat)) (w : World) (v : Value) (hL : SlW w v L) (hg : ∀ s ∈ L, Bs.Gs N s) (hN : N ≤ 200) (hLl : L.length ≤ 200) (hT : Tab w) :
    Calls Tryd.prog 88 #[v] w fun e w' => ∃ u, e = .returned u ∧ (SlV w' 2 u (Gr.edW L).length (edcs (Gr.edW L)) ∧ New w.heap.size u) ∧ Below w.heap.size w w' := by
  obtain ⟨os, ⟨A, c, rfl, hle, hm, hlen, hc⟩, hos⟩ := hL
  obtain ⟨m, hml⟩ : ∃ m, m = L.length := ⟨_, rfl⟩
  rw [← hml] at hlen hle hLl ⊢
  refine (callsIn_wide (n := 4)).1 ?_
  refine callsIn_of_wp_marks Tryd.func88 rfl trivial ?_ rfl
  simp only [Tryd.ntmps88, List.size_toArray, List.length_cons, List.length_nil, Nat.reduceAdd, Nat.reduceSub, Array.replicate_succ, Array.replicate_zero, List.push_toArray, List.append_toArray, List.nil_append, List.cons_append]
  refine wpIn_wide.2 ?_
  have hba : Below w.heap.size w (w.alloc (.cells #[.slice none 0 0] 70)) := below_alloc (Below.refl _ _) _
  have hbx := Boxed.new w 70 (.slice none 0 0)
  have HM := Lib.hid hml
  have HG := Lib.hid hg
  have HT := Lib.hid hT
  have HC := Lib.hid hc
  have HLN := Lib.hid hlen
  clear hml hg hc hT hlen
  go_wp2_with fail
  have hz5 : (w.alloc (.cells #[.slice none 0 0] 70)).heap.size = w.heap.size + 1 := by simp
  generalize w.alloc (.cells #[.slice none 0 0] 70) = W5 at hba hbx hz5 ⊢
  refine (wpIn_wide (n := 4)).1 ?_
  refine wpIn_loop (fun a W => ∃ (k : Nat) (Ds : List Nat) (u4 u5 u10 u11 u12 u13 u14 u15 u23 : Value), k ≤ m ∧ (∃ u, Boxed W w.heap.size 70 u ∧ W.ownsRow (w.heap.size + 1) 75 2 u (Gr.edk L k).length (edcs (Gr.edk L k)) ∧ True) ∧ Below w.heap.size w W ∧ (Ds.Nodup ∧ ∀ D ∈ Ds, w.heap.size + 1 ≤ D ∧ W.heap[D]? = some (.deferred (some []))) ∧ a = { tmps := #[.slice A m c, undef, .slice none 0 0, .pointer (some ⟨w.heap.size, 0, none⟩), u4, u5, undef, .slice A m c, .int .i64 (m : Int), .int .i64 (k : Int), u10, u11, u12, u13, u14, u15, undef, undef, undef, undef, undef, undef, undef, u23, undef], defers := Ds.map markOf }) (fun a _ => m - (intOf (a.tmps.getD 9 undef)).toNat) ?_ ?_
  · exact ⟨0, [], undef, undef, undef, undef, undef, undef, undef, undef, undef, Nat.zero_le _, ⟨_, hbx, World.ownsRow_nil _ _ _ _, trivial⟩, hba, ⟨List.nodup_nil, fun D hD => by cases hD⟩, rfl⟩
  · rintro a W ⟨k, Ds, u4, u5, u10, u11, u12, u13, u14, u15, u23, hk, ⟨u, hbx1, hown, -⟩, hbW, hDs, rfl⟩
    clear hbx hba hz5
    dsimp only
    have hpl := Gr.edk_len HG.out k
    have hpb : k * N ≤ 40000 := Nat.mul_le_mul (by omega : k ≤ 200) hN
    have hbl := hbx1.lt
    by_cases hlt : k < m
    · obtain ⟨xs, hxs⟩ : ∃ s, L[k]? = some s := ⟨_, List.getElem?_eq_getElem (by have := HM.out; omega)⟩
      have hxD : L.getD k [] = xs := by rw [List.getD_eq_getElem?_getD, hxs, Option.getD_some]
      have hgx := HG.out xs (List.mem_of_getElem? hxs)
      obtain ⟨vk, hvk⟩ : ∃ v, os[k]? = some v := by
        rcases h : os[k]? with _ | v
        · have h1 := List.getElem?_eq_none_iff.1 h
          have := HLN.out
          omega
        · exact ⟨v, rfl⟩
      have sx := hos k vk xs hvk hxs
      obtain ⟨aA, ac, rfl⟩ := slU_form sx
      obtain ⟨g, o, hAg, hgl, hcell⟩ := HC.out.at_ (fun e => by rw [e] at hvk; simp at hvk)
      subst hAg
      have ck : W.cell? ⟨g, o + k, none⟩ = some (.slice aA xs.length ac) := (hbW.cell (p := ⟨g, o + k, none⟩) hgl).trans (hcell k _ hvk)
      have hT0 := HT.out
      obtain ⟨q, hq⟩ : ∃ q, q = W.heap.size := ⟨_, rfl⟩
      have bI := (Boxed.new W 3 (.int .i64 (k : Int))).alloc (.cells #[.slice aA xs.length ac] 91)
      have bQ := Boxed.new (W.alloc (.cells #[.int .i64 (k : Int)] 3)) 91 (.slice aA xs.length ac)
      simp only [World.size_alloc] at bQ
      have bO := (hbx1.alloc (.cells #[.int .i64 (k : Int)] 3)).alloc (.cells #[.slice aA xs.length ac] 91)
      have oO := (hown.alloc (.cells #[.int .i64 (k : Int)] 3)).alloc (.cells #[.slice aA xs.length ac] 91)
      have hbA : Below W.heap.size W ((W.alloc (.cells #[.int .i64 (k : Int)] 3)).alloc (.cells #[.slice aA xs.length ac] 91)) := below_alloc (below_alloc (Below.refl _ _) _) _
      have hzA : ((W.alloc (.cells #[.int .i64 (k : Int)] 3)).alloc (.cells #[.slice aA xs.length ac] 91)).heap.size = W.heap.size + 2 := by simp
      have HC2 := Lib.hid (And.intro hcell (And.intro hvk hxs))
      clear hvk hcell hxs
      gi_wp2_with fail
      refine ⟨trivial, (all_gen 2 _ _ _ _).mono ?_⟩
      rintro e w' ⟨rfl, rfl⟩
      gi_wp2_with fail
      obtain ⟨W2, hW2⟩ : ∃ W2, (W.alloc (.cells #[.int .i64 (k : Int)] 3)).alloc (.cells #[.slice aA xs.length ac] 91) = W2 := ⟨_, rfl⟩
      rw [hW2] at bI bQ bO oO hbA hzA ⊢
      clear hW2
      have hsW := hbW.size
      have keyN : ∀ W' wr, Below W2.heap.size W2 W' → KpQ w.heap.size (W.heap.size + 1) W' wr → Nums w wr := fun W' wr hW hk => ⟨by have := hk.1; have := hW.size; omega, fun p i x hx => by
        have hp := World.block_lt_of_cell? w p hx
        exact (World.cell?_of_block (hk.2.1 _ hp)).trans ((hW.cell (by omega)).trans ((hbA.cell (by omega)).trans ((hbW.cell hp).trans hx)))⟩
      have stA := all_gen_stops 2 (W.heap.size + 1) ac aA xs sx.2 (by have := hgx.length; omega) (KpQ w.heap.size (W.heap.size + 1)) (KpQ.refl _ _) (fun h k => h.trans k) W2
        (fun W' wr hW hk => (hk.2.2 _ (bQ.kept (grown_of_below hW none) (by simp))).cell)
        (fun W' wr hW hk => ⟨_, by
          obtain ⟨⟨A', c', e, -, -, -, h4⟩, -⟩ := sx.nums (keyN W' wr hW hk)
          injection e with e1 e2 e3
          subst e1
          exact h4⟩)
        (fun W' wr hW hk => hT0.nums (keyN W' wr hW hk))
      have hll := Gr.ls_len hgx
      have hDs2 : ∀ D ∈ Ds, W2.heap[D]? = some (.deferred (some [])) := fun D hD => (hbA.block D (Array.getElem?_eq_some_iff.1 (hDs.2 D hD).2).1).trans (hDs.2 D hD).2
      have hDlt : ∀ D ∈ Ds, D < W.heap.size := fun D hD => (Array.getElem?_eq_some_iff.1 (hDs.2 D hD).2).1
      have hbW2 := hbW.trans (hbA.mono hsW)
      have HX := Lib.hid (And.intro hxD (And.intro hpl hpb))
      clear keyN hpl sx hq bQ hgx hT0
      refine wpIn_rangeFunc_ownH rfl (by omega) (gf := 99) (lb := #[.pointer (some ⟨W.heap.size + 1, 0, none⟩)]) rfl trivial (enters_of Tryd.func99 (by kernel_rfl) rfl)
        stA (fun h k => h.trans k) (fun W' l o o' hl ho h1 h2 => KpQ.put (by omega) ho h1) (Below.refl _ _) (fun _ => rfl)
        (fun pre W' => ((∃ u, Boxed W' w.heap.size 70 u ∧ W'.ownsRow (w.heap.size + 1) 75 2 u ((Gr.edk L k).length + pre.length) (edcs (Gr.edk L k ++ pre.map fun x => (k, x.1))) ∧ True) ∧ Boxed W' W.heap.size 3 (.int .i64 (k : Int))) ∧ (Below w.heap.size w W' ∧ ∀ D ∈ Ds, W'.heap[D]? = some (.deferred (some []))))
        (fun _ _ _ => False)
        (OwnFrom.and (OwnFrom.and (Own.from (holdsRow_own (w.heap.size + 1) w.heap.size 70 75 2 (fun pre : List { x : Nat // x ∈ Bs.ls 0 xs } => (Gr.edk L k).length + pre.length) (fun pre => edcs (Gr.edk L k ++ pre.map fun x => (k, x.1))) (fun _ _ => True)) _) (Own.from (boxed_own _ _ _) _)) (OwnFrom.and (ownFrom_below (Nat.le_refl _) (by omega)) (fun s X Y row hs hg hr D hD => (hg.block D (Array.getElem?_eq_some_iff.1 (hs D hD)).1 (fun e => by have := (hr D e.symm).1; have := hDlt D hD; omega)).trans (hs D hD))))
        (fun _ _ _ _ _ hs _ _ => hs)
        ⟨⟨⟨u, bO, by simpa using oO, trivial⟩, bI⟩, hbW2, hDs2⟩
        (fun x a' W' => a' = { tmps := #[.slice (some ⟨g, o, none⟩) m c, undef, .slice none 0 0, .pointer (some ⟨w.heap.size, 0, none⟩), .pointer (some ⟨W.heap.size, 0, none⟩), .slice aA xs.length ac, .int .i64 (x.1 : Int), .slice (some ⟨g, o, none⟩) m c, .int .i64 (m : Int), .int .i64 (k : Int), .bool true, .int .i64 (k : Int), .pointer (some ⟨g, o + k, none⟩), .slice aA xs.length ac, .slice aA xs.length ac, .func (.func 99) #[] #[.pointer (some ⟨W.heap.size + 1, 0, none⟩)], .int .i64 (x.1 : Int), undef, undef, undef, undef, undef, undef, u23, undef], defers := [] })
        (fun x a' _ X Y row hs hg hr => hs)
        ?assign ?body ?done ?stop
      case assign =>
        rintro l pre x W' K hI hK
        gi_wp2
        exact hK _ _ (KeepsFrom.refl _ _) (KpQ.refl _ _ _) hI rfl
      case body =>
        rintro l pre x a' W' hl ⟨r, hr⟩ ⟨⟨⟨u, b1, b2, -⟩, b3⟩, b4, b5⟩ rfl hlt'
        have hlW : l < W'.heap.size := (Array.getElem?_eq_some_iff.1 hr).1
        have hzW : w.heap.size + 1 ≤ W'.heap.size := by omega
        have c0 := b1.cell
        have f0 := b1.frozen
        have cI := b3.cell
        obtain ⟨U, uc, rfl, hu1, hu2⟩ := own_slice b2
        obtain ⟨i, hi, hz0, hz1, hz2⟩ := info_parts info_edge
        have hN : (Gr.edk L k).length + pre.length ≤ 4294967296 := by have := HX.out.2.1; have := HX.out.2.2; omega
        have n1 : (Gr.edk L k).length + pre.length + 1 ≤ maxLen := by unfold maxLen; omega
        have n2 : ((Gr.edk L k).length + pre.length + 1) * 16 ≤ 140737488355328 := by omega
        have hnew : ∀ j u, [Value.int .i64 (k : Int), Value.int .i64 (x.1 : Int)][j]? = some u → (W'.alloc (.cells #[.int .i64 (k : Int), .int .i64 (x.1 : Int)] 75)).cell? ((⟨W'.heap.size, 0, none⟩ : Addr).add j) = some u := fun j u hu => by
          rw [Addr.add_lit, Nat.zero_add]
          exact ((Blk.new W' 75 [.int .i64 (k : Int), .int .i64 (x.1 : Int)]).cell j).trans hu
        have hte : (70 : TypeId) ≠ 75 := by decide
        have hte2 : (91 : TypeId) ≠ 75 := by decide
        have hte3 : (3 : TypeId) ≠ 75 := by decide
        have hone : ∀ u ∈ [Value.int .i64 (k : Int), Value.int .i64 (x.1 : Int)], u.oneCell' = true := fun u hu => by
          simp at hu
          rcases hu with rfl | rfl <;> rfl
        obtain ⟨len, hlen⟩ : ∃ len, len = (Gr.edk L k).length + pre.length := ⟨_, rfl⟩
        rw [← hlen] at b2 c0 hu1 n1 n2 hN
        have HL := Lib.hid hlen
        clear hlen
        gi_wp2_with (first | (refine wpListIn_append_own _ rfl _ _ _ rfl (w.heap.size + 1) 75 i (.agg #[.int .i64 0, .int .i64 0]) 2 16 Tryd.underlying70 hi hz0 hz1 hz2 rfl (by decide) (.slice U len uc) _ _ rfl (b2.alloc _) _ 1 1 [.int .i64 (k : Int), .int .i64 (x.1 : Int)] rfl rfl hnew hone n1 n2 (by simp; omega) ?_; intro v' w1 hown' hgrow _; have hbx1 := (b1.alloc (.cells #[.int .i64 (k : Int), .int .i64 (x.1 : Int)] 75)).kept hgrow (b1.not_row hte b2); have c1 := hbx1.cell; have f1 := hbx1.frozen; obtain ⟨gg, cap', rfl⟩ := ownsRow_succ hown') | fail)
        have hge := own_ge b2
        have kf := ((KeepsOthers.alloc W' (.cells #[.int .i64 (k : Int), .int .i64 (x.1 : Int)] 75)).trans (KeepsOthers.of_grownBy hgrow fun j o ej hj => by
          rcases (b2.alloc (.cells #[.int .i64 (k : Int), .int .i64 (x.1 : Int)] 75)).2 with ⟨e, _⟩ | ⟨g, cap, cur, e, _, hgb, _⟩
          · rw [e] at ej
            simp [Value.ownBlock] at ej
          · rw [e] at ej
            obtain rfl : g = j := by simpa [Value.ownBlock] using ej
            rw [hgb] at hj; cases hj; rfl)).trans (KeepsOthers.setCell w1 ⟨w.heap.size, 0, none⟩ (.slice (some ⟨gg, 0, none⟩) (len + 1) cap'))
        have hsz1 := hgrow.size
        have hsz2 := (grownBy_setCell' w1 w.heap.size (.slice (some ⟨gg, 0, none⟩) (len + 1) cap')).size
        have hsz3 : (W'.alloc (.cells #[.int .i64 (k : Int), .int .i64 (x.1 : Int)] 75)).heap.size = W'.heap.size + 1 := by simp
        have hrow := hown'.kept (grownBy_setCell' w1 w.heap.size (.slice (some ⟨gg, 0, none⟩) (len + 1) cap')) (.inr (hbx1.not_row hte hown').symm)
        refine ⟨kf.from _, ⟨?_, fun k' hk' => ?_, fun v hv => ?_⟩, ⟨⟨_, hbx1.set _, ?_, trivial⟩, ?_⟩, ?_, fun D hD => kf.same D _ (b5 D hD) rfl⟩
        · omega
        · have h1 := (grownBy_setCell' w1 w.heap.size (.slice (some ⟨gg, 0, none⟩) (len + 1) cap')).block k' (by omega) (fun e => by injection e; omega)
          have h2 := hgrow.block k' (by omega) (fun e => by have := hge k' e.symm; omega)
          exact h1.trans (h2.trans (Below.heap_alloc W' _ k' (by omega)))
        · exact ((hv.alloc (.cells #[.int .i64 (k : Int), .int .i64 (x.1 : Int)] 75)).kept hgrow (hv.not_row hte2 b2)).other (by omega) _
        · have := HL.out
          rw [List.length_append, List.length_singleton, ← Nat.add_assoc, ← this]
          simpa [edcs, edc] using hrow
        · exact ((b3.alloc (.cells #[.int .i64 (k : Int), .int .i64 (x.1 : Int)] 75)).kept hgrow (b3.not_row hte3 b2)).other (by omega) _
        · exact b4.trans ((((Below.refl w.heap.size W').alloc (by omega) _).grown hgrow (by simp; omega) (fun k e => by have := hge k e; omega)).setCell (p := ⟨w.heap.size, 0, none⟩) (by show w.heap.size ≤ w.heap.size; omega) _)
      case done =>
        rintro D ys W' hD hys ⟨⟨⟨u, b1, b2, -⟩, b3⟩, b4, b5⟩ hKD
        have hcells : edcs (Gr.edk L k ++ ys.map fun x => (k, x.1)) = edcs (Gr.edk L (k + 1)) ∧ (Gr.edk L k).length + ys.length = (Gr.edk L (k + 1)).length := by
          have e : (ys.map fun x => (k, x.1)) = (Bs.ls 0 xs).map fun j => (k, j) := by
            have := congrArg (List.map fun j => (k, j)) hys
            rw [List.map_map] at this
            exact this
          have e2 : ys.length = (Bs.ls 0 xs).length := by
            have := congrArg List.length hys
            rw [List.length_map] at this
            exact this
          rw [Gr.edk_succ, HX.out.1, e, List.length_append, List.length_map, e2]
          exact ⟨rfl, rfl⟩
        rw [hcells.1, hcells.2] at b2
        gi_wp2
        refine ⟨⟨k + 1, D :: Ds, _, _, _, _, _, _, _, _, _, by omega, ⟨u, b1, b2, trivial⟩, b4, ⟨List.nodup_cons.2 ⟨fun h => by have := hDlt D h; omega, hDs.1⟩, fun D' hD' => ?_⟩, rfl⟩, ?_⟩
        · rcases List.mem_cons.1 hD' with rfl | h
          · exact ⟨by omega, hKD⟩
          · exact ⟨(hDs.2 D' h).1, b5 D' h⟩
        · simp [intOf]
          omega
      case stop =>
        rintro D c pre W' hD _ hF hK
        exact hF.elim
    · have HK := Lib.hid (show k = m by omega)
      have c0 := hbx1.cell
      clear hpl hpb
      gi_wp2
      go_wp2
      refine leaves_marks (w.heap.size + 1) (fun W => W.ownsRow (w.heap.size + 1) 75 2 u (Gr.edk L k).length (edcs (Gr.edk L k)) ∧ Below w.heap.size w W) (fun W D hD hT hd => ?_) (fun W hT => ?_) Ds W hDs.1 hDs.2 ⟨hown, hbW⟩
      · have hg := grownBy_putObj' W D (.deferred none)
        exact ⟨ownsRow_putObj hT.1 _ hd rfl, hT.2.grown hg hT.2.size (fun i e => by cases e; omega)⟩
      · refine ⟨u, by simp [results, Tryd.results88, go_sem], u, rfl, ?_, hT.2⟩
        have := SlV.of_own hT.1
        have e : Gr.edW L = Gr.edk L k := by unfold Gr.edW; rw [HK.out, HM.out]
        rw [e]
        refine ⟨this, fun p hp => ?_⟩
        rcases hT.1.2 with ⟨h1, -⟩ | ⟨g, cap, cur, h1, h2, -⟩
        · rw [h1] at hp
          cases hp
        · rw [h1] at hp
          injection hp with hp
          rw [← hp]
          show w.heap.size ≤ g
          omega
end Go.Proofs.YtkjmddgnfgbioaaDoor


namespace Go.Proofs.YtkjmddgnfgbioaaDoor
set_option linter.unusedVariables false
set_option linter.unusedSimpArgs false
set_option maxRecDepth 100000
open Go.RowKit

/-- a cell and a slot are the results -/
theorem results_cell_tmp {P : Go.Program} {fn : Func} {p u : Tmp} {ty : TypeId} (h : fn.results = #[.cell p ty, .tmp u]) (tmps : Array Value) (w : World) (g : Nat) (t : TypeId) (cs : Array Value) (fr : Nat × Nat) (d : TypeDesc)
    (hp : tmps.getD p undef = .pointer (some ⟨g, 0, none⟩)) (hg : w.heap[g]? = some (.cells cs t fr))
    (hu : P.underlying ty = some d) (hd : (match d with | .struct _ | .array _ _ => true | _ => false) = true) (hi : (P.info? ty).map (·.size) = some cs.size) :
    (results fn tmps).run P w = .ok (.tuple #[.agg cs, tmps.getD u undef]) w := by
  have hp' : tmps[p]?.getD undef = .pointer (some ⟨g, 0, none⟩) := by simpa using hp
  simp [results, h, hp', asAddr, run_loadVar_row w g t ty cs fr d hg hu hd hi]
theorem ret_blk2 {P : Go.Program} {fn : Func} {R : Ending → World → Prop} {a : Act} {w : World} {p u : Tmp} {ty : TypeId} {g : Nat} {t : TypeId} {cs : List Value} (hB : Blk w g t cs) (hr : fn.results = #[.cell p ty, .tmp u]) (hp : a.tmps.getD p undef = .pointer (some ⟨g, 0, none⟩)) {d : TypeDesc}
    (hu : P.underlying ty = some d) (hd : (match d with | .struct _ | .array _ _ => true | _ => false) = true) (hi : (P.info? ty).map (·.size) = some cs.length) (hdf : a.defers = []) (hR : R (.returned (.tuple #[.agg cs.toArray, a.tmps.getD u undef])) w) : bodyPost P fn R .ret a w :=
  bodyPost_ret (results_cell_tmp hr _ _ g t cs.toArray (0, 0) d hp hB hu hd (by simpa using hi)) hdf hR
/-- a graph, as it comes back -/
def IsG (N : Nat) (es : List Gr.Ed) (v : Value) (w : World) : Prop := ∃ u, v = .agg #[.int .i64 (N : Int), u] ∧ SlV w 2 u es.length (edcs es)
theorem IsG.below {N : Nat} {es : List Gr.Ed} {v : Value} {w w' : World} (h : IsG N es v w) (hb : Below w.heap.size w w') : IsG N es v w' := by
  obtain ⟨u, h1, h2⟩ := h
  exact ⟨u, h1, h2.below hb⟩
def FG (B : Nat) (N : Nat) (es : List Gr.Ed) : Fact (fun w w' => Below w.heap.size w w') := ⟨fun v w => ∃ u, v = .agg #[.int .i64 (N : Int), u] ∧ SlV w 2 u es.length (edcs es) ∧ New B u, fun _ _ _ ⟨u, h1, h2, h3⟩ k => ⟨u, h1, h2.below k, h3⟩⟩
def FSlE (B : Nat) (es : List Gr.Ed) : Fact (fun w w' => Below w.heap.size w w') := ⟨fun v w => SlV w 2 v es.length (edcs es) ∧ New B v, fun _ _ _ h k => ⟨h.1.below k, h.2⟩⟩

theorem SlV.form {w : World} {sz n : Nat} {v : Value} {xs : List Value} (h : SlV w sz v n xs) : ∃ A c, v = .slice A n c := by
  obtain ⟨A, c, e, -⟩ := h
  exact ⟨A, c, e⟩

/-- numbers are not turned when a block of no numbers is -/
theorem SlV.other {w w' : World} {sz n g : Nat} {v : Value} {xs : List Value} (h : SlV w sz v n xs) (k : Keeps (fun k => k = g) w w') (hg : ∀ p, ptr v = some p → xs ≠ [] → p.block ≠ g) : SlV w' sz v n xs := by
  obtain ⟨A, c, rfl, h1, h2, h3, b, o, h4, h5⟩ := h
  refine ⟨A, c, rfl, h1, h2, h3, b, o, fun hn => ⟨(h4 hn).1, Nat.lt_of_lt_of_le (h4 hn).2 k.size⟩, fun j u hu => ?_⟩
  have hn : xs ≠ [] := fun e => by rw [e] at hu; simp at hu
  obtain ⟨hA, hb⟩ := h4 hn
  exact (World.cell?_of_block (a := ⟨b, o + j, none⟩) (k.block b hb (hg _ (by rw [hA]; rfl) hn))).trans (h5 j u hu)
end Go.Proofs.YtkjmddgnfgbioaaDoor


namespace Go.Proofs.YtkjmddgnfgbioaaDoor
set_option linter.unusedVariables false
set_option linter.unusedSimpArgs false
set_option maxRecDepth 100000
open Go.RowKit

set_option maxRecDepth 100000 in
set_option maxHeartbeats 4000000 in
theorem closure_yes (N : Nat) (B : List (List Nat)) (w : World) (A : Option Addr) (l c : Nat) (hN : N ≤ 200) (hBl : B.length = N) (hB : ∀ s ∈ B, Bs.Gs N s) (hT : Tab w)
    (hbeh : ∀ w', Below w.heap.size w w' → Calls Tryd.prog 84 #[.agg #[.int .i64 (N : Int), .slice A l c]] w' fun e w'' => ∃ v, e = .returned (.tuple #[v, .int .i64 0]) ∧ SlW w'' v B ∧ Below w'.heap.size w' w'') :
    Calls Tryd.prog 47 #[.agg #[.int .i64 (N : Int), .slice A l c]] w fun e w' => ∃ g, e = .returned (.tuple #[g, .int .i64 0]) ∧ IsG N (Gr.edW B) g w' ∧ Below w.heap.size w w' := by
  have hba : Below w.heap.size w ((w.alloc (.cells #[.int .i64 (N : Int), .slice A l c] 72)).alloc (.cells #[.int .i64 0, .slice none 0 0] 72)) := below_alloc (below_alloc (Below.refl _ _) _) _
  have x0 := (Blk.new w 72 [.int .i64 (N : Int), .slice A l c]).alloc (.cells #[.int .i64 0, .slice none 0 0] 72)
  have y0 := Blk.new (w.alloc (.cells #[.int .i64 (N : Int), .slice A l c] 72)) 72 [.int .i64 0, .slice none 0 0]
  simp only [World.size_alloc] at y0
  obtain ⟨es, hes⟩ : ∃ es, es = Gr.edW B := ⟨_, rfl⟩
  rw [← hes]
  have HES := Lib.hid hes
  clear hes
  have HB := Lib.hid hB
  have HBL := Lib.hid hBl
  have HT := Lib.hid hT
  clear hB hBl hT
  go_enter Tryd.func47, Tryd.ntmps47
  go_upto_region 1 with (fail)
  generalize (w.alloc (.cells #[.int .i64 (N : Int), .slice A l c] 72)).alloc (.cells #[.int .i64 0, .slice none 0 0] 72) = W0 at x0 y0 hba ⊢
  have d0 : W0.cell? ⟨w.heap.size, 0, none⟩ = some (.int .i64 (N : Int)) := (x0.cell 0).trans rfl
  have d1 : W0.cell? ⟨w.heap.size, 1, none⟩ = some (.slice A l c) := (x0.cell 1).trans rfl
  go_wp2_with fail
  refine (hbeh W0 hba).mono ?_
  rintro e w1 ⟨v, rfl, hv, hb1⟩
  have x1 := x0.below hb1
  have y1 := y0.below hb1
  have c0 : w1.cell? ⟨w.heap.size, 0, none⟩ = some (.int .i64 (N : Int)) := (x1.cell 0).trans rfl
  have hb01 := below_next hb1 hba
  have hsz := y1.lt
  clear d0 d1 x0 y0 hbeh hb1 hba
  obtain ⟨A', n', c', rfl⟩ : ∃ A' n' c', v = .slice A' n' c' := by
    obtain ⟨os, ⟨A', c', e, -⟩, -⟩ := hv
    exact ⟨_, _, _, e⟩
  go_upto_region 4 with (fail)
  have hT1 : Tab w1 := fun j hj => (hb01.cell (p := ⟨0, j, none⟩) HT.out.lt).trans (HT.out j hj)
  have hed := fun w' (hb : Below w1.heap.size w1 w') => edges_any N B w' _ (hv.below hb) HB.out hN (by rw [HBL.out]; exact hN) (fun j hj => (hb.cell (p := ⟨0, j, none⟩) hT1.lt).trans (hT1 j hj))
  rw [← HES.out] at hed
  have keepS : ∀ w', Below w1.heap.size w1 w' → Below w1.heap.size w1 w' ∧ w'.cell? ⟨w.heap.size, 0, none⟩ = some (.int .i64 (N : Int)) := fun w' hb => ⟨hb, (hb.cell (p := ⟨w.heap.size, 0, none⟩) x1.lt).trans c0⟩
  have hS0 := keepS _ (below_drew (Below.refl _ _))
  have HH := Lib.hid (And.intro y1 (And.intro hb01 x1))
  clear hv hT1 c0 hb01 x1 y1
  obtain ⟨q, hq⟩ : ∃ q, q = w.heap.size := ⟨_, rfl⟩
  rw [← hq] at keepS hS0 hsz ⊢
  have HQ := Lib.hid hq
  clear hq
  refine wp_walk_tail 5 (by kernel_rfl) (by kernel_rfl) (fun w w' => Below w.heap.size w w') (fun w' => Below w1.heap.size w1 w' ∧ w'.cell? ⟨q, 0, none⟩ = some (.int .i64 (N : Int))) hS0 ?_
  simp only [List.length_cons, List.length_nil, Nat.reduceAdd, Nat.reduceSub, List.take_succ_cons, List.take_zero, List.drop_succ_cons, List.drop_zero]
  repeat (first | (refine settle_skip (fun _ => by rfl) ?_; (simp only [Act.put, List.setIfInBounds_toArray, List.set_cons_zero, List.set_cons_succ])) | (refine' settle_run (fun _ _ => Below.refl _ _) (fun _ => by rfl) ?_ ?_; rotate_left; (focus (intro ρ w hS hF; (try dsimp only at hS); go_split_ands; go_simp; try with_reducible rfl)); (simp only [Act.put, List.setIfInBounds_toArray, List.set_cons_zero, List.set_cons_succ])))
  (refine settle_known (FSlE w1.heap.size es) (by rfl) (fun _ => by rfl)  ?_ ?_; (focus (intro ρ w hS hF K hK; (simp only [Act.put, List.setIfInBounds_toArray, List.set_cons_zero, List.set_cons_succ] at hK); go_simp; (refine (hed _ hS.1).mono ?_; rintro e w' ⟨u, rfl, ⟨h1, h2⟩, hb'⟩; exact hK _ _ ⟨h1, h2.mono hS.1.size⟩ (keepS _ (below_next hb' hS.1)) hb'))); (simp only [Act.put, List.setIfInBounds_toArray, List.set_cons_zero, List.set_cons_succ]))
  (refine settle_known (FG w1.heap.size N es) (by rfl) (fun _ => by rfl)  ?_ ?_; (focus (intro ρ w hS hF K hK; (simp only [Act.put, List.setIfInBounds_toArray, List.set_cons_zero, List.set_cons_succ] at hK); go_simp; (have h18 : SlV w 2 (ρ 18) es.length (edcs es) ∧ New w1.heap.size (ρ 18) := hF.1 (by rfl); generalize ρ 18 = v18 at h18 hK ⊢; obtain ⟨A18, c18, rfl⟩ := h18.1.form; go_simp; exact hK _ _ ⟨_, rfl, h18⟩ hS (Below.refl _ _)))); (simp only [Act.put, List.setIfInBounds_toArray, List.set_cons_zero, List.set_cons_succ]))
  refine settle_nil ?_
  intro ρ wE hS hF
  obtain ⟨u, hu1, hu2, hu3⟩ := hF 19 (FG w1.heap.size N es) (by repeat (first | exact List.mem_cons_self | apply List.mem_cons_of_mem))
  clear hF hS0 keepS hed
  dsimp only
  rw [hu1]
  generalize ρ 18 = v18
  have yE := HH.out.1.below hS.1
  rw [← HQ.out] at yE
  obtain ⟨A18, c18, rfl⟩ := hu2.form
  refine wpl_put_blk yE [.int .i64 (N : Int), .slice A18 es.length c18] (by kernel_rfl) rfl (by intro v hv; simp at hv; rcases hv with rfl | rfl <;> rfl) rfl rfl rfl rfl ?_
  intro w6 hB6 hg6
  have kk : Keeps (fun k => k = q + 1) wE w6 := (Keeps.of_grown hg6).mono fun i hi => by injection hi
  have hwE : Below w.heap.size w wE := below_next hS.1 HH.out.2.1
  have hb6 : Below w.heap.size w w6 := hwE.trans (kk.below hwE.size (fun i hi => by have := HQ.out; omega))
  have hfin := hu2.other kk (fun p hp _ => by have := hu3 p hp; omega)
  have HE := Lib.hid (And.intro hfin hb6)
  clear hfin hb6 hwE kk hg6 yE hu2 hu3 hS
  go_wp2_with fail
  refine ret_blk2 hB6 rfl rfl Tryd.underlying72 rfl (by kernel_rfl) rfl ?_
  exact ⟨_, rfl, ⟨_, rfl, HE.out.1⟩, HE.out.2⟩
end Go.Proofs.YtkjmddgnfgbioaaDoor


namespace Go.Proofs.YtkjmddgnfgbioaaDoor.Gr
set_option linter.unusedVariables false
set_option linter.unusedSimpArgs false
set_option maxRecDepth 100000
open Bs
/-- the set of one node without what is behind the first ones in it -/
def cj (B : List (List Nat)) (s : List Nat) (pre : List Nat) : List Nat := pre.foldl (fun a m => op fless a (B.getD m [])) s
theorem cj_nil (B : List (List Nat)) (s : List Nat) : cj B s [] = s := rfl
theorem cj_snoc (B : List (List Nat)) (s : List Nat) (pre : List Nat) (m : Nat) : cj B s (pre ++ [m]) = op fless (cj B s pre) (B.getD m []) := by
  unfold cj
  rw [List.foldl_append]
  rfl
def core1 (B : List (List Nat)) (i : Nat) : List Nat := cj B (B.getD i []) (ls 0 (B.getD i []))
/-- the first k are done -/
def ck (B : List (List Nat)) (N k : Nat) : List (List Nat) := (List.range N).map fun i => if i < k then core1 B i else []
def coreW (B : List (List Nat)) : List (List Nat) := (List.range B.length).map (core1 B)
theorem ck_zero (B : List (List Nat)) (N : Nat) : ck B N 0 = List.replicate N [] := by
  unfold ck
  apply List.ext_getElem
  · simp
  · intro i h h'; simp
theorem ck_all (B : List (List Nat)) : ck B B.length B.length = coreW B := by
  unfold ck coreW
  refine List.map_congr_left fun i hi => ?_
  rw [if_pos (List.mem_range.1 hi)]
theorem ck_length (B : List (List Nat)) (N k : Nat) : (ck B N k).length = N := by simp [ck]
theorem ck_step (B : List (List Nat)) (N k : Nat) : (ck B N k).set k (core1 B k) = ck B N (k + 1) := by
  unfold ck
  rw [map_set]
  refine List.map_congr_left fun i _ => ?_
  by_cases e : i = k
  · rw [if_pos e, if_pos (by omega), e]
  · rw [if_neg e]
    by_cases h : i < k
    · rw [if_pos h, if_pos (by omega)]
    · rw [if_neg h, if_neg (by omega)]
theorem coreW_length (B : List (List Nat)) : (coreW B).length = B.length := by simp [coreW]
theorem cj_gs {N : Nat} {B : List (List Nat)} (h : ∀ s ∈ B, Gs N s) {s : List Nat} (hs : Gs N s) (pre : List Nat) : Gs N (cj B s pre) := by
  unfold cj
  induction pre generalizing s with
  | nil => exact hs
  | cons m l ih => exact ih (hs.less (getD_gs h m).ws)
theorem cj_bit {N : Nat} {B : List (List Nat)} (h : ∀ s ∈ B, Gs N s) (x : Nat) : ∀ (pre : List Nat) {s : List Nat}, Gs N s → (bit (cj B s pre) x = true ↔ bit s x = true ∧ ∀ m ∈ pre, bit (B.getD m []) x = false)
  | [], s, _ => by simp [cj]
  | m :: l, s, hs => by
    show bit (cj B (op fless s (B.getD m [])) l) x = true ↔ _
    rw [cj_bit h x l (hs.less (getD_gs h m).ws), bit_less hs.ws (getD_gs h m).ws, Bool.and_eq_true, Bool.not_eq_true']
    constructor
    · rintro ⟨⟨a, b⟩, c⟩
      exact ⟨a, fun m' hm => (List.mem_cons.1 hm).elim (fun e => e ▸ b) (c m')⟩
    · rintro ⟨a, b⟩
      exact ⟨⟨a, b m List.mem_cons_self⟩, fun m' hm => b m' (List.mem_cons_of_mem _ hm)⟩
theorem core1_gs {N : Nat} {B : List (List Nat)} (h : ∀ s ∈ B, Gs N s) (i : Nat) : Gs N (core1 B i) := cj_gs h (getD_gs h i) _
theorem coreW_gs {N : Nat} {B : List (List Nat)} (h : ∀ s ∈ B, Gs N s) : ∀ s ∈ coreW B, Gs N s := fun s hs => by
  obtain ⟨i, -, rfl⟩ := List.mem_map.1 hs
  exact core1_gs h i
theorem core1_bit {N : Nat} {B : List (List Nat)} (h : ∀ s ∈ B, Gs N s) (i x : Nat) : bit (core1 B i) x = true ↔ bit (B.getD i []) x = true ∧ ∀ m, bit (B.getD i []) m = true → bit (B.getD m []) x = false := by
  unfold core1
  rw [cj_bit h x _ (getD_gs h i)]
  refine and_congr Iff.rfl ⟨fun H m hm => H m ((mem_list (getD_gs h i).ws m).2 hm), fun H m hm => H m ((mem_list (getD_gs h i).ws m).1 hm)⟩
theorem coreW_getD (B : List (List Nat)) {i : Nat} (hi : i < B.length) : (coreW B).getD i [] = core1 B i := by
  unfold coreW
  rw [List.getD_eq_getElem?_getD, List.getElem?_map, List.getElem?_range hi]
  rfl
end Go.Proofs.YtkjmddgnfgbioaaDoor.Gr


namespace Go.Proofs.YtkjmddgnfgbioaaDoor
set_option linter.unusedVariables false
set_option linter.unusedSimpArgs false
set_option maxRecDepth 100000
open Go.RowKit Go.Shelf

def SwR (w : World) (g : Nat) (L : List (List Nat)) : Prop := ∃ vs : List Value, vs.length = L.length ∧ Blk w g 22 vs ∧ ∀ (i : Nat) (v : Value) (s : List Nat), vs[i]? = some v → L[i]? = some s → SlU w v s
theorem SwR.lt {w : World} {g : Nat} {L : List (List Nat)} (h : SwR w g L) : g < w.heap.size := by
  obtain ⟨vs, h1, h2, h3⟩ := h
  exact h2.lt
/-- no number lies in it -/
theorem SwR.no_num {w : World} {g : Nat} {L : List (List Nat)} (h : SwR w g L) {p : Addr} {k : IntKind} {x : Int} (hp : w.cell? p = some (.int k x)) : p.block ≠ g := by
  obtain ⟨vs, h1, h2, h3⟩ := h
  intro e
  have hc : p = ⟨g, p.off, none⟩ := by
    obtain ⟨b, o, s⟩ := p
    have := World.cell?_spot hp
    simp only at e this
    rw [e, this]
  rw [hc, h2.cell] at hp
  obtain ⟨s, hs⟩ : ∃ s, L[p.off]? = some s := ⟨_, List.getElem?_eq_getElem (by have := (List.getElem?_eq_some_iff.1 hp).1; omega)⟩
  obtain ⟨A, c, hv⟩ := slU_form (h3 _ _ _ hp hs)
  cases hv
theorem SwR.nums_of {w w' : World} {g : Nat} {L : List (List Nat)} (h : SwR w g L) (hk : Keeps (fun k => k = g) w w') : Nums w w' :=
  ⟨hk.size, fun p _ _ hp => (World.cell?_of_block (hk.block _ (World.block_lt_of_cell? w p hp) (h.no_num hp))).trans hp⟩
theorem SwR.keep {w w' : World} {g : Nat} {L : List (List Nat)} (h : SwR w g L) (hn : Nums w w') (hb : w'.heap[g]? = w.heap[g]?) : SwR w' g L := by
  obtain ⟨vs, h1, h2, h3⟩ := h
  exact ⟨vs, h1, hb.trans h2, fun i v s hv hs => (h3 i v s hv hs).nums hn⟩
theorem SwR.below {w w' : World} {g : Nat} {L : List (List Nat)} (h : SwR w g L) (hb : Below w.heap.size w w') : SwR w' g L := h.keep (Nums.of_below hb) (hb.block g h.lt)
theorem nums_own {W W' : World} {row : Option Nat} (hg : W.grownBy W' row) (hr : ∀ r, row = some r → ∃ o : Obj, W.heap[r]? = some o ∧ o.isCells = false) : Nums W W' := ⟨hg.size, fun _ _ _ hx => cell_kept hx hg hr⟩
theorem SwR.own {β : Type} {g : Nat} (L : β → List (List Nat)) : Go.Own (fun s W => SwR W g (L s)) := fun s W W' row h hg hr =>
  h.keep (nums_own hg hr) (hg.block g h.lt (fun e => by
    obtain ⟨o, ho, hc⟩ := hr g e.symm
    obtain ⟨vs, h1, h2, h3⟩ := h
    unfold Blk at h2
    rw [h2] at ho
    cases ho
    cases hc))
/-- one row is put anew -/
theorem SwR.put {w w' : World} {g i : Nat} {L : List (List Nat)} {s : List Nat} {u : Value} (h : SwR w g L) (hu : SlU w u s) {vs : List Value} (hv : Blk w g 22 vs) (hB : Blk w' g 22 (vs.set i u)) (hg : w.grownBy w' (some g)) : SwR w' g (L.set i s) := by
  have hn := h.nums_of (Keeps.mono (Keeps.of_grown hg) (fun k hk => by injection hk))
  obtain ⟨vs', h1, h2, h3⟩ := h
  have e : vs' = vs := by
    unfold Blk at hv h2
    rw [h2] at hv
    injection hv with hv
    injection hv with hv
    exact congrArg Array.toList hv
  subst e
  refine ⟨_, by rw [List.length_set, List.length_set]; exact h1, hB, fun j v t hj ht => ?_⟩
  rw [List.getElem?_set] at hj ht
  split at hj
  · rename_i e
    subst e
    rw [if_pos rfl] at ht
    split at hj
    · injection hj with hj
      subst hj
      rw [if_pos (by omega)] at ht
      injection ht with ht
      subst ht
      exact hu.nums hn
    · cases hj
  · rename_i e
    rw [if_neg e] at ht
    exact (h3 j v t hj ht).nums hn
theorem ownFrom_keeps {β : Type} {S : Nat → Prop} {B : Nat} {w₀ : World} (hB : w₀.heap.size ≤ B) : OwnFrom B (fun (_ : β) W => Keeps S w₀ W) := fun _ X Y row hs hg hr =>
  hs.step (Keeps.of_grown hg) fun i hi e => by have := (hr i e.symm).1; omega
theorem kpP_of_keeps {n₀ g : Nat} {W W' : World} (h : Keeps (fun k => k = g) W W') (hn : n₀ ≤ W.heap.size) : KpP n₀ g W W' := ⟨h.size, fun k hk hne => h.block k (by omega) hne⟩
theorem SwR.slW {w : World} {g : Nat} {L : List (List Nat)} (h : SwR w g L) (hL : L.length ≤ maxLen) : SlW w (.slice (some ⟨g, 0, none⟩) L.length L.length) L := by
  have hlt := h.lt
  obtain ⟨vs, h1, h2, h3⟩ := h
  refine ⟨vs, ⟨_, _, rfl, Nat.le_refl _, hL, by omega, g, 0, fun _ => ⟨rfl, hlt⟩, fun j u hu => by rw [Nat.zero_add, h2.cell]; exact hu⟩, h3⟩
end Go.Proofs.YtkjmddgnfgbioaaDoor


namespace Go.Proofs.YtkjmddgnfgbioaaDoor
set_option linter.unusedVariables false
set_option linter.unusedSimpArgs false
set_option maxRecDepth 100000
open Go Go.RowKit

section
variable {P : Program} {ops : Array Oper} {Q : Exit → Act → World → Prop} {l n : Nat}

theorem operIn_of {o : Oper} {a : Act} {w : World} {K : Act → World → Prop} (hd : ∀ c, o.op ≠ .defer c) (h : o.wp P a w K Q) : o.wpIn (Fence.wide.inRound l) n P a w K Q := by
  refine ⟨fun f _ => trivial, ?_⟩
  rw [Fence.inRound_round, Oper.semAt_some l _ _ hd]
  unfold Oper.wp at h
  generalize (execOp a.eval o).run P w = r at h ⊢
  cases r with
  | ok x w' =>
    cases x with
    | enter f args => exact ⟨fun h' => (nomatch h'), CallsIn.inRound l (callsIn_wide.2 h)⟩
    | row row args =>
      refine ⟨fun h' => (nomatch h'), fun c cs _ => ?_⟩
      obtain ⟨v, w', r, s⟩ := h c cs
      exact ⟨v, w', r, stepsIn_wide.2 s⟩
    | value v => exact h
    | skip => exact h
    | defer d => exact h
    | _ => exact h.elim
  | halt x w' => cases x <;> exact h

theorem opIn_of {i : Nat} {a : Act} {w : World} {K : Act → World → Prop} (hd : ∀ o, ops[i]? = some o → ∀ c, o.op ≠ .defer c) (hL : ¬ LetsOut Q) (h : wpOp P ops Q i K a w) : wpOpIn (Fence.wide.inRound l) n P ops Q i K a w := by
  unfold wpOp at h
  unfold wpOpIn
  rcases ho : ops[i]? with _ | o
  · rw [ho] at h
    exact h
  · simp only [ho] at h ⊢
    split
    · rename_i hw
      rw [if_pos hw] at h
      rcases h with h | ⟨_, h⟩
      · exact operIn_of (hd o ho) h
      · exact (hL h).elim
    · rename_i hw
      rw [if_neg hw] at h
      exact ⟨fun _ _ => trivial, h⟩

theorem anyIn_of (hd : ∀ (i : Nat) (o : Oper), ops[i]? = some o → ∀ c, o.op ≠ .defer c) (hL : ¬ LetsOut Q) : ∀ (fuel : Nat) (listed : Array Bool) (a : Act) (w : World), wpAny P .any ops Q fuel listed a w → wpAnyIn (Fence.wide.inRound l) n P .any ops Q fuel listed a w
  | 0, _, _, _, h => h
  | fuel + 1, listed, a, w, h => ⟨h.1, fun i hi => wpOpIn_mono (fun a w h' => anyIn_of hd hL fuel _ a w h') (opIn_of (hd i) hL (h.2 i hi))⟩

def noDefer (ops : Array Oper) : Bool := ops.all fun o => match o.op with | .defer _ => false | _ => true
theorem noDefer_spec (h : noDefer ops = true) : ∀ (i : Nat) (o : Oper), ops[i]? = some o → ∀ c, o.op ≠ .defer c := fun i o ho c hc => by
  obtain ⟨hi, rfl⟩ := Array.getElem?_eq_some_iff.1 ho
  have := (Array.all_eq_true.1 h) i hi
  rw [hc] at this
  cases this

variable {E : World → World → Prop} {S : World → Prop}
theorem wpIn_walk_tail {id : Nat} {a : Act} {w : World} {l : List Oper} {r : Nat} (k : Nat) (hm : P.follows .mixedOrders = true) (hB : (tailB l.toArray k && noDefer l.toArray) = true) (hL : ¬ LetsOut Q) (E : World → World → Prop) (S : World → Prop) (hS : S w.drew)
    (h : Walk P l.toArray S E (fun A Fs => ∀ ρ w', S w' → (∀ t F, (t, F) ∈ Fs → F.holds (ρ t) w') → wpList P l.toArray Q (l.drop k) (A ρ) w') (l.take k) (fun _ => a) []) : (Code.region id l.toArray true).wpIn (Fence.wide.inRound r) n P Q a w := by
  rw [Bool.and_eq_true] at hB
  obtain ⟨hB, hno⟩ := hB
  simp only [tailB, Bool.and_eq_true, decide_eq_true_eq] at hB
  obtain ⟨⟨⟨⟨hn, hlin⟩, hs⟩, hc⟩, hq⟩ := hB
  obtain ⟨full, hp, he, hZ⟩ := settle_plan (l.take k) [] ⟨(fun _ h => by cases h), (fun pre p post he => by simp at he)⟩ h.out
  have inv0 : HeadInv .any l.toArray k (Array.replicate l.toArray.size false) :=
    ⟨by simp, fun j oj _ hl => (by rw [getD_replicate_false] at hl; cases hl), fun t _ ht => getD_in (by simpa using ht) (getD_replicate_false _ _)⟩
  have := any_order_tail (P := P) (Q := Q) hn (by simpa using he) (linearN_of hlin) hs hc (fun listed hsz h1 h2 => by
    have hn' := hn
    rw [show listed = (Array.replicate k true) ++ (Array.replicate (l.toArray.size - k) false) from getD_ext (by simp only [Array.size_append, Array.size_replicate]; omega) fun i => by
      rw [Array.getD_eq_getD_getElem? (xs := _ ++ _), Array.getElem?_append]
      rcases Nat.lt_or_ge i k with h | h
      · rw [h1 i h]
        simp [h]
      · rw [h2 i h]
        simp only [Array.size_replicate, Nat.not_lt.2 h, if_false, Array.getElem?_replicate]
        split <;> rfl]
    exact hq) hp hZ k _ a w.drew (fun _ => undef) inv0 ⟨List.range k, by simp, fun i hi _ => List.mem_range.2 hi⟩ ⟨rfl, rfl, fun _ _ => rfl, fun i p t hi => ?_⟩ hS fun i p F d hi => ?_
  · refine wpIn_region_any hm (anyIn_of (noDefer_spec hno) hL _ _ _ _ ?_)
    rwa [show k + (l.toArray.size - k) = l.toArray.size by omega] at this
  · exfalso; rw [getD_replicate_false] at hi; cases hi
  · exfalso; rw [getD_replicate_false] at hi; cases hi
theorem wpIn_walk_last {id : Nat} {a : Act} {w : World} {l : List Oper} {r : Nat} (hm : P.follows .mixedOrders = true) (hB : (tailB l.toArray (l.length - 1) && noDefer l.toArray) = true) (hL : ¬ LetsOut Q) (E : World → World → Prop) (S : World → Prop) (hS : S w.drew)
    (h : Walk P l.toArray S E (fun A Fs => ∀ ρ w', S w' → (∀ t F, (t, F) ∈ Fs → F.holds (ρ t) w') → wpList P l.toArray Q (l.drop (l.length - 1)) (A ρ) w') (l.take (l.length - 1)) (fun _ => a) []) : (Code.region id l.toArray true).wpIn (Fence.wide.inRound r) n P Q a w :=
  wpIn_walk_tail (l.length - 1) hm hB hL E S hS h
theorem wpIn_walk {id : Nat} {a : Act} {w : World} {l : List Oper} {r : Nat} (hm : P.follows .mixedOrders = true) (hlin : (linearB l.toArray && noDefer l.toArray) = true) (hL : ¬ LetsOut Q) (E : World → World → Prop) (S : World → Prop) (hS : S w.drew)
    (h : Walk P l.toArray S E (fun A Fs => ∀ ρ w', S w' → (∀ t F, (t, F) ∈ Fs → F.holds (ρ t) w') → Q .normal (A ρ) w') l (fun _ => a) []) : (Code.region id l.toArray true).wpIn (Fence.wide.inRound r) n P Q a w := by
  rw [Bool.and_eq_true] at hlin
  obtain ⟨hlin, hno⟩ := hlin
  obtain ⟨full, hp, he, hZ⟩ := settle_plan l [] ⟨(fun _ h => by cases h), (fun pre p post he => by simp at he)⟩ h.out
  refine wpIn_region_any hm (anyIn_of (noDefer_spec hno) hL _ _ _ _ (any_order (by simpa using he) (linear_of hlin) hp hZ _ _ a _ (fun _ => undef) (by simp) (fun i j o hj => ?_) ⟨List.range l.toArray.size, by simp, fun i hi _ => List.mem_range.2 hi⟩ ⟨rfl, rfl, fun _ _ => rfl, fun i p t hi => ?_⟩ hS fun i p F d hi => ?_))
  · exfalso; revert hj; simp [Array.getD]
  · exfalso; revert hi; simp [Array.getD]
  · exfalso; revert hi; simp [Array.getD]
end
end Go.Proofs.YtkjmddgnfgbioaaDoor


namespace Go.Proofs.YtkjmddgnfgbioaaDoor
set_option linter.unusedVariables false
set_option linter.unusedSimpArgs false
set_option maxRecDepth 100000
open Go.RowKit Go.Shelf

attribute [local go_sem] Oper.semAt_some

def FSw (s : List Nat) : Fact (fun w w' => Below w.heap.size w w') := ⟨fun v w => SlU w v s, fun _ _ _ h k => h.below k⟩

theorem SlV.kept {w w' : World} {sz n : Nat} {v : Value} {xs : List Value} {row : Option Nat} (h : SlV w sz v n xs) (hg : w.grownBy w' row) (hr : ∀ r, row = some r → ∃ o : Obj, w.heap[r]? = some o ∧ o.isCells = false) : SlV w' sz v n xs := by
  obtain ⟨A, c, rfl, h1, h2, h3, b, o, h4, h5⟩ := h
  exact ⟨A, c, rfl, h1, h2, h3, b, o, fun hn => ⟨(h4 hn).1, Nat.lt_of_lt_of_le (h4 hn).2 hg.size⟩, fun j u hu => cell_kept (h5 j u hu) hg hr⟩

set_option maxRecDepth 100000 in
set_option maxHeartbeats 4000000 in
theorem core_yes (N : Nat) (B : List (List Nat)) (w : World) (A : Option Addr) (l c : Nat) (hN : N ≤ 200) (hBl : B.length = N) (hB : ∀ s ∈ B, Bs.Gs N s) (hT : Tab w)
    (hbeh : ∀ w', Below w.heap.size w w' → Calls Tryd.prog 84 #[.agg #[.int .i64 (N : Int), .slice A l c]] w' fun e w'' => ∃ v, e = .returned (.tuple #[v, .int .i64 0]) ∧ SlW w'' v B ∧ Below w'.heap.size w' w'') :
    Calls Tryd.prog 49 #[.agg #[.int .i64 (N : Int), .slice A l c]] w fun e w' => ∃ g, e = .returned (.tuple #[g, .int .i64 0]) ∧ IsG N (Gr.edW (Gr.coreW B)) g w' ∧ Below w.heap.size w w' := by
  obtain ⟨es, hes⟩ : ∃ es, es = Gr.edW (Gr.coreW B) := ⟨_, rfl⟩
  rw [← hes]
  have HES := Lib.hid hes
  clear hes
  refine (callsIn_wide (n := 4)).1 ?_
  refine callsIn_of_wp_marks Tryd.func49 rfl trivial ?_ rfl
  simp only [Tryd.ntmps49, List.size_toArray, List.length_cons, List.length_nil, Nat.reduceAdd, Nat.reduceSub, Array.replicate_succ, Array.replicate_zero, List.push_toArray, List.append_toArray, List.nil_append, List.cons_append]
  refine wpIn_wide.2 ?_
  have hba : Below w.heap.size w ((w.alloc (.cells #[.int .i64 (N : Int), .slice A l c] 72)).alloc (.cells #[.int .i64 0, .slice none 0 0] 72)) := below_alloc (below_alloc (Below.refl _ _) _) _
  have x0 := (Blk.new w 72 [.int .i64 (N : Int), .slice A l c]).alloc (.cells #[.int .i64 0, .slice none 0 0] 72)
  have y0 := Blk.new (w.alloc (.cells #[.int .i64 (N : Int), .slice A l c] 72)) 72 [.int .i64 0, .slice none 0 0]
  simp only [World.size_alloc] at y0
  have HB := Lib.hid hB
  have HBL := Lib.hid hBl
  have HT := Lib.hid hT
  clear hB hBl hT
  have n47' : 24 * N ≤ 281474976710656 := by omega
  have n63 : N ≤ 9223372036854775807 := by omega
  go_upto_region 1 with (fail)
  generalize (w.alloc (.cells #[.int .i64 (N : Int), .slice A l c] 72)).alloc (.cells #[.int .i64 0, .slice none 0 0] 72) = W0 at x0 y0 hba ⊢
  have d0 : W0.cell? ⟨w.heap.size, 0, none⟩ = some (.int .i64 (N : Int)) := (x0.cell 0).trans rfl
  have d1 : W0.cell? ⟨w.heap.size, 1, none⟩ = some (.slice A l c) := (x0.cell 1).trans rfl
  go_wp2_with fail
  refine (hbeh W0 hba).mono ?_
  rintro e w1 ⟨v, rfl, hv, hb1⟩
  have x1 := x0.below hb1
  have y1 := y0.below hb1
  have hb01 := below_next hb1 hba
  have hsz := y1.lt
  clear d0 d1 x0 y0 hbeh hb1 hba
  obtain ⟨A', c', rfl⟩ : ∃ A' c', v = .slice A' N c' := by
    obtain ⟨os, ⟨A', c', e, -⟩, -⟩ := hv
    rw [HBL.out] at e
    exact ⟨_, _, e⟩
  go_upto_region 4 with (fail)
  have p4 := Boxed.new w1 103 (.slice A' N c')
  have hb4 : Below w1.heap.size w1 (w1.alloc (.cells #[.slice A' N c'] 103)) := below_alloc (Below.refl _ _) _
  have hs4 : (w1.alloc (.cells #[.slice A' N c'] 103)).heap.size = w1.heap.size + 1 := by simp
  generalize w1.alloc (.cells #[.slice A' N c'] 103) = w2 at p4 hb4 hs4 ⊢
  have x2 := x1.below hb4
  have y2 := y1.below hb4
  have hv2 := hv.below hb4
  have c0 : w2.cell? ⟨w.heap.size, 0, none⟩ = some (.int .i64 (N : Int)) := (x2.cell 0).trans rfl
  have hb02 := below_next hb4 hb01
  obtain ⟨pB, hpB⟩ : ∃ p, p = w1.heap.size := ⟨_, rfl⟩
  rw [← hpB] at p4 hs4 ⊢
  have HP := Lib.hid hpB
  have hlt2 : w.heap.size + 1 < pB := by omega
  have HS4 := Lib.hid hs4
  clear x1 y1 hv hb4 hb01 hsz hpB hs4
  go_upto_region 5 with (at_make; refine wp_make_blk _ _ _ _ (.slice none 0 0) 1 24 N Tryd.underlying103 info_swords rfl (by decide) rfl rfl (by omega) (by omega) rfl rfl rfl rfl ?_; intro w3 hB3 hb3 hz3)
  have hR4 : SwR w3 w2.heap.size (Gr.ck B N 0) := by
    refine ⟨_, by rw [Gr.ck_length]; simp, hB3, fun i v s hv hs => ?_⟩
    rw [Gr.ck_zero] at hs
    have h1 := List.eq_of_mem_replicate (List.mem_of_getElem? hv)
    have h2 := List.eq_of_mem_replicate (List.mem_of_getElem? hs)
    subst h1 h2
    exact SlU.nil _
  have hR5 := hR4.below (below_alloc (Below.refl _ w3) (.cells #[.slice (some ⟨w2.heap.size, 0, none⟩) N N] 103))
  have p6 := Boxed.new w3 103 (.slice (some ⟨w2.heap.size, 0, none⟩) N N)
  have hbW : Below w2.heap.size w2 (w3.alloc (.cells #[.slice (some ⟨w2.heap.size, 0, none⟩) N N] 103)) := below_alloc hb3 _
  have hs5 : (w3.alloc (.cells #[.slice (some ⟨w2.heap.size, 0, none⟩) N N] 103)).heap.size = w2.heap.size + 2 := by simp [hz3]
  rw [hz3] at p6
  generalize (w3.alloc (.cells #[.slice (some ⟨w2.heap.size, 0, none⟩) N N] 103)) = W4 at hR5 p6 hbW hs5 ⊢
  have hs2 : w2.heap.size = pB + 1 := HS4.out
  have c4 : W4.cell? ⟨pB, 0, none⟩ = some (.slice A' N c') := (hbW.cell (p := ⟨pB, 0, none⟩) (by show pB < _; omega)).trans p4.cell
  obtain ⟨gC, hgC⟩ : ∃ g, g = w2.heap.size := ⟨_, rfl⟩
  simp only [← hgC] at hR5 p6 hbW hs5 hs2 ⊢
  have c4' := c4
  go_wp2_with fail
  refine (wpIn_wide (n := 4)).1 ?_
  have cB : w2.cell? ⟨pB, 0, none⟩ = some (.slice A' N c') := p4.cell
  clear hR4 hB3 hb3 hz3 p4 c4 c4' HS4
  have HGC := Lib.hid (And.intro hgC hs2)
  have hpg : pB < gC := by omega
  clear hgC hs2
  refine wpIn_loop (fun a W => ∃ (k : Nat) (Ds : List Nat) (u7 u8 u25 u26 u27 u28 u29 u30 u31 u32 u33 u34 u48 : Value), k ≤ N ∧ (SwR W gC (Gr.ck B N k) ∧ Boxed W (gC + 1) 103 (.slice (some ⟨gC, 0, none⟩) N N)) ∧ Below gC w2 W ∧ (Ds.Nodup ∧ ∀ D ∈ Ds, gC + 2 ≤ D ∧ W.heap[D]? = some (.deferred (some []))) ∧ a = { tmps := #[.agg #[.int .i64 (N : Int), .slice A l c], .pointer (some ⟨w.heap.size, 0, none⟩), .pointer (some ⟨w.heap.size + 1, 0, none⟩), .int .i64 0, .pointer (some ⟨pB, 0, none⟩), .int .i64 0, .pointer (some ⟨gC + 1, 0, none⟩), u7, u8, undef, .tuple #[.slice A' N c', .int .i64 0], .agg #[.int .i64 (N : Int), .slice A l c], .tuple #[.slice A' N c', .int .i64 0], .slice A' N c', .int .i64 0, .int .i64 0, .bool false, undef, undef, .pointer (some ⟨w.heap.size, 0, none⟩), .int .i64 (N : Int), .slice (some ⟨gC, 0, none⟩) N N, .slice A' N c', .int .i64 (N : Int), .int .i64 (k : Int), u25, u26, u27, u28, u29, u30, u31, u32, u33, u34, undef, undef, undef, undef, undef, undef, undef, undef, undef, undef, undef, undef, undef, u48, undef, undef, undef, undef, undef], defers := Ds.map markOf }) (fun a _ => N - (intOf (a.tmps.getD 24 undef)).toNat) ?_ ?_
  · exact ⟨0, [], undef, undef, undef, undef, undef, undef, undef, undef, undef, undef, undef, undef, undef, Nat.zero_le _, ⟨hR5, p6⟩, hbW, ⟨List.nodup_nil, fun D hD => by cases hD⟩, rfl⟩
  · rintro a W ⟨k, Ds, u7, u8, u25, u26, u27, u28, u29, u30, u31, u32, u33, u34, u48, hk, ⟨hR, hpC⟩, hbW, hDs, rfl⟩
    clear hR5 p6 hs5
    dsimp only
    have hlC := hpC.lt
    by_cases hlt : k < N
    · have hv2' := hv2
      obtain ⟨bs, ⟨A1, c1, e1, -, -, hbl, hbc⟩, hbs⟩ := hv2
      injection e1 with e1 e2 e3
      subst e1 e3
      obtain ⟨xs, hxs⟩ : ∃ s, B[k]? = some s := ⟨_, List.getElem?_eq_getElem (by have := HBL.out; omega)⟩
      have hxD : B.getD k [] = xs := by rw [List.getD_eq_getElem?_getD, hxs, Option.getD_some]
      have hgx := HB.out xs (List.mem_of_getElem? hxs)
      obtain ⟨vk, hvk⟩ : ∃ v, bs[k]? = some v := ⟨_, List.getElem?_eq_getElem (by have := HBL.out; omega)⟩
      have sx := hbs k vk xs hvk hxs
      obtain ⟨aA, ac, rfl⟩ := slU_form sx
      obtain ⟨g, o, hAg, hgl, hcell⟩ := hbc.at_ (fun e => by rw [e] at hvk; simp at hvk)
      subst hAg
      have hgl' : g < gC := by rw [HGC.out.1]; exact hgl
      clear e2
      have ck : W.cell? ⟨g, o + k, none⟩ = some (.slice aA xs.length ac) := (hbW.cell (p := ⟨g, o + k, none⟩) hgl').trans (hcell k _ hvk)
      have bI := Boxed.new W 3 (.int .i64 (k : Int))
      have hbI : Below W.heap.size W (W.alloc (.cells #[.int .i64 (k : Int)] 3)) := below_alloc (Below.refl _ _) _
      have hzI : (W.alloc (.cells #[.int .i64 (k : Int)] 3)).heap.size = W.heap.size + 1 := by simp
      have hpI := hpC.alloc (.cells #[.int .i64 (k : Int)] 3)
      have hRI := hR.below hbI
      have hRI' := hRI
      obtain ⟨vs, hvl, hvB, hvS⟩ := hRI
      have hvk' : k < vs.length := by rw [hvl, Gr.ck_length]; exact hlt
      have hcC : (W.alloc (.cells #[.int .i64 (k : Int)] 3)).cell? ⟨gC, k, none⟩ = some vs[k] := (hvB.cell k).trans (List.getElem?_eq_getElem hvk')
      have hfC := hvB.frozen k
      have hcp := hpI.cell
      have hcn := bI.cell
      have c2 : (W.alloc (.cells #[.int .i64 (k : Int)] 3)).cell? ⟨g, o + k, none⟩ = some (.slice aA xs.length ac) := (hbI.cell (p := ⟨g, o + k, none⟩) (by show g < _; have := hbW.size; omega)).trans ck
      have HV := Lib.hid (And.intro hvl (And.intro hvB (And.intro hxD (And.intro hxs (And.intro hbl hzI)))))
      clear hvl hvB hxD hxs hbl hzI hvS
      gi_wp2_with fail
      have hS1 : SwR ((W.alloc (.cells #[.int .i64 (k : Int)] 3)).setCell ⟨gC, k, none⟩ (.slice aA xs.length ac)) gC ((Gr.ck B N k).set k xs) := by
        have hk1 : Below w2.heap.size w2 (W.alloc (.cells #[.int .i64 (k : Int)] 3)) := by rw [← HGC.out.1]; exact hbW.trans (hbI.mono (by omega))
        exact hRI'.put (sx.below hk1) HV.out.2.1 (HV.out.2.1.set_ k _) (grown_setCell _ gC k _)
      have hg1 := grown_setCell (W.alloc (.cells #[.int .i64 (k : Int)] 3)) gC k (.slice aA xs.length ac)
      have hp1 := hpI.kept hg1 (fun e => by injection e with e; omega)
      have hn1 := bI.kept hg1 (fun e => by injection e with e; omega)
      have hb1 : Below gC w2 ((W.alloc (.cells #[.int .i64 (k : Int)] 3)).setCell ⟨gC, k, none⟩ (.slice aA xs.length ac)) := (hbW.trans (hbI.mono (by omega))).trans (below_of_grown hg1 (by have := HV.out.2.2.2.2.2; omega) (Nat.le_refl _))
      have hz1 : ((W.alloc (.cells #[.int .i64 (k : Int)] 3)).setCell ⟨gC, k, none⟩ (.slice aA xs.length ac)).heap.size = W.heap.size + 1 := by simp [World.setCell]
      have hDs1 : ∀ D ∈ Ds, ((W.alloc (.cells #[.int .i64 (k : Int)] 3)).setCell ⟨gC, k, none⟩ (.slice aA xs.length ac)).heap[D]? = some (.deferred (some [])) := fun D hD => by
        have h0 := hDs.2 D hD
        have hlD := (Array.getElem?_eq_some_iff.1 h0.2).1
        exact (hg1.block D (by have := hbI.size; omega) (fun e => by injection e with e; omega)).trans ((hbI.block D hlD).trans h0.2)
      generalize ((W.alloc (.cells #[.int .i64 (k : Int)] 3)).setCell ⟨gC, k, none⟩ (.slice aA xs.length ac)) = W1 at hS1 hp1 hn1 hb1 hz1 hDs1 ⊢
      have hDlt : ∀ D ∈ Ds, D < W.heap.size := fun D hD => (Array.getElem?_eq_some_iff.1 (hDs.2 D hD).2).1
      have HD := Lib.hid hDs
      clear hR hpC hbW hDs ck bI hbI hpI hRI' hcC hfC hcp hcn c2 hg1
      refine ⟨trivial, (all_gen 2 _ _ _ _).mono ?_⟩
      rintro e w' ⟨rfl, rfl⟩
      have bQ := Boxed.new W1 91 (.slice aA xs.length ac)
      have hbQ : Below W1.heap.size W1 (W1.alloc (.cells #[.slice aA xs.length ac] 91)) := below_alloc (Below.refl _ _) _
      have hp2 := hp1.alloc (.cells #[.slice aA xs.length ac] 91)
      have hn2 := hn1.alloc (.cells #[.slice aA xs.length ac] 91)
      have hS2 := hS1.below hbQ
      have hb2 : Below gC w2 (W1.alloc (.cells #[.slice aA xs.length ac] 91)) := hb1.trans (hbQ.mono (by omega))
      have hz2 : (W1.alloc (.cells #[.slice aA xs.length ac] 91)).heap.size = W.heap.size + 2 := by simp [hz1]
      have hDs2 : ∀ D ∈ Ds, (W1.alloc (.cells #[.slice aA xs.length ac] 91)).heap[D]? = some (.deferred (some [])) := fun D hD => (hbQ.block D (by have := hDlt D hD; omega)).trans (hDs1 D hD)
      rw [hz1] at bQ
      have HZ := Lib.hid (And.intro hz1 hz2)
      clear hz2 hS1 hp1 hn1 hb1 hDs1 hbQ
      gi_wp2_with fail
      clear hz1
      generalize (W1.alloc (.cells #[.slice aA xs.length ac] 91)) = W2 at bQ hp2 hn2 hS2 hb2 HZ hDs2 ⊢
      have hsW : gC + 1 < W.heap.size := hlC
      have hz2 := HZ.out.2
      have HGo := HGC.out
      have keyN : ∀ W' wr, Below W2.heap.size W2 W' → KpP (W.heap.size + 2) gC W' wr → Nums w2 wr := fun W' wr hW hk => ⟨by have := hk.1; have := hW.size; have := hb2.size; omega, fun p i x hx => by
        have hp := World.block_lt_of_cell? w2 p hx
        exact (hk.cell (by omega) (by omega)).trans ((hW.cell (by omega)).trans ((hb2.cell (by omega)).trans hx))⟩
      have stA := all_gen_stops 2 (W.heap.size + 1) ac aA xs sx.2 (by have := hgx.length; omega) (KpP (W.heap.size + 2) gC) (KpP.refl _ _) (fun h k => h.trans k) W2
        (fun W' wr hW hk => (hk.cell (a := ⟨W.heap.size + 1, 0, none⟩) (by show W.heap.size + 1 < _; omega) (by show W.heap.size + 1 ≠ gC; omega)).trans ((hW.cell (p := ⟨W.heap.size + 1, 0, none⟩) (by show W.heap.size + 1 < _; omega)).trans bQ.cell))
        (fun W' wr hW hk => ⟨_, by
          obtain ⟨⟨A', c', e, -, -, -, h4⟩, -⟩ := sx.nums (keyN W' wr hW hk)
          injection e with e1 e2 e3
          subst e1
          exact h4⟩)
        (fun W' wr hW hk => ((HT.out.later HT.out.lt hb02).nums (keyN W' wr hW hk)))
      have hll := Gr.ls_len hgx
      have HX := Lib.hid (And.intro keyN (And.intro sx (And.intro hgx (And.intro hbs (And.intro hbc hv2')))))
      clear keyN sx bQ hgx hbs hbc hv2' HGo
      have hpC' : gC + 1 < W2.heap.size := by omega
      refine wpIn_rangeFunc_ownH rfl (by omega) (gf := 99) (lb := #[.pointer (some ⟨W.heap.size + 1, 0, none⟩)]) rfl trivial (enters_of Tryd.func99 (by kernel_rfl) rfl)
        stA (fun h k => h.trans k) (kpP_b (by omega)) (Below.refl _ _) (fun _ => rfl)
        (fun pre W' => ((Boxed W' (gC + 1) 103 (.slice (some ⟨gC, 0, none⟩) N N) ∧ Boxed W' W.heap.size 3 (.int .i64 (k : Int))) ∧ SwR W' gC ((Gr.ck B N k).set k (Gr.cj B xs (pre.map (·.1))))) ∧ (Keeps (fun i => i = gC) W2 W' ∧ ∀ D ∈ Ds, W'.heap[D]? = some (.deferred (some []))))
        (fun _ _ _ => False)
        (OwnFrom.and (OwnFrom.and (OwnFrom.and (Own.from (boxed_own _ _ _) _) (Own.from (boxed_own _ _ _) _)) (Own.from (SwR.own (fun pre : List { x : Nat // x ∈ Bs.ls 0 xs } => (Gr.ck B N k).set k (Gr.cj B xs (pre.map (·.1))))) _)) (OwnFrom.and (ownFrom_keeps (Nat.le_refl _)) (fun s X Y row hs hg hr D hD => (hg.block D (Array.getElem?_eq_some_iff.1 (hs D hD)).1 (fun e => by have := (hr D e.symm).1; have := hDlt D hD; omega)).trans (hs D hD))))
        (fun _ _ _ _ _ hs _ _ => hs)
        ⟨⟨⟨hp2, hn2⟩, hS2⟩, Keeps.refl _ _, hDs2⟩
        (fun x a' W' => a' = { tmps := #[.agg #[.int .i64 (N : Int), .slice A l c], .pointer (some ⟨w.heap.size, 0, none⟩), .pointer (some ⟨w.heap.size + 1, 0, none⟩), .int .i64 0, .pointer (some ⟨pB, 0, none⟩), .int .i64 0, .pointer (some ⟨gC + 1, 0, none⟩), .pointer (some ⟨W.heap.size, 0, none⟩), .slice aA xs.length ac, .int .i64 (x.1 : Int), .tuple #[.slice (some ⟨g, o, none⟩) N c', .int .i64 0], .agg #[.int .i64 (N : Int), .slice A l c], .tuple #[.slice (some ⟨g, o, none⟩) N c', .int .i64 0], .slice (some ⟨g, o, none⟩) N c', .int .i64 0, .int .i64 0, .bool false, undef, undef, .pointer (some ⟨w.heap.size, 0, none⟩), .int .i64 (N : Int), .slice (some ⟨gC, 0, none⟩) N N, .slice (some ⟨g, o, none⟩) N c', .int .i64 (N : Int), .int .i64 (k : Int), .bool true, .int .i64 (k : Int), .pointer (some ⟨g, o + k, none⟩), .slice aA xs.length ac, .slice (some ⟨gC, 0, none⟩) N N, .int .i64 (k : Int), .slice aA xs.length ac, .pointer (some ⟨gC, k, none⟩), .slice aA xs.length ac, .func (.func 99) #[] #[.pointer (some ⟨W.heap.size + 1, 0, none⟩)], .int .i64 (x.1 : Int), undef, undef, undef, undef, undef, undef, undef, undef, undef, undef, undef, undef, u48, undef, undef, undef, undef, undef], defers := [] })
        (fun x a' _ X Y row hs hg hr => hs)
        ?assign ?body ?done ?stop
      case assign =>
        rintro l pre x W' K hI hK
        gi_wp2
        exact hK _ _ (KeepsFrom.refl _ _) (KpP.refl _ _ _) hI rfl
      case body =>
        rintro l0 pre x a' W' hl ⟨r, hr⟩ ⟨⟨⟨b1, b2⟩, b3⟩, b4, b5⟩ rfl hlt'
        gi_wp2_with fail
        obtain ⟨x, hxm⟩ := x
        have hxN : x < N := HX.out.2.2.1.lt x ((Bs.mem_list HX.out.2.1.2 x).1 hxm)
        have e1 := b1.cell
        have e2 := b2.cell
        have b3' := b3
        obtain ⟨vs', hvl', hvB', hvS'⟩ := b3
        have hckl : ((Gr.ck B N k).set k (Gr.cj B xs (pre.map (·.1)))).length = N := by rw [List.length_set, Gr.ck_length]
        obtain ⟨u0, hu0⟩ : ∃ u, vs'[k]? = some u := ⟨_, List.getElem?_eq_getElem (by omega)⟩
        have su0 : SlU W' u0 (Gr.cj B xs (pre.map (·.1))) := hvS' k u0 _ hu0 (by rw [List.getElem?_set_self (by rw [Gr.ck_length]; exact hlt)])
        have ec : W'.cell? ⟨gC, k, none⟩ = some u0 := (hvB'.cell k).trans hu0
        obtain ⟨ys, hys⟩ : ∃ s, B[x]? = some s := ⟨_, List.getElem?_eq_getElem (by have := HBL.out; omega)⟩
        have hyD : B.getD x [] = ys := by rw [List.getD_eq_getElem?_getD, hys, Option.getD_some]
        obtain ⟨vy, hvy⟩ : ∃ v, bs[x]? = some v := ⟨_, List.getElem?_eq_getElem (by have := HBL.out; have := HV.out.2.2.2.2.1; omega)⟩
        have hNW : Nums w2 W' := HX.out.1 W2 W' (Below.refl _ _) (kpP_of_keeps b4 (by omega))
        have sy := (HX.out.2.2.2.1 x vy ys hvy hys).nums hNW
        have hbD : Below gC w2 W' := hb2.trans (b4.below (by omega) (fun i hi => by omega))
        have ey : W'.cell? ⟨g, o + x, none⟩ = some vy := (hbD.cell (p := ⟨g, o + x, none⟩) hgl').trans (hcell x _ hvy)
        have eb : W'.cell? ⟨pB, 0, none⟩ = some (.slice (some ⟨g, o, none⟩) N c') := (hbD.cell (p := ⟨pB, 0, none⟩) hpg).trans cB
        obtain ⟨A0, c9, rfl⟩ := slU_form su0
        obtain ⟨Ay, cy, rfl⟩ := slU_form sy
        have hg0 := (Gr.cj_gs HB.out HX.out.2.2.1 (pre.map (·.1))).length
        have hgy := (HB.out ys (List.mem_of_getElem? hys)).length
        have hle := fun w' (hb : Below W'.heap.size W' w') => less_any w' _ _ _ ys (su0.below hb) (sy.below hb) (by omega) (by omega)
        have keepS : ∀ w', Below W'.heap.size W' w' → (Below W'.heap.size W' w' ∧ w'.cell? ⟨gC + 1, 0, none⟩ = some (.slice (some ⟨gC, 0, none⟩) N N) ∧ w'.cell? ⟨W.heap.size, 0, none⟩ = some (.int .i64 (k : Int)) ∧ w'.cell? ⟨gC, k, none⟩ = some (.slice A0 (Gr.cj B xs (pre.map (·.1))).length c9) ∧ w'.cell? ⟨g, o + x, none⟩ = some (.slice Ay ys.length cy) ∧ w'.cell? ⟨pB, 0, none⟩ = some (.slice (some ⟨g, o, none⟩) N c')) := fun w' hb =>
          ⟨hb, (hb.cell (World.block_lt_of_cell? W' _ e1)).trans e1, (hb.cell (World.block_lt_of_cell? W' _ e2)).trans e2, (hb.cell (World.block_lt_of_cell? W' _ ec)).trans ec, (hb.cell (World.block_lt_of_cell? W' _ ey)).trans ey, (hb.cell (World.block_lt_of_cell? W' _ eb)).trans eb⟩
        have hS0 := keepS _ (below_drew (Below.refl _ _))
        have hst := Gr.cj_snoc B xs (pre.map (·.1)) x
        rw [hyD] at hst
        have HS := Lib.hid (And.intro hu0 (And.intro hvl' (And.intro hckl hst)))
        obtain ⟨sj, hsj⟩ : ∃ s, s = Gr.cj B xs (pre.map (·.1)) := ⟨_, rfl⟩
        rw [← hsj] at hle keepS hS0
        have HSJ := Lib.hid hsj
        clear hu0 hvl' hckl hst hvS' su0 sy hys hyD hvy hNW ec ey eb e1 e2 hbD hg0 hgy hsj
        change Code.wpIn (Fence.wide.inRound l0) _ _ _ _ _ _
        refine wpIn_walk_last (by kernel_rfl) (by kernel_rfl) (by rintro ⟨_, _, h⟩; exact h) (fun w w' => Below w.heap.size w w') (fun w' => (Below W'.heap.size W' w' ∧ w'.cell? ⟨gC + 1, 0, none⟩ = some (.slice (some ⟨gC, 0, none⟩) N N) ∧ w'.cell? ⟨W.heap.size, 0, none⟩ = some (.int .i64 (k : Int)) ∧ w'.cell? ⟨gC, k, none⟩ = some (.slice A0 sj.length c9) ∧ w'.cell? ⟨g, o + x, none⟩ = some (.slice Ay ys.length cy) ∧ w'.cell? ⟨pB, 0, none⟩ = some (.slice (some ⟨g, o, none⟩) N c'))) hS0 ?_
        simp only [List.length_cons, List.length_nil, Nat.reduceAdd, Nat.reduceSub, List.take_succ_cons, List.take_zero, List.drop_succ_cons, List.drop_zero]
        repeat (first | (refine settle_skip (fun _ => by rfl) ?_; (simp only [Act.put, List.setIfInBounds_toArray, List.set_cons_zero, List.set_cons_succ])) | (refine' settle_run (fun _ _ => Below.refl _ _) (fun _ => by rfl) ?_ ?_; rotate_left; (focus (intro ρ w hS hF; (try dsimp only at hS); go_split_ands; go_simp; try with_reducible rfl)); (simp only [Act.put, List.setIfInBounds_toArray, List.set_cons_zero, List.set_cons_succ])))
        (refine settle_known (FSw (Bs.op Bs.fless sj ys)) (by rfl) (fun _ => by rfl)  ?_ ?_; (focus (intro ρ w hS hF K hK; (simp only [Act.put, List.setIfInBounds_toArray, List.set_cons_zero, List.set_cons_succ] at hK); go_simp; (refine (hle _ hS.1).mono ?_; rintro e w6 ⟨v, rfl, hF', hb'⟩; exact hK _ _ hF' (keepS _ (below_next hb' hS.1)) hb'))); (simp only [Act.put, List.setIfInBounds_toArray, List.set_cons_zero, List.set_cons_succ]))
        repeat (first | (refine settle_skip (fun _ => by rfl) ?_; (simp only [Act.put, List.setIfInBounds_toArray, List.set_cons_zero, List.set_cons_succ])) | (refine' settle_run (fun _ _ => Below.refl _ _) (fun _ => by rfl) ?_ ?_; rotate_left; (focus (intro ρ w hS hF; (try dsimp only at hS); go_split_ands; go_simp; try with_reducible rfl)); (simp only [Act.put, List.setIfInBounds_toArray, List.set_cons_zero, List.set_cons_succ])))
        refine settle_nil ?_
        intro ρ w5 hS hF
        have hU : SlU w5 (ρ 46) (Bs.op Bs.fless sj ys) := hF 46 (FSw (Bs.op Bs.fless sj ys)) (by repeat (first | exact List.mem_cons_self | apply List.mem_cons_of_mem))
        have hb5 := hS.1
        clear hF hS keepS hS0 hle
        dsimp only
        generalize ρ 46 = U at hU ⊢
        obtain ⟨Ua, Uc, rfl⟩ := slU_form hU
        have hB5 := hvB'.below hb5
        refine wpl_set_blk hB5 k (.slice Ua (Bs.op Bs.fless sj ys).length Uc) (by kernel_rfl) (by rw [HS.out.2.1, HS.out.2.2.1]; exact hlt) rfl rfl rfl rfl rfl rfl ?_
        intro w6 hB6 hg6
        have hR6 := (b3'.below hb5).put hU hB5 hB6 hg6
        rw [HSJ.out] at hR6
        rw [List.set_set, ← HS.out.2.2.2] at hR6
        have hgb := grown_of_below hb5 none
        have f1 := (b1.kept hgb (by simp)).kept hg6 (fun e => by injection e with e; omega)
        have f2 := (b2.kept hgb (by simp)).kept hg6 (fun e => by injection e with e; omega)
        have k1 : Keeps (fun i => i = gC) W' w6 := ((Keeps.of_below hb5 (fun i => i = gC)).step (Keeps.of_grown hg6) fun i _ e => by injection e)
        have k2 := b4.step k1 fun i _ h => h
        have hW1 := b4.size
        have kf : ∀ B, gC < B → KeepsFrom B W' w6 := fun B hB => (KeepsFrom.of_grownBy hgb (fun j e => by cases e)).trans (KeepsFrom.of_grownBy hg6 (fun j e => by injection e with e; omega))
        have hD6 : ∀ D ∈ Ds, w6.heap[D]? = some (.deferred (some [])) := fun D hD => by
          have h0 := b5 D hD
          have h1 := HD.out.2 D hD
          exact (k1.block D (Array.getElem?_eq_some_iff.1 h0).1 (by omega)).trans h0
        have HR := Lib.hid (And.intro hR6 (And.intro f1 (And.intro f2 (And.intro k1 (And.intro k2 (And.intro kf hD6))))))
        clear hR6 f1 f2 k1 k2 kf hD6 hB6 hB5 hb5 hgb
        go_wp2
        refine ⟨HR.out.2.2.2.2.2.1 _ (by omega), kpP_of_keeps HR.out.2.2.2.1 (by omega), ⟨⟨HR.out.2.1, HR.out.2.2.1⟩, ?_⟩, HR.out.2.2.2.2.1, HR.out.2.2.2.2.2.2⟩
        have := HR.out.1
        simpa using this
      case done =>
        rintro D ys W' hD hys ⟨⟨⟨b1, b2⟩, b3⟩, b4, b5⟩ hKD
        have hcj : (Gr.ck B N k).set k (Gr.cj B xs (ys.map (·.1))) = Gr.ck B N (k + 1) := by
          have hxD := HV.out.2.2.1
          rw [← Gr.ck_step]
          congr 1
          unfold Gr.core1
          rw [hxD]
          congr 1
        rw [hcj] at b3
        have hbD : Below gC w2 W' := hb2.trans (b4.below (by omega) (fun i hi => by omega))
        have HDD := HD.out
        gi_wp2
        refine ⟨⟨k + 1, D :: Ds, _, _, _, _, _, _, _, _, _, _, _, _, _, by omega, ⟨b3, b1⟩, hbD, ⟨List.nodup_cons.2 ⟨fun h => by have := hDlt D h; omega, HDD.1⟩, fun D' hD' => ?_⟩, rfl⟩, ?_⟩
        · rcases List.mem_cons.1 hD' with rfl | h
          · exact ⟨by omega, hKD⟩
          · exact ⟨(HDD.2 D' h).1, b5 D' h⟩
        · simp [intOf]
          omega
      case stop =>
        rintro D c pre W' hD _ hF hK
        exact hF.elim
    · obtain rfl : k = N := by omega
      have hcw : Gr.ck B k k = Gr.coreW B := by
        have := Gr.ck_all B
        rw [HBL.out] at this
        exact this
      rw [hcw] at hR
      have hcl : (Gr.coreW B).length = k := by rw [Gr.coreW_length, HBL.out]
      have hsw : SlW W (.slice (some ⟨gC, 0, none⟩) k k) (Gr.coreW B) := by
        have := hR.slW (by rw [hcl]; unfold maxLen; omega)
        rw [hcl] at this
        exact this
      have hbw : Below w.heap.size w W := hb02.trans (hbW.mono (by have := hb02.size; have := HGC.out.1; omega))
      have hTW : Tab W := HT.out.later HT.out.lt hbw
      have hed := fun w' (hb : Below W.heap.size W w') => edges_any k (Gr.coreW B) w' _ (hsw.below hb) (Gr.coreW_gs HB.out) hN (by rw [hcl]; exact hN) (hTW.later hTW.lt hb)
      rw [← HES.out] at hed
      have hQ0 : W.cell? ⟨w.heap.size, 0, none⟩ = some (.int .i64 (k : Int)) := (hbW.cell (p := ⟨w.heap.size, 0, none⟩) (by show w.heap.size < gC; omega)).trans c0
      have hpc := hpC.cell
      have yW : Blk W (w.heap.size + 1) 72 [.int .i64 0, .slice none 0 0] := (hbW.block _ (by omega)).trans y2
      have keepS : ∀ w', Below W.heap.size W w' → (Below W.heap.size W w' ∧ w'.cell? ⟨w.heap.size, 0, none⟩ = some (.int .i64 (k : Int)) ∧ w'.cell? ⟨gC + 1, 0, none⟩ = some (.slice (some ⟨gC, 0, none⟩) k k)) := fun w' hb => ⟨hb, (hb.cell (World.block_lt_of_cell? W _ hQ0)).trans hQ0, (hb.cell (World.block_lt_of_cell? W _ hpc)).trans hpc⟩
      have hS0 := keepS _ (below_drew (Below.refl _ _))
      have HH := Lib.hid (And.intro yW (And.intro hbw (And.intro hDs hbW)))
      obtain ⟨q, hq⟩ : ∃ q, q = w.heap.size := ⟨_, rfl⟩
      have hlq : q + 1 < gC := by omega
      have HQ := Lib.hid hq
      clear hR hcw hcl hsw hTW hQ0 hpc hDs yW hbW hbw hpC hv2 c0 cB x2 y2 hb02 hlt
      rw [← hq] at keepS hS0 ⊢
      clear hq hlt2
      gi_wp2_with fail
      go_wp2_with fail
      refine wp_walk_tail 5 (by kernel_rfl) (by kernel_rfl) (fun w w' => Below w.heap.size w w') (fun w' => (Below W.heap.size W w' ∧ w'.cell? ⟨q, 0, none⟩ = some (.int .i64 (k : Int)) ∧ w'.cell? ⟨gC + 1, 0, none⟩ = some (.slice (some ⟨gC, 0, none⟩) k k))) hS0 ?_
      simp only [List.length_cons, List.length_nil, Nat.reduceAdd, Nat.reduceSub, List.take_succ_cons, List.take_zero, List.drop_succ_cons, List.drop_zero]
      repeat (first | (refine settle_skip (fun _ => by rfl) ?_; (simp only [Act.put, List.setIfInBounds_toArray, List.set_cons_zero, List.set_cons_succ])) | (refine' settle_run (fun _ _ => Below.refl _ _) (fun _ => by rfl) ?_ ?_; rotate_left; (focus (intro ρ w hS hF; (try dsimp only at hS); go_split_ands; go_simp; try with_reducible rfl)); (simp only [Act.put, List.setIfInBounds_toArray, List.set_cons_zero, List.set_cons_succ])))
      (refine settle_known (FSlE W.heap.size es) (by rfl) (fun _ => by rfl)  ?_ ?_; (focus (intro ρ w hS hF K hK; (simp only [Act.put, List.setIfInBounds_toArray, List.set_cons_zero, List.set_cons_succ] at hK); go_simp; (refine (hed _ hS.1).mono ?_; rintro e w' ⟨u, rfl, ⟨h1, h2⟩, hb'⟩; exact hK _ _ ⟨h1, h2.mono hS.1.size⟩ (keepS _ (below_next hb' hS.1)) hb'))); (simp only [Act.put, List.setIfInBounds_toArray, List.set_cons_zero, List.set_cons_succ]))
      (refine settle_known (FG W.heap.size k es) (by rfl) (fun _ => by rfl)  ?_ ?_; (focus (intro ρ w hS hF K hK; (simp only [Act.put, List.setIfInBounds_toArray, List.set_cons_zero, List.set_cons_succ] at hK); go_simp; (have h18 : SlV w 2 (ρ 52) es.length (edcs es) ∧ New W.heap.size (ρ 52) := hF.1 (by rfl); generalize ρ 52 = v18 at h18 hK ⊢; obtain ⟨A18, c18, rfl⟩ := h18.1.form; go_simp; exact hK _ _ ⟨_, rfl, h18⟩ hS (Below.refl _ _)))); (simp only [Act.put, List.setIfInBounds_toArray, List.set_cons_zero, List.set_cons_succ]))
      refine settle_nil ?_
      intro ρ wE hS hF
      obtain ⟨u, hu1, hu2, hu3⟩ := hF 53 (FG W.heap.size k es) (by repeat (first | exact List.mem_cons_self | apply List.mem_cons_of_mem))
      clear hF hS0 keepS hed
      dsimp only
      rw [hu1]
      generalize ρ 52 = v18
      have yE := HH.out.1.below hS.1
      rw [← HQ.out] at yE
      obtain ⟨A18, c18, rfl⟩ := hu2.form
      refine wpl_put_blk yE [.int .i64 (k : Int), .slice A18 es.length c18] (by kernel_rfl) rfl (by intro v hv; simp at hv; rcases hv with rfl | rfl <;> rfl) rfl rfl rfl rfl ?_
      intro w6 hB6 hg6
      have kk : Keeps (fun k => k = q + 1) wE w6 := (Keeps.of_grown hg6).mono fun i hi => by injection hi
      have hwE : Below w.heap.size w wE := below_next hS.1 HH.out.2.1
      have hb6 : Below w.heap.size w w6 := hwE.trans (kk.below hwE.size (fun i hi => by have := HQ.out; omega))
      have hfin := hu2.other kk (fun p hp _ => by have := hu3 p hp; omega)
      have hD6 : ∀ D ∈ Ds, gC + 2 ≤ D ∧ w6.heap[D]? = some (.deferred (some [])) := fun D hD => by
        have h0 := HH.out.2.2.1.2 D hD
        have hl0 := (Array.getElem?_eq_some_iff.1 h0.2).1
        exact ⟨h0.1, (kk.block D (by have := hS.1.size; omega) (by omega)).trans ((hS.1.block D hl0).trans h0.2)⟩
      have HE := Lib.hid (And.intro hfin (And.intro hb6 (And.intro hB6 hD6)))
      clear hfin hb6 hwE kk hg6 yE hu2 hu3 hS hB6 hD6
      go_wp2_with fail
      refine leaves_marks (gC + 2) (fun W => Blk W (q + 1) 72 [.int .i64 (k : Int), .slice A18 es.length c18] ∧ SlV W 2 (.slice A18 es.length c18) es.length (edcs es) ∧ Below w.heap.size w W) (fun W D hD hT hd => ?_) (fun W hT => ?_) Ds w6 HH.out.2.2.1.1 HE.out.2.2.2 ⟨HE.out.2.2.1, HE.out.1, HE.out.2.1⟩
      · have hg := grownBy_putObj' W D (.deferred none)
        have hlD := (Array.getElem?_eq_some_iff.1 hd).1
        exact ⟨(hg.block _ hT.1.lt (fun e => by injection e with e; omega)).trans hT.1, hT.2.1.kept hg (fun r e => by injection e with e; subst e; exact ⟨_, hd, rfl⟩), hT.2.2.grown hg hT.2.2.size (fun i e => by injection e with e; have := HQ.out; have := HGC.out; omega)⟩
      · exact ⟨_, results_cell_tmp rfl _ _ (q + 1) _ _ (0, 0) _ rfl hT.1 Tryd.underlying72 rfl (by kernel_rfl), _, rfl, ⟨_, rfl, hT.2.1⟩, hT.2.2⟩
end Go.Proofs.YtkjmddgnfgbioaaDoor


namespace Go.Proofs.YtkjmddgnfgbioaaDoor
set_option linter.unusedVariables false
set_option linter.unusedSimpArgs false
set_option maxRecDepth 100000
open Go.RowKit

set_option maxHeartbeats 4000000 in
theorem closure_no (R : Int) (hR : R ≠ 0) (w : World) (A : Option Addr) (l c : Nat) (n : Int)
    (hs : ∀ w', Below w.heap.size w w' → Calls Tryd.prog 84 #[.agg #[.int .i64 n, .slice A l c]] w' fun e w'' => ∃ v, e = .returned (.tuple #[v, .int .i64 R]) ∧ v = .slice none 0 0 ∧ Below w'.heap.size w' w'') :
    Calls Tryd.prog 47 #[.agg #[.int .i64 n, .slice A l c]] w fun e w' => e = .returned (.tuple #[.agg #[.int .i64 0, .slice none 0 0], .int .i64 R]) ∧ Below w.heap.size w w' := by
  have hba : Below w.heap.size w ((w.alloc (.cells #[.int .i64 n, .slice A l c] 72)).alloc (.cells #[.int .i64 0, .slice none 0 0] 72)) := below_alloc (below_alloc (Below.refl _ _) _) _
  have x0 := (Blk.new w 72 [.int .i64 n, .slice A l c]).alloc (.cells #[.int .i64 0, .slice none 0 0] 72)
  have y0 := Blk.new (w.alloc (.cells #[.int .i64 n, .slice A l c] 72)) 72 [.int .i64 0, .slice none 0 0]
  simp only [World.size_alloc] at y0
  have g0 : (R != 0) = true := by simpa using hR
  have HR := Lib.hid hR
  clear hR
  go_enter Tryd.func47, Tryd.ntmps47
  go_upto_region 1 with (fail)
  generalize (w.alloc (.cells #[.int .i64 n, .slice A l c] 72)).alloc (.cells #[.int .i64 0, .slice none 0 0] 72) = W0 at x0 y0 hba ⊢
  have d0 : W0.cell? ⟨w.heap.size, 0, none⟩ = some (.int .i64 n) := (x0.cell 0).trans rfl
  have d1 : W0.cell? ⟨w.heap.size, 1, none⟩ = some (.slice A l c) := (x0.cell 1).trans rfl
  go_wp2_with fail
  refine (hs W0 hba).mono ?_
  rintro e w1 ⟨v, rfl, rfl, hb1⟩
  have y1 := y0.below hb1
  have hb01 := below_next hb1 hba
  clear d0 d1 x0 y0 hs hb1 hba
  go_wp2_with (refine wpl_put_blk y1 [.int .i64 0, .slice none 0 0] (by kernel_rfl) rfl (by intro v hv; simp at hv; rcases hv with rfl | rfl <;> rfl) rfl rfl rfl rfl ?_; intro w6 hB6 hg6)
  have hb6 : Below w.heap.size w w6 := hb01.trans (below_of_grown hg6 hb01.size (by omega))
  refine ret_blk2 hB6 rfl rfl Tryd.underlying72 rfl (by kernel_rfl) rfl ?_
  exact ⟨rfl, hb6⟩

set_option maxHeartbeats 4000000 in
theorem core_no (R : Int) (hR : R ≠ 0) (w : World) (A : Option Addr) (l c : Nat) (n : Int)
    (hs : ∀ w', Below w.heap.size w w' → Calls Tryd.prog 84 #[.agg #[.int .i64 n, .slice A l c]] w' fun e w'' => ∃ v, e = .returned (.tuple #[v, .int .i64 R]) ∧ v = .slice none 0 0 ∧ Below w'.heap.size w' w'') :
    Calls Tryd.prog 49 #[.agg #[.int .i64 n, .slice A l c]] w fun e w' => e = .returned (.tuple #[.agg #[.int .i64 0, .slice none 0 0], .int .i64 R]) ∧ Below w.heap.size w w' := by
  have hba : Below w.heap.size w ((w.alloc (.cells #[.int .i64 n, .slice A l c] 72)).alloc (.cells #[.int .i64 0, .slice none 0 0] 72)) := below_alloc (below_alloc (Below.refl _ _) _) _
  have x0 := (Blk.new w 72 [.int .i64 n, .slice A l c]).alloc (.cells #[.int .i64 0, .slice none 0 0] 72)
  have y0 := Blk.new (w.alloc (.cells #[.int .i64 n, .slice A l c] 72)) 72 [.int .i64 0, .slice none 0 0]
  simp only [World.size_alloc] at y0
  have g0 : (R != 0) = true := by simpa using hR
  have HR := Lib.hid hR
  clear hR
  go_enter Tryd.func49, Tryd.ntmps49
  go_upto_region 1 with (fail)
  generalize (w.alloc (.cells #[.int .i64 n, .slice A l c] 72)).alloc (.cells #[.int .i64 0, .slice none 0 0] 72) = W0 at x0 y0 hba ⊢
  have d0 : W0.cell? ⟨w.heap.size, 0, none⟩ = some (.int .i64 n) := (x0.cell 0).trans rfl
  have d1 : W0.cell? ⟨w.heap.size, 1, none⟩ = some (.slice A l c) := (x0.cell 1).trans rfl
  go_wp2_with fail
  refine (hs W0 hba).mono ?_
  rintro e w1 ⟨v, rfl, rfl, hb1⟩
  have y1 := (y0.below hb1).alloc (.cells #[.slice none 0 0] 103)
  have hb01 := below_alloc (below_next hb1 hba) (.cells #[.slice none 0 0] 103)
  clear d0 d1 x0 y0 hs hb1 hba
  go_wp2_with (refine wpl_put_blk y1 [.int .i64 0, .slice none 0 0] (by kernel_rfl) rfl (by intro v hv; simp at hv; rcases hv with rfl | rfl <;> rfl) rfl rfl rfl rfl ?_; intro w6 hB6 hg6)
  have hb6 : Below w.heap.size w w6 := hb01.trans (below_of_grown hg6 hb01.size (by omega))
  refine ret_blk2 hB6 rfl rfl Tryd.underlying72 rfl (by kernel_rfl) rfl ?_
  exact ⟨rfl, hb6⟩

theorem behind_calls (n : Int) (es : List Gr.Er) (w : World) (A : Option Addr) (c : Nat) (hA : SlV w 2 (.slice A es.length c) es.length (ercs es)) (hle : es.length ≤ 1099511627776) (hT : Tab w) :
    ∀ w', Below w.heap.size w w' → Calls Tryd.prog 84 #[.agg #[.int .i64 n, .slice A es.length c]] w' fun e w'' => ∃ v, e = .returned (.tuple #[v, .int .i64 (Gr.wrong n es)]) ∧ (Gr.wrong n es ≠ 0 → v = .slice none 0 0) ∧ (Gr.wrong n es = 0 → SlW w'' v (Gr.behW n.toNat (Gr.nat es))) ∧ Below w'.heap.size w' w'' :=
  fun w' hb => behind_any n es w' A c (hA.below hb) hle (hT.later hT.lt hb)

theorem closure_any (n : Int) (es : List Gr.Er) (w : World) (A : Option Addr) (c : Nat) (hA : SlV w 2 (.slice A es.length c) es.length (ercs es)) (hle : es.length ≤ 1099511627776) (hT : Tab w) :
    Calls Tryd.prog 47 #[.agg #[.int .i64 n, .slice A es.length c]] w fun e w' => ∃ g, e = .returned (.tuple #[g, .int .i64 (Gr.wrong n es)]) ∧ (Gr.wrong n es ≠ 0 → g = .agg #[.int .i64 0, .slice none 0 0]) ∧ (Gr.wrong n es = 0 → IsG n.toNat (Gr.edW (Gr.behW n.toNat (Gr.nat es))) g w') ∧ Below w.heap.size w w' := by
  have hs := behind_calls n es w A c hA hle hT
  by_cases h0 : Gr.wrong n es = 0
  · obtain ⟨hok, N, rfl, hN, hes, hln, hl⟩ := Gr.wrong_zero h0
    rw [Int.toNat_natCast] at hs ⊢
    refine (closure_yes N (Gr.behW N (Gr.nat es)) w A es.length c hN (Gr.behW_length _ _) (Gr.behW_gs fun e he => (hes e he).2) hT fun w' hb => (hs w' hb).mono ?_).mono ?_
    · rintro e w'' ⟨v, rfl, -, h2, h3⟩
      exact ⟨v, by rw [h0], h2 h0, h3⟩
    · rintro e w' ⟨g, rfl, h1, h2⟩
      exact ⟨g, by rw [h0], fun h => absurd h0 h, fun _ => h1, h2⟩
  · refine (closure_no (Gr.wrong n es) h0 w A es.length c n fun w' hb => (hs w' hb).mono ?_).mono ?_
    · rintro e w'' ⟨v, rfl, h1, -, h3⟩
      exact ⟨v, rfl, h1 h0, h3⟩
    · rintro e w' ⟨rfl, h2⟩
      exact ⟨_, rfl, fun _ => rfl, fun h => absurd h h0, h2⟩
theorem core_any (n : Int) (es : List Gr.Er) (w : World) (A : Option Addr) (c : Nat) (hA : SlV w 2 (.slice A es.length c) es.length (ercs es)) (hle : es.length ≤ 1099511627776) (hT : Tab w) :
    Calls Tryd.prog 49 #[.agg #[.int .i64 n, .slice A es.length c]] w fun e w' => ∃ g, e = .returned (.tuple #[g, .int .i64 (Gr.wrong n es)]) ∧ (Gr.wrong n es ≠ 0 → g = .agg #[.int .i64 0, .slice none 0 0]) ∧ (Gr.wrong n es = 0 → IsG n.toNat (Gr.edW (Gr.coreW (Gr.behW n.toNat (Gr.nat es)))) g w') ∧ Below w.heap.size w w' := by
  have hs := behind_calls n es w A c hA hle hT
  by_cases h0 : Gr.wrong n es = 0
  · obtain ⟨hok, N, rfl, hN, hes, hln, hl⟩ := Gr.wrong_zero h0
    rw [Int.toNat_natCast] at hs ⊢
    refine (core_yes N (Gr.behW N (Gr.nat es)) w A es.length c hN (Gr.behW_length _ _) (Gr.behW_gs fun e he => (hes e he).2) hT fun w' hb => (hs w' hb).mono ?_).mono ?_
    · rintro e w'' ⟨v, rfl, -, h2, h3⟩
      exact ⟨v, by rw [h0], h2 h0, h3⟩
    · rintro e w' ⟨g, rfl, h1, h2⟩
      exact ⟨g, by rw [h0], fun h => absurd h0 h, fun _ => h1, h2⟩
  · refine (core_no (Gr.wrong n es) h0 w A es.length c n fun w' hb => (hs w' hb).mono ?_).mono ?_
    · rintro e w'' ⟨v, rfl, h1, -, h3⟩
      exact ⟨v, rfl, h1 h0, h3⟩
    · rintro e w' ⟨rfl, h2⟩
      exact ⟨_, rfl, fun _ => rfl, fun h => absurd h h0, h2⟩
end Go.Proofs.YtkjmddgnfgbioaaDoor


namespace Go.Proofs.YtkjmddgnfgbioaaDoor.Gr
set_option linter.unusedVariables false
set_option linter.unusedSimpArgs false
set_option maxRecDepth 100000
open Bs
def aEs : List Er := [(2, 0), (0, 1), (2, 1)]
theorem a_take : take 3 (nat aEs) = [2, 0, 1] := by decide +kernel
theorem a_wrong : wrong 3 aEs = 0 := by decide +kernel
theorem a_loop : wrong 1 [(0, 0)] = 3 := by decide +kernel
theorem a_beh : behW 3 (nat aEs) = [[2], [], [3]] := by decide +kernel
theorem a_core : (edW (coreW (behW 3 (nat aEs)))).length = 2 := by
  rw [a_beh]
  decide +kernel
end Go.Proofs.YtkjmddgnfgbioaaDoor.Gr
