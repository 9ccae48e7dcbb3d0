/-
  order.Levels, whatever the graph; order.Height.
-/
import Derived.Test.YtpimcghmpbbckaaDoorGyP3
import Derived.Lib.Hide
import Derived.Test.YtpimcghmpbbckaaDoorGyP4

namespace Go.Proofs.YtpimcghmpbbckaaDoor
set_option linter.unusedVariables false
set_option linter.unusedSimpArgs false
set_option maxRecDepth 100000
open Go.RowKit

set_option maxHeartbeats 4000000 in
theorem sort_any (n : Int) (es : List Gr.Er) (w : World) (A : Option Addr) (c : Nat) (hA : SlV w 2 (.slice A es.length c) es.length (ercs es)) (hle : es.length ≤ 1099511627776) (hT : Tab w) :
    Calls Tryd.prog 25 #[.agg #[.int .i64 n, .slice A es.length c]] w fun e w' => ∃ v, e = .returned (.tuple #[v, .int .i64 (Gr.wrong n es)]) ∧ (Gr.wrong n es ≠ 0 → v = .slice none 0 0) ∧ (Gr.wrong n es = 0 → w'.ownsRow w.heap.size 3 1 v (Gr.take n.toNat (Gr.nat es)).length (ilist (Gr.take n.toNat (Gr.nat es)))) ∧ Below w.heap.size w w' := by
  have x0 := Blk.new w 24 [.int .i64 n, .slice A es.length c]
  have hb0 : Below w.heap.size w (w.alloc (.cells #[.int .i64 n, .slice A es.length c] 24)) := below_alloc (Below.refl _ _) _
  have hTb : ∀ w', Below w.heap.size w w' → Tab w' := fun w' hb j hj => (hb.cell (p := ⟨0, j, none⟩) hT.lt).trans (hT j hj)
  have hwr : ∀ w', Below w.heap.size w w' → Calls Tryd.prog 14 #[.agg #[.int .i64 n, .slice A es.length c]] w' fun e w'' => e = .returned (.int .i64 (Gr.wrong n es)) ∧ Below w'.heap.size w' w'' := fun w' hb => wrong_any n es w' A c (hA.below hb) hle (hTb w' hb)
  have htk : Gr.wrong n es = 0 → ∀ w', Below w.heap.size w w' → Calls Tryd.prog 38 #[.agg #[.int .i64 n, .slice A es.length c]] w' fun e w'' => ∃ u, e = .returned u ∧ w''.ownsRow w'.heap.size 3 1 u (Gr.take n.toNat (Gr.nat es)).length (ilist (Gr.take n.toNat (Gr.nat es))) ∧ Below w'.heap.size w' w'' := fun h0 w' hb => by
    have hok : Gr.okG n es = true := by
      cases h : Gr.okG n es with
      | true => rfl
      | false =>
        unfold Gr.wrong at h0
        rw [h] at h0
        cases h0
    obtain ⟨N, rfl, hN, hes, hln, -⟩ := Gr.nat_ok hok
    have h4 := hA.below hb
    rw [ercs_nat hok, ← hln] at h4
    have := take_any N (Gr.nat es) w' A c hN hes h4 (by omega) (hTb w' hb)
    rw [hln] at this
    exact this
  obtain ⟨R, hR⟩ : ∃ R, R = Gr.wrong n es := ⟨_, rfl⟩
  rw [← hR] at hwr htk ⊢
  generalize Gr.take n.toNat (Gr.nat es) = L at htk ⊢
  clear hR hA hTb hT
  go_enter Tryd.func25, Tryd.ntmps25
  go_upto_region 1 with (fail)
  generalize (w.alloc (.cells #[.int .i64 n, .slice A es.length c] 24)) = W0 at x0 hb0 ⊢
  have d0 : W0.cell? ⟨w.heap.size, 0, none⟩ = some (.int .i64 n) := (x0.cell 0).trans rfl
  have d1 : W0.cell? ⟨w.heap.size, 1, none⟩ = some (.slice A es.length c) := (x0.cell 1).trans rfl
  go_wp2_with fail
  refine (hwr W0 hb0).mono ?_
  rintro e w1 ⟨rfl, hb1⟩
  have x1 := x0.below hb1
  have c0 : w1.cell? ⟨w.heap.size, 0, none⟩ = some (.int .i64 n) := (x1.cell 0).trans rfl
  have c1 : w1.cell? ⟨w.heap.size, 1, none⟩ = some (.slice A es.length c) := (x1.cell 1).trans rfl
  have hb01 := below_next hb1 hb0
  clear d0 d1 x0 x1 hwr hb1 hb0
  by_cases h0 : R = 0
  · have hk := htk h0 w1 hb01
    subst h0
    clear htk
    have HB := Lib.hid hb01
    clear hb01
    go_wp2_with fail
    refine hk.mono ?_
    rintro e w2 ⟨u, rfl, ho, hb2⟩
    obtain ⟨A', c', rfl, -, -⟩ := own_slice ho
    have HE := Lib.hid (And.intro (own_base ho HB.out.size) (below_next hb2 HB.out))
    clear ho hb2 hk c0 c1
    go_wp2_with fail
    go_ret2
    exact ⟨_, rfl, HE.out.1, HE.out.2⟩
  · have g0 : (R != 0) = true := by simpa using h0
    have HE := Lib.hid (And.intro h0 hb01)
    clear htk h0 hb01 c0 c1
    go_wp2_with fail
    go_ret2
    exact ⟨_, rfl, fun _ => rfl, fun h => absurd h HE.out.1, HE.out.2⟩
end Go.Proofs.YtpimcghmpbbckaaDoor


namespace Go.Proofs.YtpimcghmpbbckaaDoor
set_option linter.unusedVariables false
set_option linter.unusedSimpArgs false
set_option maxRecDepth 100000

def rv (l : List Int) (k : Nat) : List Int := (List.range l.length).map fun i => if i < k ∨ l.length ≤ i + k then l.getD (l.length - 1 - i) 0 else l.getD i 0
theorem rv_length (l : List Int) (k : Nat) : (rv l k).length = l.length := by simp [rv]
theorem rv_get (l : List Int) (k i : Nat) (h : i < l.length) : (rv l k)[i]? = some (if i < k ∨ l.length ≤ i + k then l.getD (l.length - 1 - i) 0 else l.getD i 0) := by
  unfold rv
  rw [List.getElem?_map, List.getElem?_range h]
  rfl
theorem rv_zero (l : List Int) : rv l 0 = l := by
  apply List.ext_getElem?
  intro i
  by_cases h : i < l.length
  · rw [rv_get l 0 i h, if_neg (by omega), List.getD_eq_getElem?_getD, List.getElem?_eq_getElem h]
    rfl
  · rw [List.getElem?_eq_none (by rw [rv_length]; omega), List.getElem?_eq_none (by omega)]
theorem rv_step (l : List Int) (k : Nat) (h : 2 * k + 1 < l.length) : rv l (k + 1) = ((rv l k).set k (l.getD (l.length - 1 - k) 0)).set (l.length - 1 - k) (l.getD k 0) := by
  apply List.ext_getElem?
  intro i
  by_cases hi : i < l.length
  · rw [rv_get l (k + 1) i hi, List.getElem?_set, List.getElem?_set]
    by_cases e1 : l.length - 1 - k = i
    · subst e1
      rw [if_pos rfl, if_pos (by omega), if_pos (by rw [List.length_set, rv_length]; omega), show l.length - 1 - (l.length - 1 - k) = k by omega]
    · rw [if_neg e1]
      by_cases e2 : k = i
      · subst e2
        rw [if_pos rfl, if_pos (by omega), if_pos (by rw [rv_length]; omega)]
      · rw [if_neg e2, rv_get l k i hi]
        by_cases h1 : i < k ∨ l.length ≤ i + k
        · rw [if_pos h1, if_pos (by omega)]
        · rw [if_neg h1, if_neg (by omega)]
  · rw [List.getElem?_eq_none (by rw [rv_length]; omega), List.getElem?_eq_none (by rw [List.length_set, List.length_set, rv_length]; omega)]
theorem rv_end (l : List Int) (k : Nat) (h : l.length ≤ 2 * k + 1) : rv l k = l.reverse := by
  apply List.ext_getElem?
  intro i
  by_cases hi : i < l.length
  · rw [rv_get l k i hi, List.getElem?_reverse hi, List.getElem?_eq_getElem (by omega)]
    by_cases h1 : i < k ∨ l.length ≤ i + k
    · rw [if_pos h1, List.getD_eq_getElem?_getD, List.getElem?_eq_getElem (by omega)]
      rfl
    · have : i = l.length - 1 - i := by omega
      rw [if_neg h1, List.getD_eq_getElem?_getD, List.getElem?_eq_getElem hi]
      simp only [Option.getD_some]
      congr 1
      congr 1
  · rw [List.getElem?_eq_none (by rw [rv_length]; omega), List.getElem?_eq_none (by simp; omega)]
end Go.Proofs.YtpimcghmpbbckaaDoor


namespace Go.Proofs.YtpimcghmpbbckaaDoor
set_option linter.unusedVariables false
set_option linter.unusedSimpArgs false
set_option maxRecDepth 100000
open Go.RowKit

set_option maxHeartbeats 2000000 in
theorem reverse_any (w : World) (B g c : Nat) (l : List Int) (h : w.ownsRow B 3 1 (.slice (some ⟨g, 0, none⟩) l.length c) l.length (ints .i64 l)) (hl : l.length ≤ 1099511627776) :
    Calls Tryd.prog 58 #[.slice (some ⟨g, 0, none⟩) l.length c] w fun e w' => (∃ v, e = .returned v) ∧ w'.ownsRow B 3 1 (.slice (some ⟨g, 0, none⟩) l.length c) l.length (ints .i64 l.reverse) ∧ w.grownBy w' (some g) := by
  have H := Lib.hid h
  clear h
  go_enter Tryd.func58, Tryd.ntmps58
  go_wp2_with fail
  go_loopw [2, 3] (fun i j wr => ∃ k : Nat, 2 * k ≤ l.length + 1 ∧ i = .int .i64 (k : Int) ∧ j = .int .i64 ((l.length : Int) - 1 - k) ∧ wr.ownsRow B 3 1 (.slice (some ⟨g, 0, none⟩) l.length c) l.length (ints .i64 (rv l k)) ∧ w.grownBy wr (some g)) (fun i _ _ => l.length - (intOf i).toNat)
  case atStart => exact ⟨0, by omega, rfl, by simp, by rw [rv_zero]; exact H.out, World.grownBy.refl w _⟩
  case round =>
    obtain ⟨k, hk, rfl, rfl, hr, hg⟩ := hrel
    by_cases hlt : 2 * k + 1 < l.length
    · obtain ⟨m, hm⟩ : ∃ m : Nat, m = l.length - 1 - k := ⟨_, rfl⟩
      have hmi : (l.length : Int) - 1 - k = (m : Int) := by omega
      rw [hmi]
      have hkm : k < m := by omega
      have hml : m < l.length := by omega
      obtain ⟨a, ha⟩ : ∃ a, a = l.getD k 0 := ⟨_, rfl⟩
      obtain ⟨b, hb⟩ : ∃ b, b = l.getD m 0 := ⟨_, rfl⟩
      have c0 := own_cell hr (j := k) (u := .int .i64 a) (by
        show (List.map _ _)[k]? = _
        rw [List.getElem?_map, rv_get l k k (by omega), if_neg (by omega), ha]
        rfl)
      have c1 := own_cell hr (j := m) (u := .int .i64 b) (by
        show (List.map _ _)[m]? = _
        rw [List.getElem?_map, rv_get l k m hml, if_neg (by omega), hb]
        rfl)
      have f0 := row_frozen hr k
      have f1 := row_frozen hr m
      have hst := rv_step l k (by omega)
      rw [← hm, ← ha, ← hb] at hst
      have HH := Lib.hid (And.intro hr (And.intro hg (And.intro hst (And.intro hmi hm))))
      have hlen : l.length = m + k + 1 := by omega
      clear hr hg hst hmi hm ha hb
      go_wp2_with fail
      go_region
      have hrow : ((wr.setCell ⟨g, k, none⟩ (.int .i64 b)).setCell ⟨g, m, none⟩ (.int .i64 a)).drew.ownsRow B 3 1 (.slice (some ⟨g, 0, none⟩) l.length c) l.length (ints .i64 (rv l (k + 1))) := by
        rw [HH.out.2.2.1, ints_set, ints_set]
        exact row_set (row_set HH.out.1 k (.int .i64 b)) m (.int .i64 a)
      have hgr : w.grownBy ((wr.setCell ⟨g, k, none⟩ (.int .i64 b)).setCell ⟨g, m, none⟩ (.int .i64 a)).drew (some g) := grown_trans HH.out.2.1 (grown_trans (grown_setCell wr g k _) (grown_trans (grown_setCell _ g m _) (grown_drew _ _)))
      generalize ((wr.setCell ⟨g, k, none⟩ (.int .i64 b)).setCell ⟨g, m, none⟩ (.int .i64 a)).drew = wN at hrow hgr ⊢
      have HN := Lib.hid (And.intro hrow hgr)
      clear hrow hgr c0 c1 f0 f1
      go_wp2_with fail
      go_roundw
      case rel => exact ⟨k + 1, by omega, by go_num, by congr 1; have := HH.out.2.2.2.1; omega, HN.out.1, HN.out.2⟩
      case measure => simp [intOf]; omega
    · have e := rv_end l k (by omega)
      rw [e] at hr
      have HR := Lib.hid (And.intro hr hg)
      clear hr hg e
      have hlt' : decide ((k : Int) < (l.length : Int) - 1 - k) = false := by simp; omega
      go_wp2_with fail
      go_end0
      exact ⟨⟨_, rfl⟩, HR.out⟩
end Go.Proofs.YtpimcghmpbbckaaDoor


namespace Go.Proofs.YtpimcghmpbbckaaDoor.Gr
set_option linter.unusedVariables false
set_option linter.unusedSimpArgs false
set_option maxRecDepth 100000
open Bs
theorem behL_snoc {S : Type} (em : S) (un : S → Nat → S → S) (es : List Ed) : ∀ (l : List Nat) (n : Nat) (B : List S), behL em un es (l ++ [n]) B = (behL em un es l B).set n (beh1 em un es (behL em un es l B) n)
  | [], n, B => rfl
  | k :: l, n, B => by
    rw [List.cons_append]
    unfold behL
    exact behL_snoc em un es l n _
/-- when the first k from the end are done -/
def bk (N : Nat) (es : List Ed) (k : Nat) : List (List Nat) := behL [] un es ((take N es).reverse.take k) (List.replicate N [])
theorem bk_zero (N : Nat) (es : List Ed) : bk N es 0 = List.replicate N [] := by unfold bk; rw [List.take_zero]; rfl
theorem bk_all {N : Nat} {es : List Ed} (hl : (take N es).length = N) : bk N es N = behW N es := by
  unfold bk behW
  rw [List.take_of_length_le (by rw [List.length_reverse, hl]; exact Nat.le_refl _)]
theorem bk_length (N : Nat) (es : List Ed) (k : Nat) : (bk N es k).length = N := by unfold bk; rw [behL_length]; simp
theorem bk_gs {N : Nat} {es : List Ed} (hes : ∀ e ∈ es, e.2 < N) (k : Nat) : ∀ s ∈ bk N es k, Gs N s := behL_gs hes _ _ fun s hs => by
  rw [(List.mem_replicate.1 hs).2]
  exact Gs.nil N
/-- the set of one node, when j of those it leads to are in -/
def bs (N : Nat) (es : List Ed) (k n j : Nat) : List Nat := ((next es n).take j).foldl (fun s m => un s m ((bk N es k).getD m [])) []
theorem bs_zero (N : Nat) (es : List Ed) (k n : Nat) : bs N es k n 0 = [] := by unfold bs; rw [List.take_zero]; rfl
theorem bs_step {N : Nat} {es : List Ed} {k n j m : Nat} (hj : (next es n)[j]? = some m) : bs N es k n (j + 1) = op for_ (put (bs N es k n j) m) ((bk N es k).getD m []) := by
  unfold bs
  rw [take_snoc hj, List.foldl_append]
  rfl
theorem bk_step {N : Nat} {es : List Ed} {k n : Nat} (hk : (take N es).reverse[k]? = some n) : bk N es (k + 1) = (bk N es k).set n (bs N es k n (next es n).length) := by
  have h := take_snoc hk
  unfold bk at *
  rw [h, behL_snoc]
  unfold beh1 bs
  rw [List.take_length]
  rfl
theorem bs_gs {N : Nat} {es : List Ed} (hes : ∀ e ∈ es, e.2 < N) (k n : Nat) : ∀ j, Gs N (bs N es k n j)
  | 0 => by rw [bs_zero]; exact Gs.nil N
  | j + 1 => by
    by_cases hj : j < (next es n).length
    · rw [bs_step (List.getElem?_eq_getElem hj)]
      refine ((bs_gs hes k n j).put (hes _ (mem_next.1 (List.getElem_mem hj)))).or ?_
      by_cases hm : (next es n)[j] < (bk N es k).length
      · rw [List.getD_eq_getElem?_getD, List.getElem?_eq_getElem hm, Option.getD_some]
        exact bk_gs hes k _ (List.getElem_mem hm)
      · rw [List.getD_eq_getElem?_getD, List.getElem?_eq_none (by omega), Option.getD_none]
        exact Gs.nil N
    · have := bs_gs hes k n j
      unfold bs at *
      rw [List.take_of_length_le (by omega)] at this ⊢
      exact this
end Go.Proofs.YtpimcghmpbbckaaDoor.Gr
namespace Go.Proofs.YtpimcghmpbbckaaDoor
open Go.RowKit

theorem info_swords : (Tryd.prog.info? 80).map (fun i => (i.zero, i.size, i.bytes)) = some (some (.slice none 0 0), 1, 24) := by kernel_rfl
/-- a slice of sets, as words -/
def SlW (w : World) (v : Value) (L : List (List Nat)) : Prop := ∃ os, SlV w 1 v L.length os ∧ ∀ (i : Nat) (u : Value) (s : List Nat), os[i]? = some u → L[i]? = some s → SlU w u s
theorem SlW.below {w w' : World} {v : Value} {L : List (List Nat)} (h : SlW w v L) (hb : Below w.heap.size w w') : SlW w' v L := by
  obtain ⟨os, h1, h2⟩ := h
  exact ⟨os, h1.below hb, fun i u s hu hs => (h2 i u s hu hs).below hb⟩
def FSU (B : Nat) (s : List Nat) : Fact (fun w w' => Below w.heap.size w w') := ⟨fun v w => SlU w v s ∧ New B v, fun _ _ _ h k => ⟨h.1.below k, h.2⟩⟩
theorem own_slV {w : World} {B n : Nat} {e : TypeId} {v : Value} {xs : List Value} (h : w.ownsRow B e 1 v n xs) : SlV w 1 v n xs := by
  obtain ⟨A, c, rfl, h1, h2⟩ := own_slice h
  by_cases hn : n = 0
  · subst hn
    have : xs = [] := List.length_eq_zero_iff.1 (by have := h.1; omega)
    subst this
    exact ⟨A, c, rfl, h1, h2, rfl, 0, 0, fun e => absurd rfl e, fun j u hu => by simp at hu⟩
  · obtain ⟨g, c', e, -, -, -, h5⟩ := own_addr h (by omega)
    injection e with e1 e2 e3
    subst e1 e3
    exact ⟨_, c, rfl, h1, h2, by have := h.1; omega, g, 0, fun _ => ⟨rfl, h5⟩, fun j u hu => by rw [Nat.zero_add]; exact own_cell h hu⟩

theorem reverse_row (w : World) (B c : Nat) (A : Option Addr) (l : List Int) (h : w.ownsRow B 3 1 (.slice A l.length c) l.length (ints .i64 l)) (hl : l.length ≤ 1099511627776) :
    Calls Tryd.prog 58 #[.slice A l.length c] w fun e w' => (∃ v, e = .returned v) ∧ w'.ownsRow B 3 1 (.slice A l.length c) l.length (ints .i64 l.reverse) ∧ w.grownBy w' (Value.slice A l.length c).ownBlock := by
  rcases h.2 with ⟨h1, h2⟩ | ⟨g, cap, cur, h1, h2, h3, h4, h5, h6, h7⟩
  · injection h1 with e1 e2 e3
    subst e1 e3
    have hl0 : l = [] := List.length_eq_zero_iff.1 e2
    subst hl0
    clear e2
    go_enter Tryd.func58, Tryd.ntmps58
    go_wp2_with fail
    go_loopw [2, 3] (fun i j wr => i = .int .i64 0 ∧ j = .int .i64 (-1) ∧ w.grownBy wr none) (fun _ _ _ => 0)
    case atStart => exact ⟨rfl, rfl, World.grownBy.refl w _⟩
    case round =>
      obtain ⟨rfl, rfl, hg⟩ := hrel
      go_wp2_with fail
      go_end0
      exact ⟨⟨_, rfl⟩, World.ownsRow_nil _ _ _ _, hg⟩
  · injection h1 with e1 e2 e3
    subst e1
    exact reverse_any w B g c l h hl

theorem reverse_nat (w : World) (B c : Nat) (A : Option Addr) (l : List Nat) (h : w.ownsRow B 3 1 (.slice A l.length c) l.length (ilist l)) (hl : l.length ≤ 1099511627776) :
    Calls Tryd.prog 58 #[.slice A l.length c] w fun e w' => (∃ v, e = .returned v) ∧ w'.ownsRow B 3 1 (.slice A l.length c) l.length (ilist l.reverse) ∧ w.grownBy w' (Value.slice A l.length c).ownBlock := by
  have := reverse_row w B c A (l.map fun (x : Nat) => (x : Int)) (by rw [List.length_map]; exact h) (by rw [List.length_map]; exact hl)
  rw [List.length_map, ← List.map_reverse] at this
  exact this

/-- one row, and what each one leads to -/
def nxR (r : Rw) (vs : List Value) (L : List (List Nat)) : List Rw := r :: List.zipWith irw vs L
theorem nxR_i (r : Rw) (vs : List Value) (L : List (List Nat)) (i : Nat) (v : Value) (l : List Nat) : (nxR r vs L).set (i + 1) (irw v l) = nxR r (vs.set i v) (L.set i l) := by
  unfold nxR
  rw [List.set_cons_succ, zip_set]
theorem nxR_get (r : Rw) (vs : List Value) (L : List (List Nat)) (i : Nat) (v : Value) (l : List Nat) (hv : vs[i]? = some v) (hl : L[i]? = some l) : (nxR r vs L)[i + 1]? = some (irw v l) := by
  unfold nxR
  rw [List.getElem?_cons_succ, List.getElem?_zipWith, hv, hl]
theorem nl_nil (N : Nat) : Gr.nl N [] = List.replicate N [] := by
  apply List.ext_getElem
  · simp [Gr.nl]
  · intro i h h'; simp [Gr.nl, Gr.next]
theorem nx_start {B r : Nat} {w2 : World} {N : Nat} (r0 : Rw) (h1 : r0.at_ B w2) (hne : r0.v.ownBlock ≠ some r) (h2 : Blk w2 r 32 (List.replicate N (.slice none 0 0))) (hB : B ≤ w2.heap.size) (lo : B ≤ r) :
    Own B w2 r 32 (List.replicate N (.slice none 0 0)) (nxR r0 (List.replicate N (.slice none 0 0)) (Gr.nl N [])) := by
  have hz : List.zipWith irw (List.replicate N (.slice none 0 0)) (List.replicate N []) = List.replicate N (irw (.slice none 0 0) []) := by simp
  unfold nxR
  rw [nl_nil, hz]
  refine ⟨h2, fun s hs => ?_, fun i j s t hi hj hij => ?_, fun s hs => ?_, hB, lo⟩
  · rcases List.mem_cons.1 hs with rfl | hs
    · exact h1
    · rw [(List.mem_replicate.1 hs).2]
      exact World.ownsRow_nil _ _ _ _
  · intro k hk hk'
    cases i with
    | zero =>
      cases j with
      | zero => exact hij rfl
      | succ j =>
        rw [List.getElem?_cons_succ, List.getElem?_replicate] at hj
        split at hj
        · injection hj with hj; subst hj; simp [irw, Value.ownBlock] at hk'
        · cases hj
    | succ i =>
      rw [List.getElem?_cons_succ, List.getElem?_replicate] at hi
      split at hi
      · injection hi with hi; subst hi; simp [irw, Value.ownBlock] at hk
      · cases hi
  · rcases List.mem_cons.1 hs with rfl | hs
    · exact hne
    · rw [(List.mem_replicate.1 hs).2]
      simp [irw, Value.ownBlock]

set_option maxHeartbeats 4000000 in
theorem behind_yes (N : Nat) (es : List Gr.Ed) (w : World) (A : Option Addr) (c : Nat) (hN : N ≤ 200) (hes : ∀ e ∈ es, e.1 < N ∧ e.2 < N) (hl : (Gr.take N es).length = N) (hA : SlV w 2 (.slice A es.length c) es.length (edcs es)) (hle : es.length ≤ 1099511627776)
    (hs : ∀ w', Below w.heap.size w w' → Calls Tryd.prog 25 #[.agg #[.int .i64 (N : Int), .slice A es.length c]] w' fun e w'' => ∃ v, e = .returned (.tuple #[v, .int .i64 0]) ∧ w''.ownsRow w'.heap.size 3 1 v N (ilist (Gr.take N es)) ∧ Below w'.heap.size w' w'') :
    Calls Tryd.prog 51 #[.agg #[.int .i64 (N : Int), .slice A es.length c]] w fun e w' => ∃ v, e = .returned (.tuple #[v, .int .i64 0]) ∧ SlW w' v (Gr.behW N es) ∧ Below w.heap.size w w' := by
  have HES := Lib.hid hes
  have HL := Lib.hid hl
  have x0 := Blk.new w 24 [.int .i64 (N : Int), .slice A es.length c]
  have hb0 : Below w.heap.size w (w.alloc (.cells #[.int .i64 (N : Int), .slice A es.length c] 24)) := below_alloc (Below.refl _ _) _
  have hz0 : (w.alloc (.cells #[.int .i64 (N : Int), .slice A es.length c] 24)).heap.size = w.heap.size + 1 := by simp
  have HZ0 := Lib.hid hz0
  clear hes hl hz0
  have n47' : 24 * N ≤ 281474976710656 := by omega
  have n63 : N ≤ 9223372036854775807 := by omega
  go_enter Tryd.func51, Tryd.ntmps51
  go_upto_region 1 with (fail)
  have HZ := Lib.hid HZ0.out
  clear HZ0
  generalize (w.alloc (.cells #[.int .i64 (N : Int), .slice A es.length c] 24)) = W0 at x0 hb0 HZ ⊢
  have d0 : W0.cell? ⟨w.heap.size, 0, none⟩ = some (.int .i64 (N : Int)) := (x0.cell 0).trans rfl
  have d1 : W0.cell? ⟨w.heap.size, 1, none⟩ = some (.slice A es.length c) := (x0.cell 1).trans rfl
  go_wp2_with fail
  refine (hs W0 hb0).mono ?_
  rintro e w1 ⟨lv, rfl, ho1, hb1⟩
  obtain ⟨VB, cl, rfl, -, -⟩ := own_slice ho1
  have x1 := x0.below hb1
  have hb01 := below_next hb1 hb0
  have c0 : w1.cell? ⟨w.heap.size, 0, none⟩ = some (.int .i64 (N : Int)) := (x1.cell 0).trans rfl
  have c1 : w1.cell? ⟨w.heap.size, 1, none⟩ = some (.slice A es.length c) := (x1.cell 1).trans rfl
  clear d0 d1 x0 hs
  go_wp2_with (first | (at_make; refine wp_make _ 89 80 (.slice none 0 0) 24 N Tryd.underlying89 info_swords rfl (by omega) (by omega) n47' n63 rfl rfl rfl rfl ?_; intro w2 hown2 hb2 hs2; have x2 := x1.below hb2; have c20 : w2.cell? ⟨w.heap.size, 0, none⟩ = some (.int .i64 (N : Int)) := (x2.cell 0).trans rfl; have c21 : w2.cell? ⟨w.heap.size, 1, none⟩ = some (.slice A es.length c) := (x2.cell 1).trans rfl) | fail)
  have hrev : Calls Tryd.prog 58 #[.slice VB N cl] w2 fun e w' => (∃ v, e = .returned v) ∧ w'.ownsRow W0.heap.size 3 1 (.slice VB N cl) N (ilist (Gr.take N es).reverse) ∧ w2.grownBy w' (Value.slice VB N cl).ownBlock := by
    have h1 := own_keeps ho1 (Keeps.of_below hb2 (fun _ => False)) (fun _ _ => id)
    have hrl : (Gr.take N es).length = N := HL.out
    have h2 := reverse_nat w2 W0.heap.size cl VB (Gr.take N es) (by rw [hrl]; exact h1) (by rw [hrl]; omega)
    rw [hrl] at h2
    exact h2
  refine hrev.mono ?_
  rintro e w3 ⟨⟨rv, rfl⟩, ho3, hg3⟩
  have hlge : ∀ k, (Value.slice VB N cl).ownBlock = some k → w.heap.size + 1 ≤ k := fun k hk => by have := own_ge ho1 k hk; have := HZ.out; omega
  have hllt : ∀ k, (Value.slice VB N cl).ownBlock = some k → k < w1.heap.size := fun k hk => (ho1.lt k hk).2
  have x3 := x2.keeps (Keeps.of_grown hg3) (fun e => by have := hlge _ e.symm; omega)
  have c30 : w3.cell? ⟨w.heap.size, 0, none⟩ = some (.int .i64 (N : Int)) := (x3.cell 0).trans rfl
  have hown3 := own_keeps hown2 (Keeps.of_grown hg3) (fun k hk e => by have h1 := hllt k e.symm; have h2 : w1.heap.size = k := (by injection hk); omega)
  have hb03 : Below w.heap.size w w3 := (below_next hb2 hb01).trans ((Keeps.of_grown hg3).below (below_next hb2 hb01).size (fun k hk => by have := hlge k hk.symm; omega))
  have hsW0 := hb1.size
  have hs13 : w1.heap.size < w3.heap.size := by have := (Keeps.of_grown hg3).size; omega
  clear hown2 hg3 hrev ho1 hb01 hb2 hs2 x2 x1 c0 c1 c20 c21 hb1
  go_wp2_with (first | (at_make; refine wp_make _ 26 32 (.slice none 0 0) 24 N Tryd.underlying26 info_sint rfl (by omega) (by omega) n47' n63 rfl rfl rfl rfl ?_; intro w4 hown4 hb4 hs4; have x4 := x3.below hb4; have c40 : w4.cell? ⟨w.heap.size, 0, none⟩ = some (.int .i64 (N : Int)) := (x4.cell 0).trans rfl; have c41 : w4.cell? ⟨w.heap.size, 1, none⟩ = some (.slice A es.length c) := (x4.cell 1).trans rfl) | fail)
  have hlr : w4.ownsRow W0.heap.size 3 1 (.slice VB N cl) N (ilist (Gr.take N es).reverse) := own_keeps ho3 (Keeps.of_below hb4 (fun _ => False)) (fun _ _ => id)
  have hor := own_keeps hown3 (Keeps.of_below hb4 (fun _ => False)) (fun _ _ => id)
  have hnb := row_whole hown4
  have hb04 := below_next hb4 hb03
  have hsQ : W0.heap.size = w.heap.size + 1 := HZ.out
  have hne0 : (Value.slice (some ⟨w1.heap.size, 0, none⟩) N N).ownBlock ≠ some w3.heap.size := fun e => by
    have h2 : w1.heap.size = w3.heap.size := (by injection e)
    omega
  have hO : Own (w.heap.size + 1) w4 w3.heap.size 32 (List.replicate N (.slice none 0 0)) (nxR ⟨80, 1, .slice (some ⟨w1.heap.size, 0, none⟩) N N, N, List.replicate N (.slice none 0 0)⟩ (List.replicate N (.slice none 0 0)) (Gr.nl N [])) :=
    nx_start _ (own_base hor (by omega)) hne0 hnb (by have := hb04.size; omega) (by omega)
  have hlr' : w4.ownsRow (w.heap.size + 1) 3 1 (.slice VB N cl) N (ilist (Gr.take N es).reverse) := own_base hlr (by omega)
  have hsz : w.heap.size + 1 ≤ w1.heap.size ∧ w1.heap.size < w3.heap.size ∧ w3.heap.size < w4.heap.size := ⟨by omega, hs13, by omega⟩
  clear hlr hor hnb hne0 hown3 hown4 ho3 hb4 hs4 hb03 hsQ hsW0 hs13 x3 x4 c30 HZ hb0
  obtain ⟨gO, hgO⟩ : ∃ g, g = w1.heap.size := ⟨_, rfl⟩
  obtain ⟨gN, hgN⟩ : ∃ g, g = w3.heap.size := ⟨_, rfl⟩
  obtain ⟨Q, hQ⟩ : ∃ g, g = w.heap.size := ⟨_, rfl⟩
  have HQ := Lib.hid hQ
  simp only [← hgO, ← hgN, ← hQ] at hb04 hO hlr' hsz hlge hllt c40 c41 ⊢
  clear hgO hgN hQ
  obtain ⟨r0, hr0⟩ : ∃ r : Rw, r = ⟨80, 1, .slice (some ⟨gO, 0, none⟩) N N, N, List.replicate N (.slice none 0 0)⟩ := ⟨_, rfl⟩
  rw [← hr0] at hO
  have hOT := OwnTo.start hO
  have hkT : ∀ w', Keeps (Tw gN (nxR r0 (List.replicate N (.slice none 0 0)) (Gr.nl N []))) w4 w' → Below Q w w' := fun w' h => hb04.trans ((hO.below h).mono (by omega))
  have hTb : ∀ k, Tw gN (nxR r0 (List.replicate N (.slice none 0 0)) (Gr.nl N [])) k → gO ≤ k := fun k hk => by
    rcases hk with rfl | ⟨s, hs, hk⟩
    · exact Nat.le_of_lt hsz.2.1
    · unfold nxR at hs
      rw [nl_nil] at hs
      rcases List.mem_cons.1 hs with rfl | hs
      · rw [hr0] at hk
        have : gO = k := by injection hk
        omega
      · have hz : List.zipWith irw (List.replicate N (.slice none 0 0)) (List.replicate N []) = List.replicate N (irw (.slice none 0 0) []) := by simp
        rw [hz] at hs
        rw [(List.mem_replicate.1 hs).2] at hk
        simp [irw, Value.ownBlock] at hk
  obtain ⟨T0, hT0⟩ : ∃ T, T = Tw gN (nxR r0 (List.replicate N (.slice none 0 0)) (Gr.nl N [])) := ⟨_, rfl⟩
  rw [← hT0] at hOT hkT hTb
  have HR0 := Lib.hid hr0
  have HKT := Lib.hid hkT
  have HLR := Lib.hid (And.intro hlr' (And.intro hlge hllt))
  clear hO hT0 hr0 hkT hlr' hlge hllt hb04 c40
  go_loopw [34] (fun i wr => ∃ (k : Nat) (vs : List Value), k ≤ es.length ∧ i = .int .i64 (k : Int) ∧ vs.length = N ∧ OwnTo (Q + 1) w4 T0 wr gN 32 vs (nxR r0 vs (Gr.nl N (es.take k)))) (fun i _ => es.length - (intOf i).toNat)
  case atStart => exact ⟨0, _, Nat.zero_le _, rfl, by simp, hOT⟩
  case round =>
    obtain ⟨k, vs, hk, rfl, hvl, hOk⟩ := hrel
    have hbw := HKT.out _ hOk.kp
    by_cases hlt : k < es.length
    · obtain ⟨⟨a, b⟩, hx⟩ : ∃ x, es[k]? = some x := ⟨_, List.getElem?_eq_getElem hlt⟩
      obtain ⟨ha, hb⟩ := HES.out _ (List.mem_of_getElem? hx)
      have gx := flat_get edc 2 (fun _ => rfl) es k
      have g1 := gx 0 _ hx (by omega)
      have g2 := gx 1 _ hx (by omega)
      rw [HQ.out] at hbw
      obtain ⟨A', c', he, -, -, -, hcc⟩ := hA.below hbw
      injection he with e1 e2 e3
      subst e1 e3
      obtain ⟨g, o, rfl, hgl, hcell⟩ := hcc.at_ (fun e => by rw [show List.flatMap edc es = edcs es from rfl, e] at g1; simp [edc] at g1)
      have d0 : wr.cell? ⟨g, o + k * 2, none⟩ = some (.int .i64 (a : Int)) := (hcell _ _ g1).trans rfl
      have d1 : wr.cell? ⟨g, o + k * 2 + 1, none⟩ = some (.int .i64 (b : Int)) := by rw [Nat.add_assoc]; exact hcell _ _ g2
      have htk := Gr.take_snoc hx
      have hn1 := Gr.nl_one N (es.take k) a b
      rw [← htk] at hn1
      have hTA := hOk.later (below_alloc (Below.refl _ _) (.cells #[.int .i64 (a : Int), .int .i64 (b : Int)] 34))
      have hE := Blk.new wr 34 [.int .i64 (a : Int), .int .i64 (b : Int)]
      obtain ⟨v, hv⟩ : ∃ v, vs[a]? = some v := ⟨_, List.getElem?_eq_getElem (by omega)⟩
      have hnx : (Gr.nl N (es.take k))[a]? = some (Gr.next (es.take k) a) := Gr.map_get _ _ _ ha
      have hnl : (Gr.next (es.take k) a).length ≤ 1099511627776 := by
        have := List.length_filter_le (fun e : Gr.Ed => e.1 == a) (es.take k)
        rw [List.length_take] at this
        unfold Gr.next
        rw [List.length_map]
        omega
      obtain ⟨nx, hnxq⟩ : ∃ nx, nx = Gr.next (es.take k) a := ⟨_, rfl⟩
      rw [← hnxq] at hnx hn1 hnl
      clear hnxq
      have hvne : v.ownBlock ≠ some wr.heap.size := fun e => by
        have := ((hOk.own.row (a + 1) (nxR_get _ _ _ a v nx hv hnx)).lt _ e).2
        omega
      have HX := Lib.hid (And.intro hn1 (And.intro hv hnx))
      clear hv hnx
      have HA := Lib.hid hA
      clear hOk htk hn1 hx gx g1 g2 hcc hcell e2 hA hbw
      go_upto_region 10 with (fail)
      have hb5 : Below wr.heap.size wr (wr.alloc (.cells #[.int .i64 (a : Int), .int .i64 (b : Int)] 34)) := below_alloc (Below.refl _ _) _
      generalize (wr.alloc (.cells #[.int .i64 (a : Int), .int .i64 (b : Int)] 34)) = w6 at hTA hE hb5 ⊢
      clear d0 d1 hb5
      have hget := nxR_get r0 vs (Gr.nl N (es.take k)) a v nx HX.out.2.1 HX.out.2.2
      have rv : w6.ownsRow (Q + 1) 3 1 v nx.length (ilist nx) := hTA.own.row (a + 1) hget
      have hng : v.ownBlock ≠ some gN := hTA.own.ng _ (List.mem_of_getElem? hget)
      obtain ⟨VB2, cb, rfl, -, -⟩ := own_slice rv
      have hR : ∀ w', Below w6.heap.size w6 w' → w'.ownsRow (Q + 1) 3 1 (.slice VB2 nx.length cb) nx.length (ilist nx) ∧ Q + 1 ≤ w'.heap.size := fun w' hb => ⟨(hTA.own.later hb).row (a + 1) hget, (hTA.own.later hb).base⟩
      have keepS : ∀ w', Keeps (fun k => (Value.slice VB2 nx.length cb).ownBlock = some k) w6 w' → Keeps (fun k => (Value.slice VB2 nx.length cb).ownBlock = some k) w6 w' ∧ w'.cell? ⟨gN, a, none⟩ = some (.slice VB2 nx.length cb) ∧ w'.cell? ⟨wr.heap.size, 0, none⟩ = some (.int .i64 (a : Int)) ∧ w'.cell? ⟨wr.heap.size, 1, none⟩ = some (.int .i64 (b : Int)) := fun w' k =>
        ⟨k, ((hTA.own.blk.keeps k hng).cell a).trans HX.out.2.1, ((hE.keeps k hvne).cell 0).trans rfl, ((hE.keeps k hvne).cell 1).trans rfl⟩
      have hS1 := keepS _ ((Keeps.refl _ w6).drewN 1)
      have hn63 : nx.length + 1 ≤ maxLen := by unfold maxLen; omega
      have hn47 : (nx.length + 1) * 8 ≤ 140737488355328 := by omega
      have HT := Lib.hid (And.intro hTA hget)
      clear hTA rv hE hget hng hvne
      refine wp_walk_mt 13 (fun i => ([11] : List Nat).contains i) (fun i => ([0,1,2,12] : List Nat).contains i) [11] (by intro m h; simpa using h) (by kernel_rfl) (by kernel_rfl) (by kernel_rfl) (fun w w' => Below w.heap.size w w')  (fun w' => Keeps (fun k => (Value.slice VB2 nx.length cb).ownBlock = some k) w6 w' ∧ w'.cell? ⟨gN, a, none⟩ = some (.slice VB2 nx.length cb) ∧ w'.cell? ⟨wr.heap.size, 0, none⟩ = some (.int .i64 (a : Int)) ∧ w'.cell? ⟨wr.heap.size, 1, none⟩ = some (.int .i64 (b : Int))) (fun w' => Below w6.heap.size w6 w') hS1 (below_drew (Below.refl _ _)) (fun _ _ h h' => below_next h' h) ?_
      simp only [List.length_cons, List.length_nil, Nat.reduceAdd, Nat.reduceSub, List.take_succ_cons, List.take_zero, List.drop_succ_cons, List.drop_zero]
      repeat (first | (refine nsettle_skip (by rfl) (fun _ => by rfl) ?_; (simp only [Act.put, List.setIfInBounds_toArray, List.set_cons_zero, List.set_cons_succ])) | (refine' nsettle_run (by rfl) (fun _ _ => Below.refl _ _) (fun _ => by rfl) ?_ ?_; rotate_left; (focus (intro ρ w hS hF hP; (try dsimp only at hS); go_split_ands; go_simp; try with_reducible rfl)); (simp only [Act.put, List.setIfInBounds_toArray, List.set_cons_zero, List.set_cons_succ])))
      (refine nsettle_known (FSl 1 1 [.int .i64 (b : Int)]) (by rfl) (by rfl) (by rfl) (fun _ => by rfl)  ?_ ?_; (focus (intro ρ w hS hF hP K hK; (simp only [Act.put, List.setIfInBounds_toArray, List.set_cons_zero, List.set_cons_succ] at hK); go_simp; exact hK _ _ (SlV.lit w [.int .i64 (b : Int)] 3 1 1 rfl (by decide)) (keepS _ (hS.1.alloc _)) (below_alloc (Below.refl _ _) _))); (simp only [Act.put, List.setIfInBounds_toArray, List.set_cons_zero, List.set_cons_succ]))
      (refine nsettle_mark (FPush w6 (Q + 1) 3 1 (.slice VB2 nx.length cb) (nx.length + 1) (ilist nx ++ [.int .i64 (b : Int)])) (by rfl) (by rfl) (by rfl) (fun _ => by rfl) ?_ ?_; (focus (intro ρ w hS hF hP K hK; refine oper_append (.tmp 45) (.tmp 48) (Q + 1) _ _ _ _ _ Tryd.underlying32 info_int rfl (by decide) (hR w (hP (by rfl))).1 (hF.1 (by rfl)) (by simp [Value.oneCell']) hn63 hn47 (hR w (hP (by rfl))).2 rfl rfl rfl ?_; intro v' w' hown hg hv _; exact hK v' w' ⟨w, hP (by rfl), hg, hown, hv.imp id fun e => ⟨_, Nat.le_refl _, e⟩⟩ (keepS _ (hS.1.trans ((Keeps.of_grown hg).mono fun i hi => hi.symm))))); (simp only [Act.put, List.setIfInBounds_toArray, List.set_cons_zero, List.set_cons_succ]))
      repeat (first | (refine nsettle_skip (by rfl) (fun _ => by rfl) ?_; (simp only [Act.put, List.setIfInBounds_toArray, List.set_cons_zero, List.set_cons_succ])) | (refine' nsettle_run (by rfl) (fun _ _ => Below.refl _ _) (fun _ => by rfl) ?_ ?_; rotate_left; (focus (intro ρ w hS hF hP; (try dsimp only at hS); go_split_ands; go_simp; try with_reducible rfl)); (simp only [Act.put, List.setIfInBounds_toArray, List.set_cons_zero, List.set_cons_succ])))
      refine nsettle_nil ?_
      intro ρ w7 hS hF
      obtain ⟨wa, ha1, ha2, ha3, ha4⟩ := hF 49 (FPush w6 (Q + 1) 3 1 (.slice VB2 nx.length cb) (nx.length + 1) (ilist nx ++ [.int .i64 (b : Int)])) (by repeat (first | exact List.mem_cons_self | apply List.mem_cons_of_mem))
      clear hF hS hS1 keepS hR
      dsimp only
      generalize ρ 48 = v44
      generalize ρ 49 = v4 at ha3 ha4 ⊢
      have hx4 : wa.grownBy w7 (irw (.slice VB2 nx.length cb) nx).v.ownBlock := ha2
      have ho4 : w7.ownsRow (Q + 1) 3 1 v4 (nx ++ [b]).length (ilist (nx ++ [b])) := by simpa [ilist, ints] using ha3
      have hB4 := ((HT.out.1.own.later ha1).put (i := a + 1) HT.out.2 ho4 hx4 ha4).1
      have hend : ∀ w8, Blk w8 gN 32 (vs.set a v4) → w7.grownBy w8 (some gN) → OwnTo (Q + 1) w4 T0 w8 gN 32 (vs.set a v4) (nxR r0 (vs.set a v4) (Gr.nl N (es.take (k + 1)))) := fun w8 b8 g8 => by
        have := (HT.out.1.later ha1).step ((HT.out.1.own.later ha1).put_to (i := a + 1) HT.out.2 ho4 hx4 ha4 b8 g8)
        have e := nxR_i r0 vs (Gr.nl N (es.take k)) a v4 (nx ++ [b])
        rw [← HX.out.1] at e
        exact e ▸ this
      obtain ⟨V4, c4, rfl, -, -⟩ := own_slice ha3
      clear ha1 ha2 ha3 ha4 hx4 ho4
      have hva : a < vs.length := by omega
      refine wpl_set_blk hB4 a _ (by kernel_rfl) hva rfl rfl rfl rfl rfl rfl ?_
      intro w8 hB8 hg8
      have T8 := hend w8 hB8 hg8
      have HT8 := Lib.hid T8
      clear hB4 hB8 hg8 hend T8 HT
      go_wp2_with fail
      go_roundw
      case rel => exact ⟨k + 1, _, by omega, by go_num, by simpa using hvl, HT8.out⟩
      case measure => simp [intOf]; omega
    · obtain rfl : k = es.length := by omega
      rw [List.take_length] at hOk
      clear hA
      have hlr4 := HLR.out.1
      have hlrz : wr.ownsRow (Q + 1) 3 1 (.slice VB N cl) N (ilist (Gr.take N es).reverse) := own_keeps hlr4 hOk.kp (fun k hk e => by have := hTb k e; have := HLR.out.2.2 k hk; omega)
      have r0z : wr.ownsRow (Q + 1) 80 1 (.slice (some ⟨gO, 0, none⟩) N N) N (List.replicate N (.slice none 0 0)) := by
        have := hOk.own.row 0 rfl
        rw [HR0.out] at this
        exact this
      obtain ⟨wz, rfl⟩ : ∃ wz : World, wz = wr := ⟨_, rfl⟩
      have hgz : gO < wz.heap.size := (r0z.lt _ rfl).2
      have hk2 : ∀ w', Keeps (fun k => k = gO) wz w' → (∀ n, n < N → ∃ v, w'.cell? ⟨gN, n, none⟩ = some v ∧ w'.ownsRow (Q + 1) 3 1 v (Gr.next es n).length (ilist (Gr.next es n))) ∧ w'.ownsRow (Q + 1) 3 1 (.slice VB N cl) N (ilist (Gr.take N es).reverse) ∧ Below Q w w' := fun w' hk => by
        refine ⟨fun n hn => ?_, own_keeps hlrz hk (fun k hk e => by have := HLR.out.2.2 k hk; omega), hbw.trans ((hk.below (B := Q) (by have := hbw.size; have := HQ.out; omega) (fun k hk => by omega)).mono (by have := HQ.out; omega))⟩
        obtain ⟨v, hv⟩ : ∃ v, vs[n]? = some v := ⟨_, List.getElem?_eq_getElem (by omega)⟩
        have hget := nxR_get r0 vs (Gr.nl N es) n v _ hv (Gr.map_get _ _ _ hn)
        refine ⟨v, ((hOk.own.blk.keeps hk (by omega)).cell n).trans hv, own_keeps (hOk.own.row (n + 1) hget) hk (fun k hk e => ?_)⟩
        refine hOk.own.ap (n + 1) 0 _ _ hget rfl (by omega) k hk ?_
        rw [HR0.out, e]
        rfl
      have HK2 := Lib.hid hk2
      clear hk2 hlr4 hlrz hOk hbw hOT c41 HKT HLR HR0 hTb hlt
      go_wp2_with fail
      go_loopw [54] (fun i wr => ∃ (k : Nat) (os : List Value), k ≤ N ∧ i = .int .i64 (k : Int) ∧ os.length = N ∧ wr.ownsRow (Q + 1) 80 1 (.slice (some ⟨gO, 0, none⟩) N N) N os ∧ (∀ (i : Nat) (u : Value) (s : List Nat), os[i]? = some u → (Gr.bk N es k)[i]? = some s → SlU wr u s ∧ FarU (fun k => k = gO) u s) ∧ Keeps (fun k => k = gO) wz wr) (fun i _ => N - (intOf i).toNat)
      case atStart => exact ⟨0, _, Nat.zero_le _, rfl, by simp, r0z, fun i u s hu hs => by
        rw [Gr.bk_zero] at hs
        have h1 := List.eq_of_mem_replicate (List.mem_of_getElem? hu)
        have h2 := List.eq_of_mem_replicate (List.mem_of_getElem? hs)
        subst h1 h2
        exact ⟨SlU.nil _, fun h => absurd rfl h⟩, Keeps.refl _ _⟩
      case round =>
        obtain ⟨k, os, hk, rfl, hol, hro, hos, hkz⟩ := hrel
        by_cases hlt : k < N
        · obtain ⟨hnx, hlr, -⟩ := HK2.out _ hkz
          obtain ⟨n, hn⟩ : ∃ n, (Gr.take N es).reverse[k]? = some n := ⟨_, List.getElem?_eq_getElem (by rw [List.length_reverse, HL.out]; exact hlt)⟩
          have hnN : n < N := (Gr.good_take N es).lt n (List.mem_reverse.1 (List.mem_of_getElem? hn))
          obtain ⟨gl, cl', e, -, -, -, -⟩ := own_addr hlr (by omega)
          injection e with e1 e2 e3
          subst e1 e3
          have c0 := own_cell hlr (j := k) (u := .int .i64 (n : Int)) (by unfold ilist ints; rw [List.map_map, List.getElem?_map, hn]; rfl)
          obtain ⟨v, hv, hrv⟩ := hnx n hnN
          obtain ⟨V, cv, rfl, -, -⟩ := own_slice hrv
          have HN := Lib.hid (And.intro hn (And.intro hrv (And.intro hro (And.intro hos hkz))))
          have hln : (Gr.next es n).length ≤ es.length := by unfold Gr.next; rw [List.length_map]; exact List.length_filter_le _ _
          have hgr : gO < wr.heap.size := Nat.lt_of_lt_of_le hgz hkz.size
          clear hn hrv hro hos hkz hnx hlr e2
          go_wp2_with fail
          obtain ⟨wy, rfl⟩ : ∃ wy : World, wy = wr := ⟨_, rfl⟩
          clear c0 hv
          go_loopw [12, 63] (fun u i wr => ∃ j : Nat, j ≤ (Gr.next es n).length ∧ i = .int .i64 (j : Int) ∧ SlU wr u (Gr.bs N es k n j) ∧ New wy.heap.size u ∧ Below wy.heap.size wy wr) (fun _ i _ => (Gr.next es n).length - (intOf i).toNat)
          case atStart => exact ⟨0, Nat.zero_le _, rfl, by rw [Gr.bs_zero]; exact SlU.nil _, New.nil _ _ _, Below.refl _ _⟩
          case round =>
            obtain ⟨j, hj, rfl, hu, hnw, hby⟩ := hrel
            obtain ⟨A8, c8, rfl⟩ := slU_form hu
            by_cases hjl : j < (Gr.next es n).length
            · obtain ⟨m, hm⟩ : ∃ m, (Gr.next es n)[j]? = some m := ⟨_, List.getElem?_eq_getElem hjl⟩
              have hmN : m < N := (HES.out _ (Gr.mem_next.1 (List.mem_of_getElem? hm))).2
              have hrv := own_keeps HN.out.2.1 (Keeps.of_below hby (fun _ => False)) (fun _ _ => id)
              obtain ⟨gv, cv', e, -, -, -, -⟩ := own_addr hrv (by omega)
              injection e with e1 e2 e3
              subst e1 e3
              have c0 := own_cell hrv (j := j) (u := .int .i64 (m : Int)) (by unfold ilist ints; rw [List.map_map, List.getElem?_map, hm]; rfl)
              obtain ⟨um, hum⟩ : ∃ u, os[m]? = some u := ⟨_, List.getElem?_eq_getElem (by omega)⟩
              obtain ⟨sm, hsm⟩ : ∃ s, (Gr.bk N es k)[m]? = some s := ⟨_, List.getElem?_eq_getElem (by rw [Gr.bk_length]; exact hmN)⟩
              have hsu := (HN.out.2.2.2.1 m um sm hum hsm).1.below hby
              have hro := own_keeps HN.out.2.2.1 (Keeps.of_below hby (fun _ => False)) (fun _ _ => id)
              have c2 := own_cell hro hum
              obtain ⟨Am, cm, rfl⟩ := slU_form hsu
              have hst := Gr.bs_step hm (N := N) (k := k)
              rw [List.getD_eq_getElem?_getD, hsm, Option.getD_some] at hst
              have hg1 := Gr.bs_gs (fun e he => (HES.out e he).2) k n j (N := N)
              have hgm := Gr.bk_gs (fun e he => (HES.out e he).2) k _ (List.mem_of_getElem? hsm)
              have HST := Lib.hid hst
              have HJ := Lib.hid (And.intro hm hby)
              obtain ⟨sj, hsj⟩ : ∃ s, s = Gr.bs N es k n j := ⟨_, rfl⟩
              rw [← hsj] at hu hg1 HST ⊢
              have hadd := fun w' (hb : Below wr.heap.size wr w') => put_new w' _ sj m (hu.below hb) (by omega) (Nat.le_trans hg1.length (by omega))
              have hl1 : (Bs.put sj m).length ≤ 17592186044416 := Nat.le_trans (hg1.put hmN).length (by omega)
              have hl2 : sm.length ≤ 17592186044416 := Nat.le_trans hgm.length (by omega)
              have hor := fun w' (v : Value) (hb : Below wr.heap.size wr w') (hv : SlU w' v (Bs.put sj m)) => sor_new w' v _ (Bs.put sj m) sm hv (hsu.below hb) hl1 hl2
              have keepS : ∀ w', Below wr.heap.size wr w' → Below wr.heap.size wr w' ∧ w'.cell? ⟨gO, m, none⟩ = some (.slice Am sm.length cm) := fun w' hb => ⟨hb, (hb.cell (p := ⟨gO, m, none⟩) (Nat.lt_of_lt_of_le hgr hby.size)).trans c2⟩
              have hS0 := keepS _ (below_drew (Below.refl _ _))
              have hby' := Lib.hid hby.size
              clear hm hum hsm hsu hro hst hg1 hgm hby hrv e2 hnw hsj hu
              go_upto_region 19 with (fail)
              refine wp_walk (by kernel_rfl) (by kernel_rfl) (fun w w' => Below w.heap.size w w') (fun w' => Below wr.heap.size wr w' ∧ w'.cell? ⟨gO, m, none⟩ = some (.slice Am sm.length cm)) hS0 ?_
              repeat (first | (refine settle_skip (fun _ => by rfl) ?_; (simp only [Act.put, List.setIfInBounds_toArray, List.set_cons_zero, List.set_cons_succ])) | (refine' settle_run (fun _ _ => Below.refl _ _) (fun _ => by rfl) ?_ ?_; rotate_left; (focus (intro ρ w hS hF; (try dsimp only at hS); go_split_ands; go_simp; try with_reducible rfl)); (simp only [Act.put, List.setIfInBounds_toArray, List.set_cons_zero, List.set_cons_succ])))
              (refine settle_known (FSU wy.heap.size (Bs.put sj m)) (by rfl) (fun _ => by rfl)  ?_ ?_; (focus (intro ρ w hS hF K hK; (simp only [Act.put, List.setIfInBounds_toArray, List.set_cons_zero, List.set_cons_succ] at hK); go_simp; (refine (hadd _ hS.1).mono ?_; rintro e w' ⟨u, rfl, ⟨h1, h2⟩, hb'⟩; exact hK _ _ ⟨h1, h2.mono (Nat.le_trans hby'.out hS.1.size)⟩ (keepS _ (below_next hb' hS.1)) hb'))); (simp only [Act.put, List.setIfInBounds_toArray, List.set_cons_zero, List.set_cons_succ]))
              repeat (first | (refine settle_skip (fun _ => by rfl) ?_; (simp only [Act.put, List.setIfInBounds_toArray, List.set_cons_zero, List.set_cons_succ])) | (refine' settle_run (fun _ _ => Below.refl _ _) (fun _ => by rfl) ?_ ?_; rotate_left; (focus (intro ρ w hS hF; (try dsimp only at hS); go_split_ands; go_simp; try with_reducible rfl)); (simp only [Act.put, List.setIfInBounds_toArray, List.set_cons_zero, List.set_cons_succ])))
              (refine settle_known (FSU wy.heap.size (Bs.op Bs.for_ (Bs.put sj m) sm)) (by rfl) (fun _ => by rfl)  ?_ ?_; (focus (intro ρ w hS hF K hK; (simp only [Act.put, List.setIfInBounds_toArray, List.set_cons_zero, List.set_cons_succ] at hK); go_simp; (refine (hor _ _ hS.1 (hF.1 (by rfl)).1).mono ?_; rintro e w' ⟨u, rfl, ⟨h1, h2⟩, hb'⟩; exact hK _ _ ⟨h1, h2.mono (Nat.le_trans hby'.out hS.1.size)⟩ (keepS _ (below_next hb' hS.1)) hb'))); (simp only [Act.put, List.setIfInBounds_toArray, List.set_cons_zero, List.set_cons_succ]))
              (refine settle_known (FSU wy.heap.size (Bs.op Bs.for_ (Bs.put sj m) sm)) (by rfl) (fun _ => by rfl)  ?_ ?_; (focus (intro ρ w hS hF K hK; (simp only [Act.put, List.setIfInBounds_toArray, List.set_cons_zero, List.set_cons_succ] at hK); go_simp; exact hK _ _ (hF.1 (by rfl)) hS (Below.refl _ _))); (simp only [Act.put, List.setIfInBounds_toArray, List.set_cons_zero, List.set_cons_succ]))
              refine settle_nil ?_
              intro ρ wE hS hF
              obtain ⟨hE1, hE2⟩ := hF 12 (FSU wy.heap.size (Bs.op Bs.for_ (Bs.put sj m) sm)) (by repeat (first | exact List.mem_cons_self | apply List.mem_cons_of_mem))
              dsimp only
              generalize ρ 12 = v12 at hE1 hE2 ⊢
              rw [← HST.out] at hE1
              have HE := Lib.hid (And.intro hE1 (And.intro hE2 (below_next hS.1 HJ.out.2)))
              clear hF hS hS0 keepS hor hadd hE1 hE2 c2
              generalize ρ 69 = v69
              generalize ρ 74 = v74
              go_wp2_with fail
              go_roundw
              case rel => exact ⟨j + 1, by omega, by go_num, HE.out⟩
              case measure => simp [intOf]; omega
            · obtain rfl : j = (Gr.next es n).length := by omega
              have hro := own_keeps HN.out.2.2.1 (Keeps.of_below hby (fun _ => False)) (fun _ _ => id)
              have hst := Gr.bk_step HN.out.1
              have hos := fun i u s hi hs => (HN.out.2.2.2.1 i u s hi hs).1.below hby
              have hfo := fun i u s hi hs => (HN.out.2.2.2.1 i u s hi hs).2
              have hkz : Keeps (fun k => k = gO) wz wr := HN.out.2.2.2.2.trans (Keeps.of_below hby _)
              obtain ⟨sj, hsj⟩ : ∃ s, s = Gr.bs N es k n (Gr.next es n).length := ⟨_, rfl⟩
              rw [← hsj] at hu hst hnw ⊢
              have HST := Lib.hid (And.intro hst hsj)
              obtain ⟨uo, huo⟩ : ∃ u, os[n]? = some u := ⟨_, List.getElem?_eq_getElem (by omega)⟩
              have c9 := own_cell hro huo
              clear hst hsj hby
              have f0 := row_frozen hro n
              have hr6 := row_set hro n (.slice A8 sj.length c8)
              have hg6 := grown_setCell wr gO n (.slice A8 sj.length c8)
              go_wp2_with fail
              generalize (wr.setCell ⟨gO, n, none⟩ (.slice A8 sj.length c8)) = w6 at hr6 hg6 ⊢
              have kk : Keeps (fun k => k = gO) wr w6 := (Keeps.of_grown hg6).mono fun i hi => by injection hi
              have hfn : FarU (fun k => k = gO) (.slice A8 sj.length c8) sj := FarU.new hnw fun k hk => by omega
              have hend : ∀ (i : Nat) (u : Value) (s : List Nat), (os.set n (.slice A8 sj.length c8))[i]? = some u → (Gr.bk N es (k + 1))[i]? = some s → SlU w6 u s ∧ FarU (fun k => k = gO) u s := fun i u s hi hs => by
                rw [HST.out.1] at hs
                by_cases e : n = i
                · subst e
                  rw [List.getElem?_set_self (by omega)] at hi
                  rw [List.getElem?_set_self (by rw [Gr.bk_length]; omega)] at hs
                  injection hi with hi
                  injection hs with hs
                  subst hi hs
                  exact ⟨hu.far kk hfn, hfn⟩
                · rw [List.getElem?_set_ne e] at hi hs
                  exact ⟨(hos i u s hi hs).far kk (hfo i u s hi hs), hfo i u s hi hs⟩
              go_roundw
              case rel => exact ⟨k + 1, _, by omega, by go_num, by simpa using hol, hr6, hend, hkz.step kk fun _ _ h => h⟩
              case measure => simp [intOf]; omega
        · obtain rfl : k = N := by omega
          have hbw := (HK2.out _ hkz).2.2
          have hlk : (Gr.bk k es k).length = k := Gr.bk_length _ _ _
          have hSW : SlW wr (.slice (some ⟨gO, 0, none⟩) k k) (Gr.bk k es k) := by
            refine ⟨os, ?_, fun i u s hu hs => (hos i u s hu hs).1⟩
            rw [hlk]
            exact own_slV hro
          rw [Gr.bk_all HL.out] at hSW
          rw [HQ.out] at hbw
          have HE := Lib.hid (And.intro hSW hbw)
          clear hSW hbw hlk hos hro hkz hol
          go_wp2_with fail
          go_ret2
          exact ⟨_, rfl, HE.out.1, HE.out.2⟩
end Go.Proofs.YtpimcghmpbbckaaDoor


namespace Go.Proofs.YtpimcghmpbbckaaDoor
set_option linter.unusedVariables false
set_option linter.unusedSimpArgs false
set_option maxRecDepth 100000
open Go.RowKit

theorem Gr.wrong_zero {n : Int} {es : List Gr.Er} (h : Gr.wrong n es = 0) : Gr.okG n es = true ∧ ∃ N : Nat, n = (N : Int) ∧ N ≤ 200 ∧ (∀ e ∈ Gr.nat es, e.1 < N ∧ e.2 < N) ∧ (Gr.nat es).length = es.length ∧ (Gr.take N (Gr.nat es)).length = N := by
  have hok : Gr.okG n es = true := by
    cases h1 : Gr.okG n es with
    | true => rfl
    | false =>
      unfold Gr.wrong at h
      rw [h1] at h
      cases h
  obtain ⟨N, rfl, hN, hes, hln, -⟩ := Gr.nat_ok hok
  refine ⟨hok, N, rfl, hN, hes, hln, ?_⟩
  unfold Gr.wrong at h
  rw [hok] at h
  simp only [if_true, Int.toNat_natCast] at h
  by_cases hl : (Gr.take N (Gr.nat es)).length < N
  · rw [if_pos hl] at h
    cases h
  · have := (Gr.good_take N (Gr.nat es)).length
    omega

set_option maxHeartbeats 4000000 in
theorem behind_no (R : Int) (hR : R ≠ 0) (w : World) (x : Value) (A : Option Addr) (l c : Nat) (n : Int) (hx : x = .agg #[.int .i64 n, .slice A l c])
    (hs : ∀ w', Below w.heap.size w w' → Calls Tryd.prog 25 #[x] w' fun e w'' => ∃ v, e = .returned (.tuple #[v, .int .i64 R]) ∧ v = .slice none 0 0 ∧ Below w'.heap.size w' w'') :
    Calls Tryd.prog 51 #[x] w fun e w' => ∃ v, e = .returned (.tuple #[v, .int .i64 R]) ∧ v = .slice none 0 0 ∧ Below w.heap.size w w' := by
  subst hx
  have x0 := Blk.new w 24 [.int .i64 n, .slice A l c]
  have hb0 : Below w.heap.size w (w.alloc (.cells #[.int .i64 n, .slice A l c] 24)) := below_alloc (Below.refl _ _) _
  go_enter Tryd.func51, Tryd.ntmps51
  go_upto_region 1 with (fail)
  generalize (w.alloc (.cells #[.int .i64 n, .slice A l c] 24)) = W0 at x0 hb0 ⊢
  have d0 : W0.cell? ⟨w.heap.size, 0, none⟩ = some (.int .i64 n) := (x0.cell 0).trans rfl
  have d1 : W0.cell? ⟨w.heap.size, 1, none⟩ = some (.slice A l c) := (x0.cell 1).trans rfl
  have g0 : (R != 0) = true := by simpa using hR
  have HR := Lib.hid hR
  clear hR
  go_wp2_with fail
  refine (hs W0 hb0).mono ?_
  rintro e w1 ⟨v, rfl, rfl, hb1⟩
  have hb01 := Lib.hid (below_next hb1 hb0)
  clear d0 d1 x0 hs hb1 hb0
  go_wp2_with fail
  go_ret2
  exact ⟨_, rfl, rfl, hb01.out⟩

theorem behind_any (n : Int) (es : List Gr.Er) (w : World) (A : Option Addr) (c : Nat) (hA : SlV w 2 (.slice A es.length c) es.length (ercs es)) (hle : es.length ≤ 1099511627776) (hT : Tab w) :
    Calls Tryd.prog 51 #[.agg #[.int .i64 n, .slice A es.length c]] w fun e w' => ∃ v, e = .returned (.tuple #[v, .int .i64 (Gr.wrong n es)]) ∧ (Gr.wrong n es ≠ 0 → v = .slice none 0 0) ∧ (Gr.wrong n es = 0 → SlW w' v (Gr.behW n.toNat (Gr.nat es))) ∧ Below w.heap.size w w' := by
  have hTb : ∀ w', Below w.heap.size w w' → Tab w' := fun w' hb j hj => (hb.cell (p := ⟨0, j, none⟩) hT.lt).trans (hT j hj)
  have hs := fun w' (hb : Below w.heap.size w w') => sort_any n es w' A c (hA.below hb) hle (hTb w' hb)
  by_cases h0 : Gr.wrong n es = 0
  · obtain ⟨hok, N, rfl, hN, hes, hln, hl⟩ := Gr.wrong_zero h0
    rw [Int.toNat_natCast] at hs ⊢
    have h4 := hA
    rw [ercs_nat hok, ← hln] at h4
    have hb := behind_yes N (Gr.nat es) w A c hN hes hl h4 (by omega) (fun w' hb => by
      rw [hln]
      refine (hs w' hb).mono ?_
      rintro e w'' ⟨v, rfl, -, h2, h3⟩
      have := h2 h0
      rw [hl] at this
      exact ⟨v, by rw [h0], this, h3⟩)
    rw [hln] at hb
    refine hb.mono ?_
    rintro e w' ⟨v, rfl, h1, h2⟩
    exact ⟨v, by rw [h0], fun h => absurd h0 h, fun _ => h1, h2⟩
  · refine (behind_no (Gr.wrong n es) h0 w _ A es.length c n rfl fun w' hb => ?_).mono ?_
    · refine (hs w' hb).mono ?_
      rintro e w'' ⟨v, rfl, h1, -, h3⟩
      exact ⟨v, rfl, h1 h0, h3⟩
    · rintro e w' ⟨v, rfl, h1, h2⟩
      exact ⟨v, rfl, fun _ => h1, fun h => absurd h h0, h2⟩
end Go.Proofs.YtpimcghmpbbckaaDoor


namespace Go.Proofs.YtpimcghmpbbckaaDoor.Gr
set_option linter.unusedVariables false
set_option linter.unusedSimpArgs false
set_option maxRecDepth 100000

theorem now_short {N : Nat} {es : List Ed} {w : Nat} {D : List Nat} (h : (now N es w D).length < w) {m : Nat} (hm : m < N) (hr : rdy es D m = true) : m ∈ now N es w D := by
  unfold now at h ⊢
  rw [List.length_take] at h
  rw [List.take_of_length_le (by omega)]
  exact List.mem_filter.2 ⟨List.mem_range.2 hm, hr⟩

/-- a round that is not full does all of the lowest level that is left -/
theorem brent_from {N v h : Nat} {es : List Ed} {lv : Nat → Nat} (hes : ∀ e ∈ es, e.1 < N) (up : ∀ e ∈ es, lv e.1 < lv e.2) (top : ∀ m, m < N → lv m < h) :
    ∀ (f : Nat) (D : List Nat) (lo : Nat), Good N es D → lo ≤ h → (∀ m, m < N → m ∉ D → lo ≤ lv m) → (v + 1) * (rounds N es (v + 1) f D).length + D.length ≤ N + v * (h - lo)
  | 0, D, lo, hG, hlo, hmin => by
    have := hG.length
    rw [rounds]
    simp only [List.length_nil, Nat.mul_zero]
    omega
  | f + 1, D, lo, hG, hlo, hmin => by
    unfold rounds
    split
    · have := hG.length
      simp only [List.length_nil, Nat.mul_zero]
      omega
    · rename_i hne
      have hG' := hG.round (w := v + 1)
      have hl := hG'.length
      have h0 : 0 < (now N es (v + 1) D).length := List.length_pos_iff.2 hne
      rw [List.length_append] at hl
      rw [List.length_cons, Nat.mul_add, Nat.mul_one]
      by_cases hfull : (now N es (v + 1) D).length < v + 1
      · have hlo1 : lo + 1 ≤ h := by
          obtain ⟨m, hm⟩ := List.exists_mem_of_ne_nil _ hne
          obtain ⟨m1, m2⟩ := now_mem hm
          have := top m m1
          have := hmin m m1 (rdy_iff.1 m2).1
          omega
        have ih := brent_from (v := v) hes up top f (D ++ now N es (v + 1) D) (lo + 1) hG' hlo1 (fun m hm hmD => by
          have hmD' : m ∉ D := fun x => hmD (List.mem_append_left _ x)
          have h1 := hmin m hm hmD'
          refine Decidable.byContradiction fun hlt => hmD (List.mem_append_right _ (now_short hfull hm (rdy_iff.2 ⟨hmD', fun e he em => ?_⟩)))
          refine Decidable.byContradiction fun hin => ?_
          have h2 := hmin e.1 (hes e he) hin
          have h3 := up e he
          rw [em] at h3
          omega)
        rw [List.length_append] at ih
        have e1 : v * (h - lo) = v * (h - (lo + 1)) + v := by
          rw [show h - lo = (h - (lo + 1)) + 1 by omega, Nat.mul_add, Nat.mul_one]
        omega
      · have ih := brent_from (v := v) hes up top f (D ++ now N es (v + 1) D) lo hG' hlo (fun m hm hmD => hmin m hm (fun x => hmD (List.mem_append_left _ x)))
        have := now_length N es (v + 1) D
        rw [List.length_append] at ih
        omega
theorem brent {N v h : Nat} {es : List Ed} {lv : Nat → Nat} (hes : ∀ e ∈ es, e.1 < N) (up : ∀ e ∈ es, lv e.1 < lv e.2) (top : ∀ m, m < N → lv m < h) : (v + 1) * (all N es (v + 1)).length ≤ N + v * h := by
  have := brent_from (v := v) hes up top N [] 0 (Good.nil N es) (Nat.zero_le _) (fun m _ _ => Nat.zero_le _)
  simpa [all] using this
/-- no fewer rounds than levels -/
theorem level_le {N w : Nat} {es : List Ed} {lv : Nat → Nat} (down : ∀ m, m < N → 0 < lv m → ∃ e ∈ es, e.2 = m ∧ lv e.1 + 1 = lv m) (hes : ∀ e ∈ es, e.1 < N) : ∀ (n m k : Nat) (a : List Nat), lv m = n → m < N → (all N es w)[k]? = some a → m ∈ a → lv m ≤ k := by
  intro n
  induction n with
  | zero => intro m k a h _ _ _; omega
  | succ n ih =>
    intro m k a h hm hk ha
    obtain ⟨e, he, em, hl⟩ := down m hm (by omega)
    obtain ⟨j, b, hjk, hj, hb⟩ := all_order hk ha e he em
    have := ih e.1 j b (by omega) (hes e he) hj hb
    omega
theorem rounds_high {N w h : Nat} {es : List Ed} {lv : Nat → Nat} (hw : 0 < w) (hT : (take N es).length = N) (down : ∀ m, m < N → 0 < lv m → ∃ e ∈ es, e.2 = m ∧ lv e.1 + 1 = lv m) (hes : ∀ e ∈ es, e.1 < N) (hh : ∃ m, m < N ∧ lv m + 1 = h) : h ≤ (all N es w).length := by
  obtain ⟨m, hm, e⟩ := hh
  obtain ⟨a, ha, hma⟩ := List.mem_flatten.1 ((all_full hw hT).1 m hm)
  obtain ⟨k, hk⟩ := List.getElem?_of_mem ha
  have h1 := level_le down hes _ m k a rfl hm hk hma
  have h2 := (List.getElem?_eq_some_iff.1 hk).1
  omega
theorem rounds_work {N w : Nat} {es : List Ed} (hw : 0 < w) (hT : (take N es).length = N) : N ≤ w * (all N es w).length := by
  have h1 := (all_full hw hT).2
  have h2 : ∀ l : List (List Nat), (∀ a ∈ l, a.length ≤ w) → l.flatten.length ≤ w * l.length := by
    intro l
    induction l with
    | nil => simp
    | cons a l ih =>
      intro h
      have h3 := h a (by simp)
      have h4 := ih (fun x hx => h x (by simp [hx]))
      rw [List.flatten_cons, List.length_append, List.length_cons, Nat.mul_add, Nat.mul_one]
      omega
  have := h2 (all N es w) (fun a ha => by
    obtain ⟨k, hk⟩ := List.getElem?_of_mem ha
    rw [(rounds_at N [] k a hk).1]
    exact now_length _ _ _ _)
  omega
end Go.Proofs.YtpimcghmpbbckaaDoor.Gr


namespace Go.Proofs.YtpimcghmpbbckaaDoor.Gr
set_option linter.unusedVariables false
set_option linter.unusedSimpArgs false
set_option maxRecDepth 100000

/-- the edges between those that are left -/
def left (es : List Ed) (D : List Nat) : List Ed := es.filter fun e => !D.contains e.1 && !D.contains e.2
theorem mem_left {es : List Ed} {D : List Nat} {e : Ed} : e ∈ left es D ↔ e ∈ es ∧ e.1 ∉ D ∧ e.2 ∉ D := by
  unfold left
  rw [List.mem_filter, Bool.and_eq_true]
  simp
/-- levels of a graph -/
structure Lv (N : Nat) (es : List Ed) (lv : Nat → Nat) (h : Nat) : Prop where
  up : ∀ e ∈ es, lv e.1 < lv e.2
  down : ∀ m, m < N → 0 < lv m → ∃ e ∈ es, e.2 = m ∧ lv e.1 + 1 = lv m
  top : ∀ m, m < N → lv m < h
  hit : ∃ m, m < N ∧ lv m + 1 = h
theorem idle_low {N w h h' : Nat} {es : List Ed} {D : List Nat} {lv lv' : Nat → Nat} (hes : ∀ e ∈ es, e.1 < N) (hs : (now N es w D).length < w) (h1 : Lv N (left es D) lv h) (h2 : Lv N (left es (D ++ now N es w D)) lv' h') :
    ∀ (n m : Nat), lv' m = n → m < N → m ∉ D ++ now N es w D → lv' m + 1 ≤ lv m := by
  intro n
  induction n with
  | zero =>
    intro m h0 hm hmD
    have hD : m ∉ D := fun x => hmD (List.mem_append_left _ x)
    rcases hr : rdy es D m with _ | _
    · obtain ⟨e, he, em, hin⟩ : ∃ e ∈ es, e.2 = m ∧ e.1 ∉ D := by
        refine Decidable.byContradiction fun hno => ?_
        have : rdy es D m = true := rdy_iff.2 ⟨hD, fun e he em => Decidable.byContradiction fun hin => hno ⟨e, he, em, hin⟩⟩
        rw [hr] at this
        cases this
      have := h1.up e (mem_left.2 ⟨he, hin, by rw [em]; exact hD⟩)
      rw [em] at this
      omega
    · exact absurd (List.mem_append_right _ (now_short hs hm hr)) hmD
  | succ n ih =>
    intro m h0 hm hmD
    obtain ⟨e, he, em, hl⟩ := h2.down m hm (by omega)
    obtain ⟨he1, he2, he3⟩ := mem_left.1 he
    have h3 := ih e.1 (by omega) (hes e he1) he2
    have h4 := h1.up e (mem_left.2 ⟨he1, fun x => he2 (List.mem_append_left _ x), fun x => he3 (List.mem_append_left _ x)⟩)
    rw [em] at h4
    omega
/-- the longest way among those left is shorter behind a round that is not full -/
theorem idle_height {N w h h' : Nat} {es : List Ed} {D : List Nat} {lv lv' : Nat → Nat} (hes : ∀ e ∈ es, e.1 < N) (hs : (now N es w D).length < w) (h1 : Lv N (left es D) lv h) (h2 : Lv N (left es (D ++ now N es w D)) lv' h') (hG : Good N es (D ++ now N es w D)) (hl : (D ++ now N es w D).length < N) : h' < h := by
  obtain ⟨m, hm, e⟩ := h2.hit
  by_cases hmD : m ∈ D ++ now N es w D
  · have hz : lv' m = 0 := by
      refine Decidable.byContradiction fun hne => ?_
      obtain ⟨x, hx, xm, -⟩ := h2.down m hm (by omega)
      obtain ⟨-, -, h3⟩ := mem_left.1 hx
      exact h3 (by rw [xm]; exact hmD)
    obtain ⟨y, hy, hyD⟩ : ∃ y, y < N ∧ y ∉ D ++ now N es w D := by
      refine Decidable.byContradiction fun hno => ?_
      have := (List.nodup_range (n := N)).length_le_of_subset (l₂ := D ++ now N es w D) (fun x hx => Decidable.byContradiction fun h => hno ⟨x, List.mem_range.1 hx, h⟩)
      rw [List.length_range] at this
      omega
    have h3 := idle_low hes hs h1 h2 _ y rfl hy hyD
    have h4 := h1.top y hy
    omega
  · have h3 := idle_low hes hs h1 h2 _ m rfl hm hmD
    have h4 := h1.top m hm
    omega
end Go.Proofs.YtpimcghmpbbckaaDoor.Gr


namespace Go.Proofs.YtpimcghmpbbckaaDoor.Gr
set_option linter.unusedVariables false
set_option linter.unusedSimpArgs false
set_option maxRecDepth 100000

def lget (L : List Nat) (m : Nat) : Nat := L.getD m 0
theorem lget_some {L : List Nat} {m : Nat} (h : m < L.length) : L[m]? = some (lget L m) := by simp [lget, List.getElem?_eq_getElem h]
theorem lget_set {L : List Nat} {m : Nat} (h : m < L.length) (x k : Nat) : lget (L.set m x) k = if k = m then x else lget L k := by
  unfold lget
  rw [List.getD_eq_getElem?_getD, List.getElem?_set, List.getD_eq_getElem?_getD]
  by_cases hk : m = k
  · subst hk; simp [h]
  · rw [if_neg hk, if_neg (fun e => hk e.symm)]
/-- D has told all; of those that n leads to, the first j have been told -/
structure LvI (N : Nat) (es : List Ed) (D : List Nat) (n j : Nat) (L : List Nat) : Prop where
  len : L.length = N
  up : ∀ e ∈ es, e.1 ∈ D → lget L e.1 + 1 ≤ lget L e.2
  upn : ∀ m ∈ (next es n).take j, lget L n + 1 ≤ lget L m
  down : ∀ m, 0 < lget L m → ∃ e ∈ es, e.2 = m ∧ e.1 ∈ D ++ [n] ∧ lget L e.1 + 1 = lget L m
  low : lget L n ≤ D.length
  top : ∀ m, lget L m ≤ D.length + 1
/-- D has told all -/
structure LvD (N : Nat) (es : List Ed) (D : List Nat) (L : List Nat) : Prop where
  len : L.length = N
  up : ∀ e ∈ es, e.1 ∈ D → lget L e.1 + 1 ≤ lget L e.2
  down : ∀ m, 0 < lget L m → ∃ e ∈ es, e.2 = m ∧ e.1 ∈ D ∧ lget L e.1 + 1 = lget L m
  top : ∀ m, lget L m ≤ D.length
/-- the levels of a graph -/
structure LvL (N : Nat) (es : List Ed) (L : List Nat) : Prop where
  len : L.length = N
  up : ∀ e ∈ es, lget L e.1 < lget L e.2
  down : ∀ m, 0 < lget L m → ∃ e ∈ es, e.2 = m ∧ lget L e.1 + 1 = lget L m
theorem LvD.start (N : Nat) (es : List Ed) : LvD N es [] (List.replicate N 0) := by
  have h0 : ∀ m, lget (List.replicate N 0) m = 0 := fun m => by
    unfold lget
    rw [List.getD_eq_getElem?_getD, List.getElem?_replicate]
    split <;> rfl
  exact ⟨by simp, fun e _ h => (by cases h), fun m h => (by rw [h0] at h; omega), fun m => (by rw [h0]; exact Nat.zero_le _)⟩
section
variable {N n j m : Nat} {es : List Ed} {D L : List Nat}
theorem LvD.begin (h : LvD N es D L) : LvI N es D n 0 L :=
  ⟨h.len, h.up, fun m hm => by simp at hm, fun m hm => by
    obtain ⟨e, h1, h2, h3, h4⟩ := h.down m hm
    exact ⟨e, h1, h2, List.mem_append_left _ h3, h4⟩, h.top n, fun m => Nat.le_succ_of_le (h.top m)⟩
theorem LvI.tell (h : LvI N es D n j L) (hj : (next es n)[j]? = some m) (hm : m < N) (hmD : m ∉ D ++ [n]) : LvI N es D n (j + 1) (L.set m (max (lget L m) (lget L n + 1))) := by
  have hs := lget_set (L := L) (m := m) (by rw [h.len]; exact hm) (max (lget L m) (lget L n + 1))
  have hD : ∀ a ∈ D ++ [n], lget (L.set m (max (lget L m) (lget L n + 1))) a = lget L a := fun a ha => by
    rw [hs, if_neg (fun e => hmD (by rw [← e]; exact ha))]
  have hge : ∀ a, lget L a ≤ lget (L.set m (max (lget L m) (lget L n + 1))) a := fun a => by
    rw [hs]
    split
    · rename_i e; subst e; exact Nat.le_max_left _ _
    · exact Nat.le_refl _
  have hn := hD n (by simp)
  have hlen : (L.set m (max (lget L m) (lget L n + 1))).length = N := by simpa using h.len
  generalize L.set m (max (lget L m) (lget L n + 1)) = L' at hs hD hge hn hlen ⊢
  refine ⟨hlen, fun e he hin => ?_, fun x hx => ?_, fun x hx => ?_, by rw [hn]; exact h.low, fun x => ?_⟩
  · rw [hD _ (List.mem_append_left _ hin)]
    exact Nat.le_trans (h.up e he hin) (hge _)
  · rw [hn]
    rw [take_snoc hj, List.mem_append] at hx
    rcases hx with hx | hx
    · exact Nat.le_trans (h.upn x hx) (hge _)
    · rw [List.mem_singleton.1 hx, hs, if_pos rfl]
      exact Nat.le_max_right _ _
  · by_cases e : x = m
    · subst e
      rw [hs, if_pos rfl] at hx ⊢
      by_cases hc : lget L x ≤ lget L n + 1
      · rw [Nat.max_eq_right hc]
        exact ⟨(n, x), mem_next.1 (List.mem_of_getElem? hj), rfl, by simp, by rw [hn]⟩
      · rw [Nat.max_eq_left (by omega)] at hx ⊢
        obtain ⟨e, h1, h2, h3, h4⟩ := h.down x (by omega)
        exact ⟨e, h1, h2, h3, by rw [hD _ h3]; exact h4⟩
    · rw [hs, if_neg e] at hx ⊢
      obtain ⟨e, h1, h2, h3, h4⟩ := h.down x hx
      exact ⟨e, h1, h2, h3, by rw [hD _ h3]; exact h4⟩
  · rw [hs]
    have := h.top x
    have := h.top m
    have := h.low
    split <;> omega
theorem LvI.finish (h : LvI N es D n (next es n).length L) : LvD N es (D ++ [n]) L := by
  refine ⟨h.len, fun e he hin => ?_, h.down, fun m => by rw [List.length_append]; exact h.top m⟩
  rcases List.mem_append.1 hin with hin | hin
  · exact h.up e he hin
  · have e1 := List.mem_singleton.1 hin
    rw [e1]
    have := h.upn e.2
    rw [List.take_length] at this
    exact this (mem_next.2 (by rw [← e1]; exact he))
theorem LvD.all (h : LvD N es D L) (hD : ∀ e ∈ es, e.1 ∈ D) : LvL N es L :=
  ⟨h.len, fun e he => h.up e he (hD e he), fun m hm => by
    obtain ⟨e, h1, h2, -, h4⟩ := h.down m hm
    exact ⟨e, h1, h2, h4⟩⟩
end
/-- whom a node of the order leads to comes later -/
theorem later_out {N k n m : Nat} {es : List Ed} {l : List Nat} (hg : Good N es l) (hk : l[k]? = some n) (hm : m ∈ next es n) : m ∉ l.take k ++ [n] := fun h => by
  have hed := mem_next.1 hm
  have hnm : ∀ i, l[i]? = some m → i ≤ k → False := fun i hi hik => by
    have := hg.topo i m hi _ hed rfl
    obtain ⟨j, hj⟩ := List.getElem?_of_mem this
    rw [List.getElem?_take] at hj
    split at hj
    · have := (List.getElem?_inj (by have := (List.getElem?_eq_some_iff.1 hk).1; omega) hg.nd).1 (hj.trans hk.symm)
      omega
    · cases hj
  rcases List.mem_append.1 h with h | h
  · obtain ⟨i, hi⟩ := List.getElem?_of_mem h
    rw [List.getElem?_take] at hi
    split at hi
    · exact hnm i hi (by omega)
    · cases hi
  · rw [List.mem_singleton.1 h] at hnm
    exact hnm k hk (Nat.le_refl _)
/-- how many levels there are -/
def hgt (L : List Nat) : Nat := if L = [] then 0 else L.foldl max 0 + 1
theorem foldl_max : ∀ (L : List Nat) (a : Nat), a ≤ L.foldl max a ∧ (∀ x ∈ L, x ≤ L.foldl max a) ∧ (L.foldl max a = a ∨ L.foldl max a ∈ L)
  | [], a => ⟨Nat.le_refl _, fun _ h => (by cases h), .inl rfl⟩
  | y :: L, a => by
    obtain ⟨h1, h2, h3⟩ := foldl_max L (max a y)
    rw [List.foldl_cons]
    refine ⟨Nat.le_trans (Nat.le_max_left _ _) h1, fun x hx => ?_, ?_⟩
    · rcases List.mem_cons.1 hx with rfl | hx
      · exact Nat.le_trans (Nat.le_max_right _ _) h1
      · exact h2 x hx
    · rcases h3 with h3 | h3
      · rw [h3]
        rcases Nat.le_total a y with h | h
        · right; rw [Nat.max_eq_right h]; exact List.mem_cons_self
        · left; exact Nat.max_eq_left h
      · exact .inr (List.mem_cons_of_mem _ h3)
theorem LvL.lv {N : Nat} {es : List Ed} {L : List Nat} (h : LvL N es L) (hN : 0 < N) : Lv N es (lget L) (hgt L) := by
  have hne : L ≠ [] := fun e => by have := h.len; rw [e] at this; simp at this; omega
  obtain ⟨-, h2, h3⟩ := foldl_max L 0
  unfold hgt
  rw [if_neg hne]
  refine ⟨h.up, fun m _ hm => h.down m hm, fun m hm => ?_, ?_⟩
  · have := h2 (lget L m) (List.mem_of_getElem? (lget_some (by rw [h.len]; exact hm)))
    omega
  · have hin : L.foldl max 0 ∈ L := by
      rcases h3 with h3 | h3
      · rw [h3]
        have := h2 _ (List.mem_of_getElem? (lget_some (L := L) (m := 0) (by rw [h.len]; exact hN)))
        rw [h3] at this
        have h0 : lget L 0 = 0 := by omega
        rw [← h0]
        exact List.mem_of_getElem? (lget_some (by rw [h.len]; exact hN))
      · exact h3
    obtain ⟨i, hi⟩ := List.getElem?_of_mem hin
    have hil := (List.getElem?_eq_some_iff.1 hi).1
    refine ⟨i, by rw [← h.len]; exact hil, ?_⟩
    rw [lget_some hil] at hi
    injection hi with hi
    rw [hi]
end Go.Proofs.YtpimcghmpbbckaaDoor.Gr


namespace Go.Proofs.YtpimcghmpbbckaaDoor
set_option linter.unusedVariables false
set_option linter.unusedSimpArgs false
set_option maxRecDepth 100000
open Go.RowKit

set_option maxHeartbeats 4000000 in
theorem levels_yes (N : Nat) (es : List Gr.Ed) (w : World) (A : Option Addr) (c : Nat) (hN : N ≤ 200) (hes : ∀ e ∈ es, e.1 < N ∧ e.2 < N) (hl : (Gr.take N es).length = N) (hA : SlV w 2 (.slice A es.length c) es.length (edcs es)) (hle : es.length ≤ 1099511627776)
    (hs : ∀ w', Below w.heap.size w w' → Calls Tryd.prog 25 #[.agg #[.int .i64 (N : Int), .slice A es.length c]] w' fun e w'' => ∃ v, e = .returned (.tuple #[v, .int .i64 0]) ∧ w''.ownsRow w'.heap.size 3 1 v N (ilist (Gr.take N es)) ∧ Below w'.heap.size w' w'') :
    Calls Tryd.prog 29 #[.agg #[.int .i64 (N : Int), .slice A es.length c]] w fun e w' => ∃ v L, e = .returned (.tuple #[v, .int .i64 0]) ∧ w'.ownsRow w.heap.size 3 1 v N (ilist L) ∧ Gr.LvL N es L ∧ (∀ m, Gr.lget L m ≤ N) ∧ Below w.heap.size w w' := by
  have HES := Lib.hid hes
  have HL := Lib.hid hl
  have x0 := Blk.new w 24 [.int .i64 (N : Int), .slice A es.length c]
  have hb0 : Below w.heap.size w (w.alloc (.cells #[.int .i64 (N : Int), .slice A es.length c] 24)) := below_alloc (Below.refl _ _) _
  have hz0 : (w.alloc (.cells #[.int .i64 (N : Int), .slice A es.length c] 24)).heap.size = w.heap.size + 1 := by simp
  have HZ0 := Lib.hid hz0
  clear hes hl hz0
  have n47 : 8 * N ≤ 281474976710656 := by omega
  have n47' : 24 * N ≤ 281474976710656 := by omega
  have n63 : N ≤ 9223372036854775807 := by omega
  go_enter Tryd.func29, Tryd.ntmps29
  go_upto_region 1 with (fail)
  have HZ := Lib.hid HZ0.out
  clear HZ0
  generalize (w.alloc (.cells #[.int .i64 (N : Int), .slice A es.length c] 24)) = W0 at x0 hb0 HZ ⊢
  have d0 : W0.cell? ⟨w.heap.size, 0, none⟩ = some (.int .i64 (N : Int)) := (x0.cell 0).trans rfl
  have d1 : W0.cell? ⟨w.heap.size, 1, none⟩ = some (.slice A es.length c) := (x0.cell 1).trans rfl
  go_wp2_with fail
  refine (hs W0 hb0).mono ?_
  rintro e w1 ⟨lv, rfl, ho1, hb1⟩
  obtain ⟨VB, cl, rfl, -, -⟩ := own_slice ho1
  have x1 := x0.below hb1
  have hb01 := below_next hb1 hb0
  have c0 : w1.cell? ⟨w.heap.size, 0, none⟩ = some (.int .i64 (N : Int)) := (x1.cell 0).trans rfl
  have c1 : w1.cell? ⟨w.heap.size, 1, none⟩ = some (.slice A es.length c) := (x1.cell 1).trans rfl
  clear d0 d1 x0 hs
  go_wp2_with (first | (at_make; refine wp_make _ 32 3 (.int .i64 0) 8 N Tryd.underlying32 info_int rfl (by omega) (by omega) n47 n63 rfl rfl rfl rfl ?_; intro w2 hown2 hb2 hs2; have x2 := x1.below hb2; have c20 : w2.cell? ⟨w.heap.size, 0, none⟩ = some (.int .i64 (N : Int)) := (x2.cell 0).trans rfl; have c21 : w2.cell? ⟨w.heap.size, 1, none⟩ = some (.slice A es.length c) := (x2.cell 1).trans rfl) | (at_make; refine wp_make _ 26 32 (.slice none 0 0) 24 N Tryd.underlying26 info_sint rfl (by omega) (by omega) n47' n63 rfl rfl rfl rfl ?_; intro w4 hown4 hb4 hs4; have x4 := x2.below hb4; have c40 : w4.cell? ⟨w.heap.size, 0, none⟩ = some (.int .i64 (N : Int)) := (x4.cell 0).trans rfl; have c41 : w4.cell? ⟨w.heap.size, 1, none⟩ = some (.slice A es.length c) := (x4.cell 1).trans rfl) | fail)
  have hlge : ∀ k, (Value.slice VB N cl).ownBlock = some k → w.heap.size + 1 ≤ k := fun k hk => by have := own_ge ho1 k hk; have := HZ.out; omega
  have hllt : ∀ k, (Value.slice VB N cl).ownBlock = some k → k < w1.heap.size := fun k hk => (ho1.lt k hk).2
  have hlr : w4.ownsRow W0.heap.size 3 1 (.slice VB N cl) N (ilist (Gr.take N es)) := own_keeps ho1 (Keeps.of_below (below_next hb4 hb2) (fun _ => False)) (fun _ _ => id)
  have hor := own_keeps hown2 (Keeps.of_below hb4 (fun _ => False)) (fun _ _ => id)
  have hnb := row_whole hown4
  have hb04 := below_next hb4 (below_next hb2 hb01)
  have hsQ : W0.heap.size = w.heap.size + 1 := HZ.out
  have hsW0 := hb1.size
  rw [hs2] at hnb
  have hs42 : w1.heap.size + 1 < w4.heap.size := by have := hnb.lt; omega
  have hne0 : (Value.slice (some ⟨w1.heap.size, 0, none⟩) N N).ownBlock ≠ some (w1.heap.size + 1) := fun e => by
    have h2 : w1.heap.size = w1.heap.size + 1 := (by injection e)
    omega
  have hO : Own (w.heap.size + 1) w4 (w1.heap.size + 1) 32 (List.replicate N (.slice none 0 0)) (nxR ⟨3, 1, .slice (some ⟨w1.heap.size, 0, none⟩) N N, N, List.replicate N (.int .i64 0)⟩ (List.replicate N (.slice none 0 0)) (Gr.nl N [])) :=
    nx_start _ (own_base hor (by omega)) hne0 hnb (by have := hb04.size; omega) (by omega)
  have hlr' : w4.ownsRow (w.heap.size + 1) 3 1 (.slice VB N cl) N (ilist (Gr.take N es)) := own_base hlr (by omega)
  have hsz : w.heap.size + 1 ≤ w1.heap.size ∧ w1.heap.size < w1.heap.size + 1 ∧ w1.heap.size + 1 < w4.heap.size := ⟨by omega, by omega, hs42⟩
  clear hlr hor hnb hne0 hown2 hown4 ho1 hb4 hs4 hb2 hs2 hsQ hsW0 hs42 x1 x2 x4 c0 c1 c20 c21 HZ hb0 hb01 hb1
  obtain ⟨gO, hgO⟩ : ∃ g, g = w1.heap.size := ⟨_, rfl⟩
  obtain ⟨gN, hgN⟩ : ∃ g, g = w1.heap.size + 1 := ⟨_, rfl⟩
  obtain ⟨Q, hQ⟩ : ∃ g, g = w.heap.size := ⟨_, rfl⟩
  have HQ := Lib.hid hQ
  simp only [← hgO, ← hQ] at hb04 hO hlr' hsz hlge hllt c40 c41 hgN ⊢
  simp only [← hgN] at hO hsz ⊢
  clear hgO hgN hQ
  obtain ⟨r0, hr0⟩ : ∃ r : Rw, r = ⟨3, 1, .slice (some ⟨gO, 0, none⟩) N N, N, List.replicate N (.int .i64 0)⟩ := ⟨_, rfl⟩
  rw [← hr0] at hO
  have hOT := OwnTo.start hO
  have hkT : ∀ w', Keeps (Tw gN (nxR r0 (List.replicate N (.slice none 0 0)) (Gr.nl N []))) w4 w' → Below Q w w' := fun w' h => hb04.trans ((hO.below h).mono (by omega))
  have hTb : ∀ k, Tw gN (nxR r0 (List.replicate N (.slice none 0 0)) (Gr.nl N [])) k → gO ≤ k := fun k hk => by
    rcases hk with rfl | ⟨s, hs, hk⟩
    · exact Nat.le_of_lt hsz.2.1
    · unfold nxR at hs
      rw [nl_nil] at hs
      rcases List.mem_cons.1 hs with rfl | hs
      · rw [hr0] at hk
        have : gO = k := by injection hk
        omega
      · have hz : List.zipWith irw (List.replicate N (.slice none 0 0)) (List.replicate N []) = List.replicate N (irw (.slice none 0 0) []) := by simp
        rw [hz] at hs
        rw [(List.mem_replicate.1 hs).2] at hk
        simp [irw, Value.ownBlock] at hk
  obtain ⟨T0, hT0⟩ : ∃ T, T = Tw gN (nxR r0 (List.replicate N (.slice none 0 0)) (Gr.nl N [])) := ⟨_, rfl⟩
  rw [← hT0] at hOT hkT hTb
  have HR0 := Lib.hid hr0
  have HKT := Lib.hid hkT
  have HLR := Lib.hid (And.intro hlr' (And.intro hlge hllt))
  clear hO hT0 hr0 hkT hlr' hlge hllt hb04 c40
  go_loopw [31] (fun i wr => ∃ (k : Nat) (vs : List Value), k ≤ es.length ∧ i = .int .i64 (k : Int) ∧ vs.length = N ∧ OwnTo (Q + 1) w4 T0 wr gN 32 vs (nxR r0 vs (Gr.nl N (es.take k)))) (fun i _ => es.length - (intOf i).toNat)
  case atStart => exact ⟨0, _, Nat.zero_le _, rfl, by simp, hOT⟩
  case round =>
    obtain ⟨k, vs, hk, rfl, hvl, hOk⟩ := hrel
    have hbw := HKT.out _ hOk.kp
    by_cases hlt : k < es.length
    · obtain ⟨⟨a, b⟩, hx⟩ : ∃ x, es[k]? = some x := ⟨_, List.getElem?_eq_getElem hlt⟩
      obtain ⟨ha, hb⟩ := HES.out _ (List.mem_of_getElem? hx)
      have gx := flat_get edc 2 (fun _ => rfl) es k
      have g1 := gx 0 _ hx (by omega)
      have g2 := gx 1 _ hx (by omega)
      rw [HQ.out] at hbw
      obtain ⟨A', c', he, -, -, -, hcc⟩ := hA.below hbw
      injection he with e1 e2 e3
      subst e1 e3
      obtain ⟨g, o, rfl, hgl, hcell⟩ := hcc.at_ (fun e => by rw [show List.flatMap edc es = edcs es from rfl, e] at g1; simp [edc] at g1)
      have d0 : wr.cell? ⟨g, o + k * 2, none⟩ = some (.int .i64 (a : Int)) := (hcell _ _ g1).trans rfl
      have d1 : wr.cell? ⟨g, o + k * 2 + 1, none⟩ = some (.int .i64 (b : Int)) := by rw [Nat.add_assoc]; exact hcell _ _ g2
      have htk := Gr.take_snoc hx
      have hn1 := Gr.nl_one N (es.take k) a b
      rw [← htk] at hn1
      have hTA := hOk.later (below_alloc (Below.refl _ _) (.cells #[.int .i64 (a : Int), .int .i64 (b : Int)] 34))
      have hE := Blk.new wr 34 [.int .i64 (a : Int), .int .i64 (b : Int)]
      obtain ⟨v, hv⟩ : ∃ v, vs[a]? = some v := ⟨_, List.getElem?_eq_getElem (by omega)⟩
      have hnx : (Gr.nl N (es.take k))[a]? = some (Gr.next (es.take k) a) := Gr.map_get _ _ _ ha
      have hnl : (Gr.next (es.take k) a).length ≤ 1099511627776 := by
        have := List.length_filter_le (fun e : Gr.Ed => e.1 == a) (es.take k)
        rw [List.length_take] at this
        unfold Gr.next
        rw [List.length_map]
        omega
      obtain ⟨nx, hnxq⟩ : ∃ nx, nx = Gr.next (es.take k) a := ⟨_, rfl⟩
      rw [← hnxq] at hnx hn1 hnl
      clear hnxq
      have hvne : v.ownBlock ≠ some wr.heap.size := fun e => by
        have := ((hOk.own.row (a + 1) (nxR_get _ _ _ a v nx hv hnx)).lt _ e).2
        omega
      have HX := Lib.hid (And.intro hn1 (And.intro hv hnx))
      clear hv hnx
      have HA := Lib.hid hA
      clear hOk htk hn1 hx gx g1 g2 hcc hcell e2 hA hbw
      go_upto_region 9 with (fail)
      have hb5 : Below wr.heap.size wr (wr.alloc (.cells #[.int .i64 (a : Int), .int .i64 (b : Int)] 34)) := below_alloc (Below.refl _ _) _
      generalize (wr.alloc (.cells #[.int .i64 (a : Int), .int .i64 (b : Int)] 34)) = w6 at hTA hE hb5 ⊢
      clear d0 d1 hb5
      have hget := nxR_get r0 vs (Gr.nl N (es.take k)) a v nx HX.out.2.1 HX.out.2.2
      have rv : w6.ownsRow (Q + 1) 3 1 v nx.length (ilist nx) := hTA.own.row (a + 1) hget
      have hng : v.ownBlock ≠ some gN := hTA.own.ng _ (List.mem_of_getElem? hget)
      obtain ⟨VB2, cb, rfl, -, -⟩ := own_slice rv
      have hR : ∀ w', Below w6.heap.size w6 w' → w'.ownsRow (Q + 1) 3 1 (.slice VB2 nx.length cb) nx.length (ilist nx) ∧ Q + 1 ≤ w'.heap.size := fun w' hb => ⟨(hTA.own.later hb).row (a + 1) hget, (hTA.own.later hb).base⟩
      have keepS : ∀ w', Keeps (fun k => (Value.slice VB2 nx.length cb).ownBlock = some k) w6 w' → Keeps (fun k => (Value.slice VB2 nx.length cb).ownBlock = some k) w6 w' ∧ w'.cell? ⟨gN, a, none⟩ = some (.slice VB2 nx.length cb) ∧ w'.cell? ⟨wr.heap.size, 0, none⟩ = some (.int .i64 (a : Int)) ∧ w'.cell? ⟨wr.heap.size, 1, none⟩ = some (.int .i64 (b : Int)) := fun w' k =>
        ⟨k, ((hTA.own.blk.keeps k hng).cell a).trans HX.out.2.1, ((hE.keeps k hvne).cell 0).trans rfl, ((hE.keeps k hvne).cell 1).trans rfl⟩
      have hS1 := keepS _ ((Keeps.refl _ w6).drewN 1)
      have hn63 : nx.length + 1 ≤ maxLen := by unfold maxLen; omega
      have hn47 : (nx.length + 1) * 8 ≤ 140737488355328 := by omega
      have HT := Lib.hid (And.intro hTA hget)
      clear hTA rv hE hget hng hvne
      refine wp_walk_mt 13 (fun i => ([11] : List Nat).contains i) (fun i => ([0,1,2,12] : List Nat).contains i) [11] (by intro m h; simpa using h) (by kernel_rfl) (by kernel_rfl) (by kernel_rfl) (fun w w' => Below w.heap.size w w')  (fun w' => Keeps (fun k => (Value.slice VB2 nx.length cb).ownBlock = some k) w6 w' ∧ w'.cell? ⟨gN, a, none⟩ = some (.slice VB2 nx.length cb) ∧ w'.cell? ⟨wr.heap.size, 0, none⟩ = some (.int .i64 (a : Int)) ∧ w'.cell? ⟨wr.heap.size, 1, none⟩ = some (.int .i64 (b : Int))) (fun w' => Below w6.heap.size w6 w') hS1 (below_drew (Below.refl _ _)) (fun _ _ h h' => below_next h' h) ?_
      simp only [List.length_cons, List.length_nil, Nat.reduceAdd, Nat.reduceSub, List.take_succ_cons, List.take_zero, List.drop_succ_cons, List.drop_zero]
      repeat (first | (refine nsettle_skip (by rfl) (fun _ => by rfl) ?_; (simp only [Act.put, List.setIfInBounds_toArray, List.set_cons_zero, List.set_cons_succ])) | (refine' nsettle_run (by rfl) (fun _ _ => Below.refl _ _) (fun _ => by rfl) ?_ ?_; rotate_left; (focus (intro ρ w hS hF hP; (try dsimp only at hS); go_split_ands; go_simp; try with_reducible rfl)); (simp only [Act.put, List.setIfInBounds_toArray, List.set_cons_zero, List.set_cons_succ])))
      (refine nsettle_known (FSl 1 1 [.int .i64 (b : Int)]) (by rfl) (by rfl) (by rfl) (fun _ => by rfl)  ?_ ?_; (focus (intro ρ w hS hF hP K hK; (simp only [Act.put, List.setIfInBounds_toArray, List.set_cons_zero, List.set_cons_succ] at hK); go_simp; exact hK _ _ (SlV.lit w [.int .i64 (b : Int)] 3 1 1 rfl (by decide)) (keepS _ (hS.1.alloc _)) (below_alloc (Below.refl _ _) _))); (simp only [Act.put, List.setIfInBounds_toArray, List.set_cons_zero, List.set_cons_succ]))
      (refine nsettle_mark (FPush w6 (Q + 1) 3 1 (.slice VB2 nx.length cb) (nx.length + 1) (ilist nx ++ [.int .i64 (b : Int)])) (by rfl) (by rfl) (by rfl) (fun _ => by rfl) ?_ ?_; (focus (intro ρ w hS hF hP K hK; refine oper_append (.tmp 42) (.tmp 45) (Q + 1) _ _ _ _ _ Tryd.underlying32 info_int rfl (by decide) (hR w (hP (by rfl))).1 (hF.1 (by rfl)) (by simp [Value.oneCell']) hn63 hn47 (hR w (hP (by rfl))).2 rfl rfl rfl ?_; intro v' w' hown hg hv _; exact hK v' w' ⟨w, hP (by rfl), hg, hown, hv.imp id fun e => ⟨_, Nat.le_refl _, e⟩⟩ (keepS _ (hS.1.trans ((Keeps.of_grown hg).mono fun i hi => hi.symm))))); (simp only [Act.put, List.setIfInBounds_toArray, List.set_cons_zero, List.set_cons_succ]))
      repeat (first | (refine nsettle_skip (by rfl) (fun _ => by rfl) ?_; (simp only [Act.put, List.setIfInBounds_toArray, List.set_cons_zero, List.set_cons_succ])) | (refine' nsettle_run (by rfl) (fun _ _ => Below.refl _ _) (fun _ => by rfl) ?_ ?_; rotate_left; (focus (intro ρ w hS hF hP; (try dsimp only at hS); go_split_ands; go_simp; try with_reducible rfl)); (simp only [Act.put, List.setIfInBounds_toArray, List.set_cons_zero, List.set_cons_succ])))
      refine nsettle_nil ?_
      intro ρ w7 hS hF
      obtain ⟨wa, ha1, ha2, ha3, ha4⟩ := hF 46 (FPush w6 (Q + 1) 3 1 (.slice VB2 nx.length cb) (nx.length + 1) (ilist nx ++ [.int .i64 (b : Int)])) (by repeat (first | exact List.mem_cons_self | apply List.mem_cons_of_mem))
      clear hF hS hS1 keepS hR
      dsimp only
      generalize ρ 45 = v44
      generalize ρ 46 = v4 at ha3 ha4 ⊢
      have hx4 : wa.grownBy w7 (irw (.slice VB2 nx.length cb) nx).v.ownBlock := ha2
      have ho4 : w7.ownsRow (Q + 1) 3 1 v4 (nx ++ [b]).length (ilist (nx ++ [b])) := by simpa [ilist, ints] using ha3
      have hB4 := ((HT.out.1.own.later ha1).put (i := a + 1) HT.out.2 ho4 hx4 ha4).1
      have hend : ∀ w8, Blk w8 gN 32 (vs.set a v4) → w7.grownBy w8 (some gN) → OwnTo (Q + 1) w4 T0 w8 gN 32 (vs.set a v4) (nxR r0 (vs.set a v4) (Gr.nl N (es.take (k + 1)))) := fun w8 b8 g8 => by
        have := (HT.out.1.later ha1).step ((HT.out.1.own.later ha1).put_to (i := a + 1) HT.out.2 ho4 hx4 ha4 b8 g8)
        have e := nxR_i r0 vs (Gr.nl N (es.take k)) a v4 (nx ++ [b])
        rw [← HX.out.1] at e
        exact e ▸ this
      obtain ⟨V4, c4, rfl, -, -⟩ := own_slice ha3
      clear ha1 ha2 ha3 ha4 hx4 ho4
      have hva : a < vs.length := by omega
      refine wpl_set_blk hB4 a _ (by kernel_rfl) hva rfl rfl rfl rfl rfl rfl ?_
      intro w8 hB8 hg8
      have T8 := hend w8 hB8 hg8
      have HT8 := Lib.hid T8
      clear hB4 hB8 hg8 hend T8 HT
      go_wp2_with fail
      go_roundw
      case rel => exact ⟨k + 1, _, by omega, by go_num, by simpa using hvl, HT8.out⟩
      case measure => simp [intOf]; omega
    · obtain rfl : k = es.length := by omega
      rw [List.take_length] at hOk
      clear hA
      have hlr4 := HLR.out.1
      have hlrz : wr.ownsRow (Q + 1) 3 1 (.slice VB N cl) N (ilist (Gr.take N es)) := own_keeps hlr4 hOk.kp (fun k hk e => by have := hTb k e; have := HLR.out.2.2 k hk; omega)
      have r0z : wr.ownsRow (Q + 1) 3 1 (.slice (some ⟨gO, 0, none⟩) N N) N (ilist (List.replicate N 0)) := by
        have := hOk.own.row 0 rfl
        rw [HR0.out] at this
        have e : ilist (List.replicate N 0) = List.replicate N (.int .i64 0) := by simp [ilist, ints]
        rw [e]
        exact this
      obtain ⟨wz, rfl⟩ : ∃ wz : World, wz = wr := ⟨_, rfl⟩
      have hgz : gO < wz.heap.size := (r0z.lt _ rfl).2
      have hk2 : (∀ n, n < N → ∃ v, ∀ w', Keeps (fun k => k = gO) wz w' → w'.cell? ⟨gN, n, none⟩ = some v ∧ w'.ownsRow (Q + 1) 3 1 v (Gr.next es n).length (ilist (Gr.next es n))) ∧ ∀ w', Keeps (fun k => k = gO) wz w' → w'.ownsRow (Q + 1) 3 1 (.slice VB N cl) N (ilist (Gr.take N es)) ∧ Below Q w w' := by
        refine ⟨fun n hn => ?_, fun w' hk => ⟨own_keeps hlrz hk (fun k hk e => by have := HLR.out.2.2 k hk; omega), hbw.trans ((hk.below (B := Q) (by have := hbw.size; have := HQ.out; omega) (fun k hk => by omega)).mono (by have := HQ.out; omega))⟩⟩
        obtain ⟨v, hv⟩ : ∃ v, vs[n]? = some v := ⟨_, List.getElem?_eq_getElem (by omega)⟩
        have hget := nxR_get r0 vs (Gr.nl N es) n v _ hv (Gr.map_get _ _ _ hn)
        refine ⟨v, fun w' hk => ⟨((hOk.own.blk.keeps hk (by omega)).cell n).trans hv, own_keeps (hOk.own.row (n + 1) hget) hk (fun k hk e => ?_)⟩⟩
        refine hOk.own.ap (n + 1) 0 _ _ hget rfl (by omega) k hk ?_
        rw [HR0.out, e]
        rfl
      have HK2 := Lib.hid hk2
      clear hk2 hlr4 hlrz hOk hbw hOT c41 HKT HLR HR0 hTb hlt
      go_wp2_with fail
      go_loopw [51] (fun i wr => ∃ (k : Nat) (L : List Nat), k ≤ N ∧ i = .int .i64 (k : Int) ∧ wr.ownsRow (Q + 1) 3 1 (.slice (some ⟨gO, 0, none⟩) N N) N (ilist L) ∧ Gr.LvD N es ((Gr.take N es).take k) L ∧ Keeps (fun k => k = gO) wz wr) (fun i _ => N - (intOf i).toNat)
      case atStart => exact ⟨0, _, Nat.zero_le _, rfl, r0z, by rw [List.take_zero]; exact Gr.LvD.start N es, Keeps.refl _ _⟩
      case round =>
        obtain ⟨k, L, hk, rfl, hro, hL, hkz⟩ := hrel
        by_cases hlt : k < N
        · obtain ⟨hlr, -⟩ := HK2.out.2 _ hkz
          obtain ⟨n, hn⟩ : ∃ n, (Gr.take N es)[k]? = some n := ⟨_, List.getElem?_eq_getElem (by rw [HL.out]; exact hlt)⟩
          have hnN : n < N := (Gr.good_take N es).lt n (List.mem_of_getElem? hn)
          obtain ⟨gl, cl', e, -, -, -, -⟩ := own_addr hlr (by omega)
          injection e with e1 e2 e3
          subst e1 e3
          have c0 := own_cell hlr (ilist_get hn)
          obtain ⟨vn, hvk⟩ := HK2.out.1 n hnN
          obtain ⟨nx, hnxe⟩ : ∃ nx, nx = Gr.next es n := ⟨_, rfl⟩
          rw [← hnxe] at hvk
          obtain ⟨c1, hvr⟩ := hvk _ hkz
          obtain ⟨VN, cn, rfl, -, -⟩ := own_slice hvr
          have hnxl : nx.length ≤ 1099511627776 := by
            rw [hnxe]
            unfold Gr.next
            rw [List.length_map]
            exact Nat.le_trans (List.length_filter_le _ _) hle
          have hI := hL.begin (n := n)
          have HI := Lib.hid (And.intro hro (And.intro hI hkz))
          have HN := Lib.hid (And.intro hn (And.intro hnxe hvk))
          clear hlr hvr hL hro hkz hI hn hnxe r0z hvk
          go_wp2_with fail
          clear c0 c1
          go_loopw [60] (fun i wr => ∃ (j : Nat) (L : List Nat), j ≤ nx.length ∧ i = .int .i64 (j : Int) ∧ wr.ownsRow (Q + 1) 3 1 (.slice (some ⟨gO, 0, none⟩) N N) N (ilist L) ∧ Gr.LvI N es ((Gr.take N es).take k) n j L ∧ Keeps (fun k => k = gO) wz wr) (fun i _ => nx.length - (intOf i).toNat)
          case atStart => exact ⟨0, _, Nat.zero_le _, rfl, HI.out.1, HI.out.2.1, HI.out.2.2⟩
          case round =>
            clear HI
            obtain ⟨j, L, hj, rfl, hro, hI, hkz⟩ := hrel
            by_cases hjl : j < nx.length
            · obtain ⟨m, hm⟩ : ∃ m, nx[j]? = some m := ⟨_, List.getElem?_eq_getElem hjl⟩
              have hm' : (Gr.next es n)[j]? = some m := by rw [← HN.out.2.1]; exact hm
              have hmN : m < N := (HES.out _ (Gr.mem_next.1 (List.mem_of_getElem? hm'))).2
              have hmo := Gr.later_out (Gr.good_take N es) HN.out.1 (List.mem_of_getElem? hm')
              have hvr := (HN.out.2.2 _ hkz).2
              obtain ⟨gv, cv', e, -, -, -, -⟩ := own_addr hvr (by omega)
              injection e with e1 e2 e3
              subst e1 e3
              have c1 := own_cell hvr (ilist_get hm)
              have c2 := own_cell hro (ilist_get (Gr.lget_some (by rw [hI.len]; exact hmN)))
              have c3 := own_cell hro (ilist_get (Gr.lget_some (by rw [hI.len]; exact hnN)))
              have hI' := hI.tell hm' hmN hmo
              have hb1 := hI.top m
              have hb2 := hI.low
              have hkl : ((Gr.take N es).take k).length ≤ N := by rw [List.length_take]; omega
              obtain ⟨x, hx⟩ : ∃ x, x = Gr.lget L m := ⟨_, rfl⟩
              obtain ⟨y, hy⟩ : ∃ y, y = Gr.lget L n := ⟨_, rfl⟩
              rw [← hx] at c2 hb1 hI'
              rw [← hy] at c3 hb2 hI'
              have hx2 : x ≤ 1000 := by omega
              have hw : IntKind.i64.wrap ((y : Int) + 1) = (y : Int) + 1 := IntWalk.i64_in _ (by omega)
              have hy2 : y ≤ 1000 := by omega
              have HH := Lib.hid (And.intro hI' hkz)
              clear hm hm' hmo hvr hI hI' hkz hb1 hb2 hx hy hkl
              go_wp2_with fail
              (refine still_last (by kernel_rfl) (by kernel_rfl) ?_; simp only [List.length_cons, List.length_nil, Nat.reduceAdd, Nat.reduceSub, List.take_succ_cons, List.take_zero, List.drop_succ_cons, List.drop_zero]; repeat still_step; try refine wpStill_nil ?_)
              refine wpl_set_row (show (wr.drewN 1).ownsRow (Q + 1) 3 1 (.slice (some ⟨gO, 0, none⟩) N N) N (ilist L) from own_keeps hro ((Keeps.refl (fun _ => False) wr).drewN 1) (fun _ _ => id)) m (.int .i64 (max (x : Int) ((y : Int) + 1))) (by kernel_rfl) (by omega) (by rfl) (by rfl) (by rfl) (by rfl) (by rfl) (by rfl) ?_
              intro w3 hr3 hg3
              have hr3' : w3.ownsRow (Q + 1) 3 1 (.slice (some ⟨gO, 0, none⟩) N N) N (ilist (L.set m (max x (y + 1)))) := by
                have e : ilist (L.set m (max x (y + 1))) = (ilist L).set m (.int .i64 (max (x : Int) ((y : Int) + 1))) := by
                  unfold ilist
                  rw [List.map_set, ints_set]
                  congr 2
                  omega
                rw [e]
                exact hr3
              have hk3 := HH.out.2.trans (((Keeps.of_grown hg3).undrewN).mono fun i hi => by injection hi)
              have HF := Lib.hid (And.intro hr3' (And.intro HH.out.1 hk3))
              clear hr3 hg3 hr3' hk3 hro c1 c2 c3 HH
              go_wp2_with fail
              go_roundw
              case rel => exact ⟨j + 1, _, by omega, by go_num, HF.out.1, HF.out.2.1, HF.out.2.2⟩
              case measure => simp [intOf]; omega
            · obtain rfl : j = nx.length := by omega
              rw [HN.out.2.1] at hI
              have hD := hI.finish
              rw [← Gr.take_snoc HN.out.1] at hD
              have HF := Lib.hid (And.intro hro (And.intro hD hkz))
              clear hro hI hD hkz
              go_wp2_with fail
              go_roundw
              case rel => exact ⟨k + 1, _, by omega, by go_num, HF.out.1, HF.out.2.1, HF.out.2.2⟩
              case measure => simp [intOf]; omega
        · obtain rfl : N = k := by omega
          have hbf := (HK2.out.2 _ hkz).2
          rw [HQ.out] at hbf
          have hall : Gr.LvL N es L := by
            have hD := hL
            rw [List.take_of_length_le (by rw [HL.out]; exact Nat.le_refl _)] at hD
            exact hD.all (fun e he => (Gr.good_take N es).full HL.out _ (HES.out e he).1)
          have htop : ∀ m, Gr.lget L m ≤ N := fun m => Nat.le_trans (hL.top m) (by rw [List.length_take]; omega)
          have hro' := own_base hro (show w.heap.size ≤ Q + 1 by have := HQ.out; omega)
          have HF := Lib.hid (And.intro hro' (And.intro hall (And.intro htop hbf)))
          clear hro hL hkz hbf hall htop hro' r0z
          go_wp2_with fail
          go_ret2
          exact ⟨_, L, rfl, HF.out.1, HF.out.2.1, HF.out.2.2.1, HF.out.2.2.2⟩
end Go.Proofs.YtpimcghmpbbckaaDoor


namespace Go.Proofs.YtpimcghmpbbckaaDoor
set_option linter.unusedVariables false
set_option linter.unusedSimpArgs false
set_option maxRecDepth 100000
open Go.RowKit

set_option maxHeartbeats 4000000 in
theorem levels_any (n : Int) (es : List Gr.Er) (w : World) (A : Option Addr) (c : Nat) (hA : SlV w 2 (.slice A es.length c) es.length (ercs es)) (hle : es.length ≤ 1099511627776) (hT : Tab w) :
    Calls Tryd.prog 29 #[.agg #[.int .i64 n, .slice A es.length c]] w fun e w' => ∃ v L, e = .returned (.tuple #[v, .int .i64 (Gr.wrong n es)]) ∧ w'.ownsRow w.heap.size 3 1 v L.length (ilist L) ∧ (Gr.wrong n es ≠ 0 → L = []) ∧ (Gr.wrong n es = 0 → Gr.LvL n.toNat (Gr.nat es) L ∧ (∀ m, Gr.lget L m ≤ n.toNat)) ∧ Below w.heap.size w w' := by
  have hTb : ∀ w', Below w.heap.size w w' → Tab w' := fun w' hb j hj => (hb.cell (p := ⟨0, j, none⟩) hT.lt).trans (hT j hj)
  have hs : ∀ w', Below w.heap.size w w' → Calls Tryd.prog 25 #[.agg #[.int .i64 n, .slice A es.length c]] w' fun e w'' => ∃ v, e = .returned (.tuple #[v, .int .i64 (Gr.wrong n es)]) ∧ (Gr.wrong n es ≠ 0 → v = .slice none 0 0) ∧ (Gr.wrong n es = 0 → w''.ownsRow w'.heap.size 3 1 v (Gr.take n.toNat (Gr.nat es)).length (ilist (Gr.take n.toNat (Gr.nat es)))) ∧ Below w'.heap.size w' w'' := fun w' hb => sort_any n es w' A c (hA.below hb) hle (hTb w' hb)
  by_cases h0 : Gr.wrong n es = 0
  · obtain ⟨N, rfl, hN, hes, hln, hcs, hful⟩ := Gr.wrong_none h0
    have := levels_yes N (Gr.nat es) w A c hN hes hful (by rw [hln, ← hcs]; exact hA) (by omega) (fun w' hb => by
      rw [hln]
      refine (hs w' hb).mono ?_
      rintro e w'' ⟨v, he, -, hr, hb'⟩
      have hr := hr h0
      rw [Int.toNat_natCast, hful] at hr
      exact ⟨v, by rw [← h0]; exact he, hr, hb'⟩)
    rw [hln] at this
    refine this.mono ?_
    rintro e w' ⟨v, L, he, hr, hL, ht, hb⟩
    exact ⟨v, L, by rw [h0]; exact he, by rw [hL.len]; exact hr, fun h => absurd h0 h, fun _ => ⟨by rw [Int.toNat_natCast]; exact hL, by rw [Int.toNat_natCast]; exact ht⟩, hb⟩
  · have x0 := Blk.new w 24 [.int .i64 n, .slice A es.length c]
    have hb0 : Below w.heap.size w (w.alloc (.cells #[.int .i64 n, .slice A es.length c] 24)) := below_alloc (Below.refl _ _) _
    have hs0 := hs _ hb0
    obtain ⟨R, hR⟩ : ∃ R, R = Gr.wrong n es := ⟨_, rfl⟩
    rw [← hR] at hs0 h0 ⊢
    have g0 : (R != 0) = true := by simpa using h0
    have H0 := Lib.hid h0
    clear hR hA hTb hT hs h0
    go_enter Tryd.func29, Tryd.ntmps29
    go_upto_region 1 with (fail)
    generalize (w.alloc (.cells #[.int .i64 n, .slice A es.length c] 24)) = W0 at x0 hb0 hs0 ⊢
    have d0 : W0.cell? ⟨w.heap.size, 0, none⟩ = some (.int .i64 n) := (x0.cell 0).trans rfl
    have d1 : W0.cell? ⟨w.heap.size, 1, none⟩ = some (.slice A es.length c) := (x0.cell 1).trans rfl
    have HB := Lib.hid hb0
    clear hb0 x0
    go_wp2_with fail
    refine hs0.mono ?_
    rintro e w1 ⟨v, rfl, -, -, hb1⟩
    have HF := Lib.hid (below_next hb1 HB.out)
    clear hs0 hb1 d0 d1
    go_wp2_with fail
    go_ret2
    exact ⟨_, [], rfl, World.ownsRow_nil _ _ _ _, fun _ => rfl, fun h => absurd h H0.out, HF.out⟩

theorem max_any (v : Value) (L : List Nat) (w : World) (h : SlN w v L) (hne : L ≠ []) (hb : ∀ m, Gr.lget L m ≤ 1000000) :
    Calls Tryd.prog 39 #[v] w fun e w' => e = .returned (.int .i64 ((L.foldl max 0 : Nat) : Int)) ∧ w' = w := by
  obtain ⟨A, c, rfl, hle, hm⟩ := h.form
  unfold maxLen at hm
  have hpos : 0 < L.length := List.length_pos_iff.2 hne
  obtain ⟨g, o, rfl, hgl, c0⟩ := h.get (Gr.lget_some hpos)
  have hc : ∀ j, j < L.length → w.cell? ⟨g, o + j, none⟩ = some (.int .i64 (Gr.lget L j : Int)) := fun j hj => by
    obtain ⟨g', o', e, -, hcj⟩ := h.get (Gr.lget_some hj)
    injection e with e
    injection e with e1 e2
    subst e1 e2
    exact hcj
  obtain ⟨x, hx⟩ : ∃ x, x = Gr.lget L 0 := ⟨_, rfl⟩
  rw [← hx, Nat.add_zero] at c0
  have hx1 : (L.take 1).foldl max 0 = x := by
    rw [hx]
    rcases L with _ | ⟨y, L⟩
    · exact absurd rfl hne
    · simp [Gr.lget]
  have hxb : x ≤ 1000000 := by rw [hx]; exact hb 0
  have HC := Lib.hid (And.intro hc (And.intro hb hx1))
  clear h hne hc hb hx hx1
  go_enter Tryd.func39, Tryd.ntmps39
  go_wp2_with fail
  clear c0
  go_loopw [4, 3] (fun i m wr => ∃ (k : Nat) (y : Nat), 1 ≤ k ∧ k ≤ L.length ∧ i = .int .i64 (k : Int) ∧ m = .int .i64 (y : Int) ∧ y = (L.take k).foldl max 0 ∧ y ≤ 1000000 ∧ wr = w) (fun i _ _ => L.length - (intOf i).toNat)
  case atStart => exact ⟨1, x, Nat.le_refl _, hpos, rfl, rfl, HC.out.2.2.symm, hxb, rfl⟩
  case round =>
    obtain ⟨k, y, hk1, hk, rfl, rfl, hy, hyb, hwr⟩ := hrel
    obtain rfl : w = wr := hwr.symm
    by_cases hlt : k < L.length
    · have c1 := HC.out.1 k hlt
      have hzb := HC.out.2.1 k
      obtain ⟨z, hz⟩ : ∃ z, z = Gr.lget L k := ⟨_, rfl⟩
      rw [← hz] at c1 hzb
      have hst : max y z = (L.take (k + 1)).foldl max 0 := by rw [Gr.take_snoc (Gr.lget_some hlt), List.foldl_append, ← hy, ← hz]; rfl
      have HF := Lib.hid hst
      clear hst hy hz
      go_wp2_with fail
      go_roundw
      case rel => exact ⟨k + 1, max y z, by omega, by omega, by go_num, congrArg (Value.int .i64) (by omega), HF.out, by omega, by first | trivial | rfl⟩
      case measure => simp [intOf]; omega
    · obtain rfl : k = L.length := by omega
      rw [List.take_length] at hy
      have HF := Lib.hid hy
      clear hy
      go_wp2_with fail
      go_ret
      exact ⟨by rw [← HF.out]; rfl, rfl⟩

theorem hgt_le {L : List Nat} {N : Nat} (hl : L.length ≤ N) (h : ∀ m, Gr.lget L m ≤ N) : Gr.hgt L ≤ N + 1 := by
  unfold Gr.hgt
  split
  · omega
  · obtain ⟨-, -, h3⟩ := Gr.foldl_max L 0
    rcases h3 with h3 | h3
    · omega
    · obtain ⟨i, hi⟩ := List.getElem?_of_mem h3
      rw [Gr.lget_some (List.getElem?_eq_some_iff.1 hi).1] at hi
      injection hi with hi
      have := h i
      omega

set_option maxHeartbeats 4000000 in
theorem height_any (n : Int) (es : List Gr.Er) (w : World) (A : Option Addr) (c : Nat) (hA : SlV w 2 (.slice A es.length c) es.length (ercs es)) (hle : es.length ≤ 1099511627776) (hT : Tab w) :
    Calls Tryd.prog 15 #[.agg #[.int .i64 n, .slice A es.length c]] w fun e w' => ∃ h : Nat, e = .returned (.tuple #[.int .i64 (h : Int), .int .i64 (Gr.wrong n es)]) ∧ (Gr.wrong n es ≠ 0 → h = 0) ∧ (Gr.wrong n es = 0 → ∃ L, Gr.LvL n.toNat (Gr.nat es) L ∧ h = Gr.hgt L) ∧ h ≤ 201 ∧ Below w.heap.size w w' := by
  have hTb : ∀ w', Below w.heap.size w w' → Tab w' := fun w' hb j hj => (hb.cell (p := ⟨0, j, none⟩) hT.lt).trans (hT j hj)
  have x0 := Blk.new w 24 [.int .i64 n, .slice A es.length c]
  have hb0 : Below w.heap.size w (w.alloc (.cells #[.int .i64 n, .slice A es.length c] 24)) := below_alloc (Below.refl _ _) _
  have hs0 := levels_any n es _ A c (hA.below hb0) hle (hTb _ hb0)
  have hnN : Gr.wrong n es = 0 → n.toNat ≤ 200 := fun h => by
    obtain ⟨N, rfl, hN, -⟩ := Gr.wrong_none h
    rw [Int.toNat_natCast]
    exact hN
  obtain ⟨R, hR⟩ : ∃ R, R = Gr.wrong n es := ⟨_, rfl⟩
  rw [← hR] at hs0 hnN ⊢
  clear hR hA hTb hT
  go_enter Tryd.func15, Tryd.ntmps15
  go_upto_region 1 with (fail)
  generalize (w.alloc (.cells #[.int .i64 n, .slice A es.length c] 24)) = W0 at x0 hb0 hs0 ⊢
  have d0 : W0.cell? ⟨w.heap.size, 0, none⟩ = some (.int .i64 n) := (x0.cell 0).trans rfl
  have d1 : W0.cell? ⟨w.heap.size, 1, none⟩ = some (.slice A es.length c) := (x0.cell 1).trans rfl
  have HB := Lib.hid hb0
  clear hb0 x0
  go_wp2_with fail
  refine hs0.mono ?_
  rintro e w1 ⟨v, L, rfl, hr, h1, h2, hb1⟩
  have HF := Lib.hid (below_next hb1 HB.out)
  clear hs0 hb1 d0 d1
  obtain ⟨Av, cv, rfl, -, -⟩ := own_slice hr
  by_cases h0 : R = 0
  · subst h0
    obtain ⟨hL, htop⟩ := h2 rfl
    have hnN := hnN rfl
    have hll : L.length ≤ 200 := by rw [hL.len]; exact hnN
    by_cases hne : L = []
    · have hz : L.length = 0 := by rw [hne]; rfl
      have hh : Gr.hgt L = 0 := by unfold Gr.hgt; rw [if_pos hne]
      have HL := Lib.hid (And.intro hL hh)
      clear h1 h2 hL htop hr hne hh
      go_wp2_with fail
      go_ret2
      exact ⟨0, rfl, ⟨L, HL.out.1, HL.out.2.symm⟩, by omega, HF.out⟩
    · have hz : ((L.length : Int) == 0) = false := by
        have := List.length_pos_iff.2 hne
        simp
        omega
      have hmx := max_any _ L w1 (SlN.of_own hr) hne (fun m => Nat.le_trans (htop m) (by omega))
      have hle2 := hgt_le (L := L) (N := 200) hll (fun m => Nat.le_trans (htop m) hnN)
      have hh : Gr.hgt L = L.foldl max 0 + 1 := by unfold Gr.hgt; rw [if_neg hne]
      obtain ⟨M, hM⟩ : ∃ M, M = L.foldl max 0 := ⟨_, rfl⟩
      rw [← hM] at hmx hh
      rw [hh] at hle2
      have HL := Lib.hid (And.intro hL hh)
      clear h1 h2 hL htop hr hne hh hM
      go_wp2_with fail
      refine hmx.mono ?_
      rintro _ w2 ⟨rfl, rfl⟩
      clear hmx
      go_wp2_with fail
      go_ret2
      exact ⟨M + 1, by go_num, ⟨L, HL.out.1, HL.out.2.symm⟩, hle2, HF.out⟩
  · have g0 : (R != 0) = true := by simpa using h0
    have H0 := Lib.hid h0
    clear h1 h2 h0 hr
    go_wp2_with fail
    go_ret2
    exact ⟨0, rfl, fun _ => rfl, fun h => absurd h H0.out, by omega, HF.out⟩
end Go.Proofs.YtpimcghmpbbckaaDoor
