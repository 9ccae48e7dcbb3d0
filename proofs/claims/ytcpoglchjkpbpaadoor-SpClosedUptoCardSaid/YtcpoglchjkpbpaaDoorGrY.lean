/-
  Closure and Core of a graph of numbers that has no rounds.
-/
import Derived.Test.YtcpoglchjkpbpaaDoorGrX
import Derived.Laws.StructEq

namespace Go.Proofs.YtcpoglchjkpbpaaDoor.Gr
set_option linter.unusedVariables false
set_option linter.unusedSimpArgs false
set_option maxRecDepth 100000
open Bs

/-- where every edge goes along a way of a graph without rounds, all can be taken -/
theorem full_of_sub {N : Nat} {es es' : List Ed} (hl : (take N es).length = N) (hsub : ∀ e ∈ es', Way es e.1 e.2) (hlt : ∀ e ∈ es', e.1 < N ∧ e.2 < N) : (take N es').length = N := by
  have hg := good_take N es
  have hg' := good_take N es'
  have hst := take_stop N es'
  have key : ∀ (i m : Nat), (take N es)[i]? = some m → m ∈ take N es' := by
    intro i
    induction i using Nat.strongRecOn with
    | _ i ih =>
      intro m hm
      by_cases hc : m ∈ take N es'
      · exact hc
      · exfalso
        have hmN := hg.lt m (List.mem_of_getElem? hm)
        have hr := nxt_none hst m hmN
        have : ¬ rdy es' (take N es') m = true := by rw [hr]; simp
        rw [rdy_iff] at this
        apply this
        refine ⟨hc, fun e he em => ?_⟩
        have hw := hsub e he
        rw [em] at hw
        obtain ⟨j, hj, hje⟩ := hg.up hw i hm
        exact ih j hj _ hje
  have hall : ∀ m, m < N → m ∈ take N es' := fun m hm => by
    obtain ⟨i, hi⟩ := List.getElem?_of_mem (hg.full hl m hm)
    exact key i m hi
  have h1 := (List.nodup_range (n := N)).length_le_of_subset (l₂ := take N es') (fun m hm => hall m (List.mem_range.1 hm))
  have h2 := hg'.length
  rw [List.length_range] at h1
  omega
theorem way_sub {es es' : List Ed} (h : ∀ e ∈ es', Way es e.1 e.2) {a b : Nat} (hw : Way es' a b) : Way es a b := by
  induction hw with
  | one he => exact h _ he
  | on he _ ih => exact (h _ he).trans ih

set_option linter.unusedSectionVars false
section
variable {N : Nat} {es : List Ed} (hl : (take N es).length = N) (hes : ∀ e ∈ es, e.1 < N ∧ e.2 < N)
include hl hes
theorem way_lt {a b : Nat} (h : Way es a b) : a < N ∧ b < N := by
  constructor
  · obtain ⟨m, hm, -⟩ := h.head; exact (hes _ hm).1
  · obtain ⟨m, hm⟩ := h.last; exact (hes _ hm).2
theorem beh_bit {a b : Nat} (ha : a < N) : bit ((behW N es).getD a []) b = true ↔ Way es a b := behW_is hl (fun e he => (hes e he).2) a ha b
theorem beh_gs : ∀ s ∈ behW N es, Gs N s := behW_gs fun e he => (hes e he).2
/-- an edge of the closure is a way -/
theorem clo_edge (e : Ed) : e ∈ edW (behW N es) ↔ Way es e.1 e.2 := by
  rw [edW_mem (beh_gs hl hes), behW_length]
  constructor
  · rintro ⟨h1, h2⟩
    exact (beh_bit hl hes h1).1 h2
  · intro h
    have h1 := (way_lt hl hes h).1
    exact ⟨h1, (beh_bit hl hes h1).2 h⟩
/-- an edge of the core is a way that no two ways make -/
theorem core_edge (e : Ed) : e ∈ edW (coreW (behW N es)) ↔ Way es e.1 e.2 ∧ ∀ m, Way es e.1 m → ¬ Way es m e.2 := by
  rw [edW_mem (coreW_gs (beh_gs hl hes)), coreW_length, behW_length]
  constructor
  · rintro ⟨h1, h2⟩
    rw [coreW_getD _ (by rw [behW_length]; exact h1), core1_bit (beh_gs hl hes), beh_bit hl hes h1] at h2
    refine ⟨h2.1, fun m hm hc => ?_⟩
    have := h2.2 m ((beh_bit hl hes h1).2 hm)
    rw [(beh_bit hl hes (way_lt hl hes hc).1).2 hc] at this
    cases this
  · rintro ⟨h1, h2⟩
    have h0 := (way_lt hl hes h1).1
    refine ⟨h0, ?_⟩
    rw [coreW_getD _ (by rw [behW_length]; exact h0), core1_bit (beh_gs hl hes), beh_bit hl hes h0]
    refine ⟨h1, fun m hm => ?_⟩
    have hw := (beh_bit hl hes h0).1 hm
    cases hc : bit ((behW N es).getD m []) e.2 with
    | false => rfl
    | true => exact absurd ((beh_bit hl hes (way_lt hl hes hw).2).1 hc) (h2 m hw)
theorem core_way {a b : Nat} (h : Way es a b) : Way (edW (coreW (behW N es))) a b := by
  have hg := good_take N es
  obtain ⟨j, hj⟩ := List.getElem?_of_mem (hg.full hl b (way_lt hl hes h).2)
  obtain ⟨i, hi, hia⟩ := hg.up h j hj
  have key : ∀ (d i j a b : Nat), j - i = d → (take N es)[i]? = some a → (take N es)[j]? = some b → Way es a b → Way (edW (coreW (behW N es))) a b := by
    intro d
    induction d using Nat.strongRecOn with
    | _ d ih =>
      intro i j a b hd hia hjb hw
      by_cases hc : ∀ m, Way es a m → ¬ Way es m b
      · exact .one ((core_edge hl hes (a, b)).2 ⟨hw, hc⟩)
      · have : ∃ m, Way es a m ∧ Way es m b := by
          apply Classical.byContradiction
          intro h
          exact hc fun m h1 h2 => h ⟨m, h1, h2⟩
        obtain ⟨m, h1, h2⟩ := this
        obtain ⟨k, hk, hkm⟩ := hg.up h2 j hjb
        obtain ⟨i', hi', hia'⟩ := hg.up h1 k hkm
        have := hg.inj hia hia'
        subst this
        exact (ih (k - i) (by omega) i k a m rfl hia hkm h1).trans (ih (j - k) (by omega) k j m b rfl hkm hjb h2)
  exact key _ i j a b rfl hia hj h
/-- graphs with the same ways have the same sets -/
theorem beh_same {es' : List Ed} (hl' : (take N es').length = N) (hes' : ∀ e ∈ es', e.1 < N ∧ e.2 < N) (h : ∀ a b, Way es' a b ↔ Way es a b) : behW N es' = behW N es := by
  apply List.ext_getElem
  · rw [behW_length, behW_length]
  · intro i h1 h2
    rw [behW_length] at h1
    refine (beh_gs hl' hes' _ (List.getElem_mem (by rw [behW_length]; exact h1))).ext (beh_gs hl hes _ (List.getElem_mem h2)) fun m => ?_
    have e1 : bit ((behW N es').getD i []) m = bit ((behW N es).getD i []) m := by
      rw [Bool.eq_iff_iff, beh_bit hl' hes' h1, beh_bit hl hes h1, h]
    rw [List.getD_eq_getElem?_getD, List.getD_eq_getElem?_getD, List.getElem?_eq_getElem (by rw [behW_length]; exact h1), List.getElem?_eq_getElem h2] at e1
    exact e1
theorem clo_lt : ∀ e ∈ edW (behW N es), e.1 < N ∧ e.2 < N := edW_lt (beh_gs hl hes) (behW_length _ _)
theorem core_lt : ∀ e ∈ edW (coreW (behW N es)), e.1 < N ∧ e.2 < N := edW_lt (coreW_gs (beh_gs hl hes)) (by rw [coreW_length, behW_length])
theorem clo_full : (take N (edW (behW N es))).length = N := full_of_sub hl (fun e he => (clo_edge hl hes e).1 he) (clo_lt hl hes)
theorem core_full : (take N (edW (coreW (behW N es)))).length = N := full_of_sub hl (fun e he => ((core_edge hl hes e).1 he).1) (core_lt hl hes)
theorem clo_same : behW N (edW (behW N es)) = behW N es := beh_same hl hes (clo_full hl hes) (clo_lt hl hes) fun a b => ⟨way_sub fun e he => (clo_edge hl hes e).1 he, fun h => .one ((clo_edge hl hes (a, b)).2 h)⟩
theorem core_same : behW N (edW (coreW (behW N es))) = behW N es := beh_same hl hes (core_full hl hes) (core_lt hl hes) fun a b => ⟨way_sub fun e he => ((core_edge hl hes e).1 he).1, core_way hl hes⟩
theorem clo_has : ∀ e ∈ es, e ∈ edW (behW N es) := fun e he => (clo_edge hl hes e).2 (.one he)
/-- an edge of the core is one of the graph's -/
theorem core_in (e : Ed) (h : e ∈ edW (coreW (behW N es))) : e ∈ es := by
  obtain ⟨h1, h2⟩ := (core_edge hl hes e).1 h
  obtain ⟨m, hm, rfl | hw⟩ := h1.head
  · exact hm
  · exact absurd hw (h2 m (.one hm))
end
theorem ls_nodup {N : Nat} {s : List Nat} (h : Gs N s) : (ls 0 s).Nodup := (ls_rise s 0 h.ws).imp fun h => by omega
theorem edk_nodup {N : Nat} {L : List (List Nat)} (h : ∀ s ∈ L, Gs N s) : ∀ k, (edk L k).Nodup
  | 0 => by rw [edk_zero]; exact List.nodup_nil
  | k + 1 => by
    rw [edk_succ]
    refine List.nodup_append.2 ⟨edk_nodup h k, ?_, fun e he f hf heq => ?_⟩
    · exact List.pairwise_map.2 ((ls_nodup (getD_gs h k)).imp fun hab hc => hab (by injection hc))
    · obtain ⟨j, -, rfl⟩ := List.mem_map.1 hf
      have := ((edk_mem h k e).1 he).1
      rw [heq] at this
      exact absurd this (by simp)
/-- one edge of the core is left out: what it led to is not behind any more -/
theorem least_law {N : Nat} {es : List Ed} (hl : (take N es).length = N) (hes : ∀ e ∈ es, e.1 < N ∧ e.2 < N) {k : Nat} {e : Ed} (hk : (edW (coreW (behW N es)))[k]? = some e) :
    let less := (edW (coreW (behW N es))).take k ++ (edW (coreW (behW N es))).drop (k + 1)
    (take N less).length = N ∧ (∀ x ∈ less, x.1 < N ∧ x.2 < N) ∧ e.2 ∉ ls 0 ((behW N less).getD e.1 []) ∧ e.1 < N ∧ e ∈ es := by
  intro less
  have hsub : ∀ x ∈ less, x ∈ edW (coreW (behW N es)) := fun x hx => (List.mem_append.1 hx).elim (fun h => List.mem_of_mem_take h) (fun h => List.mem_of_mem_drop h)
  have hlt : ∀ x ∈ less, x.1 < N ∧ x.2 < N := fun x hx => core_lt hl hes x (hsub x hx)
  have hw : ∀ x ∈ less, Way es x.1 x.2 := fun x hx => ((core_edge hl hes x).1 (hsub x hx)).1
  have hf := full_of_sub hl hw hlt
  have he := List.mem_of_getElem? hk
  have hnd : (edW (coreW (behW N es))).Nodup := edk_nodup (coreW_gs (beh_gs hl hes)) _
  have hno : e ∉ less := fun hc => by
    rcases List.mem_append.1 hc with h | h
    · obtain ⟨i, hi⟩ := List.getElem?_of_mem h
      rw [List.getElem?_take] at hi
      split at hi
      · have := (List.getElem_inj hnd).1 ((List.getElem?_eq_some_iff.1 hi).2.trans (List.getElem?_eq_some_iff.1 hk).2.symm)
        omega
      · cases hi
    · obtain ⟨i, hi⟩ := List.getElem?_of_mem h
      rw [List.getElem?_drop] at hi
      have := (List.getElem_inj hnd).1 ((List.getElem?_eq_some_iff.1 hi).2.trans (List.getElem?_eq_some_iff.1 hk).2.symm)
      omega
  refine ⟨hf, hlt, fun hc => ?_, (core_lt hl hes e he).1, core_in hl hes e he⟩
  have h1 := (mem_list (getD_gs (beh_gs hf hlt) e.1).ws e.2).1 hc
  have h2 := (beh_bit hf hlt (core_lt hl hes e he).1).1 h1
  have h3 := ((core_edge hl hes e).1 he).2
  obtain ⟨m, hm, rfl | hmw⟩ := h2.head
  · exact hno hm
  · exact h3 m (hw _ hm) (way_sub hw hmw)
end Go.Proofs.YtcpoglchjkpbpaaDoor.Gr


namespace Go.Proofs.YtcpoglchjkpbpaaDoor
set_option linter.unusedVariables false
set_option linter.unusedSimpArgs false
set_option maxRecDepth 100000
open Go.RowKit

theorem edcs_get (l : List (Nat × Nat)) (i : Nat) (p : Nat × Nat) (h : l[i]? = some p) : (edcs l)[i * 2]? = some (.int .i64 (p.1 : Int)) ∧ (edcs l)[i * 2 + 1]? = some (.int .i64 (p.2 : Int)) :=
  ⟨flat_get edc 2 (fun _ => rfl) l i 0 p h (by omega), flat_get edc 2 (fun _ => rfl) l i 1 p h (by omega)⟩
theorem take_snoc_eq {α : Type} {xs ys : List α} {k : Nat} {x y : α} (hx : xs[k]? = some x) (hy : ys[k]? = some y) (ht : xs.take k = ys.take k) (e : x = y) : xs.take (k + 1) = ys.take (k + 1) := by
  have hsn : ∀ (z : α) (l : List α), l[k]? = some z → l.take (k + 1) = l.take k ++ [z] := fun z l h => by
    obtain ⟨h', rfl⟩ := List.getElem?_eq_some_iff.1 h
    exact List.take_succ_eq_append_getElem h'
  rw [hsn _ _ hx, hsn _ _ hy, ht, e]
theorem ne_of_get {α : Type} {xs ys : List α} {k : Nat} {x y : α} (hx : xs[k]? = some x) (hy : ys[k]? = some y) (e : x ≠ y) : xs ≠ ys := by
  rintro rfl
  rw [hx] at hy
  injection hy with hy
  exact e hy

theorem info_edge2 : (Tryd.prog.info? 34).map (fun i => (i.zero, i.size, i.bytes)) = some (some (.agg #[.int .i64 0, .int .i64 0]), 2, 16) := by kernel_rfl

set_option maxHeartbeats 2000000 in
theorem equal_edges (v v' : Value) (xs ys : List (Nat × Nat)) (w : World) (h : SlV w 2 v xs.length (edcs xs)) (h' : SlV w 2 v' ys.length (edcs ys)) :
    Calls Tryd.prog 49 #[v, v'] w fun e w' => e = .returned (.bool (decide (xs = ys))) ∧ ∃ m, w' = w.drewN m := by
  obtain ⟨A, c, rfl, hle, hm, hlen, hc⟩ := h
  obtain ⟨A', c', rfl, hle', hm', hlen', hc'⟩ := h'
  clear hlen hlen'
  unfold maxLen at hm hm'
  by_cases hn : xs.length = ys.length
  · have hne : ((xs.length : Int) != ys.length) = false := by simp [hn]
    have HN := Lib.hid hn
    clear hn
    go_enter Tryd.func49, Tryd.ntmps49
    go_wp2
    go_loopw [13] (fun i wr => ∃ k : Nat, k ≤ xs.length ∧ i = .int .i64 k ∧ (∃ a, wr = w.drewN a) ∧ xs.take k = ys.take k) (fun i _ => xs.length - (intOf i).toNat)
    case atStart => exact ⟨0, Nat.zero_le _, rfl, ⟨0, rfl⟩, rfl⟩
    case round =>
      obtain ⟨k, hk, rfl, ⟨a, rfl⟩, ht⟩ := hrel
      have HT := Lib.hid ht
      clear ht
      by_cases hlt : k < xs.length
      · have hlt' : k < ys.length := by rw [← HN.out]; exact hlt
        obtain ⟨⟨x1, x2⟩, hx⟩ : ∃ x, xs[k]? = some x := ⟨_, List.getElem?_eq_getElem hlt⟩
        obtain ⟨⟨y1, y2⟩, hy⟩ : ∃ x, ys[k]? = some x := ⟨_, List.getElem?_eq_getElem hlt'⟩
        obtain ⟨gx1, gx2⟩ := edcs_get _ _ _ hx
        obtain ⟨gy1, gy2⟩ := edcs_get _ _ _ hy
        obtain ⟨b, o, rfl, hb, hcc⟩ := hc.at_ (fun e => by rw [e] at gx1; simp at gx1)
        obtain ⟨b', o', rfl, hb', hcc'⟩ := hc'.at_ (fun e => by rw [e] at gy1; simp at gy1)
        have c1 := hcc _ _ gx1
        have c2 := hcc _ _ gx2
        have d1 := hcc' _ _ gy1
        have d2 := hcc' _ _ gy2
        rw [← Nat.add_assoc] at c2 d2
        have HX := Lib.hid hx
        have HY := Lib.hid hy
        clear hc hc' hcc hcc' hx hy gx1 gx2 gy1 gy2
        by_cases e : x1 = y1 ∧ x2 = y2
        · obtain ⟨rfl, rfl⟩ := e
          go_wp2
          go_quiet (fail)
          go_wp2
          go_roundw
          case rel => exact ⟨k + 1, by omega, by go_num, ⟨_, rfl⟩, take_snoc_eq HX.out HY.out HT.out rfl⟩
          case measure => simp [intOf]; omega
        · have hnl : xs ≠ ys := ne_of_get HX.out HY.out (fun h => by injection h with h1 h2; exact e ⟨h1, h2⟩)
          have HNL := Lib.hid hnl
          obtain ⟨X1, hX1⟩ : ∃ z : Int, z = x1 := ⟨_, rfl⟩
          obtain ⟨X2, hX2⟩ : ∃ z : Int, z = x2 := ⟨_, rfl⟩
          obtain ⟨Y1, hY1⟩ : ∃ z : Int, z = y1 := ⟨_, rfl⟩
          obtain ⟨Y2, hY2⟩ : ∃ z : Int, z = y2 := ⟨_, rfl⟩
          have he : (X1 == Y1 && X2 == Y2) = false := by
            rw [Bool.eq_false_iff]
            intro h
            simp only [Bool.and_eq_true, beq_iff_eq] at h
            exact e ⟨by omega, by omega⟩
          rw [← hX1] at c1
          rw [← hX2] at c2
          rw [← hY1] at d1
          rw [← hY2] at d2
          clear e hnl hX1 hX2 hY1 hY2
          rcases h1 : X1 == Y1 with _ | _
          · clear he
            go_wp2
            go_quiet (fail)
            go_wp2
            go_ret
            exact ⟨ret_bool (by simp [HNL.out]), ⟨_, World.drewN_drewN _ _ _⟩⟩
          · have h2 : (X2 == Y2) = false := by rw [h1] at he; simpa using he
            clear he
            go_wp2
            go_quiet (fail)
            go_wp2
            go_ret
            exact ⟨ret_bool (by simp [HNL.out]), ⟨_, World.drewN_drewN _ _ _⟩⟩
      · have HK := Lib.hid (show k = xs.length by omega)
        clear hc hc'
        go_wp2
        go_ret
        refine ⟨ret_bool ?_, ⟨_, rfl⟩⟩
        symm
        simp only [decide_eq_true_eq]
        have := HT.out
        rw [HK.out, List.take_length, HN.out, List.take_length] at this
        exact this
  · have hne : ((xs.length : Int) != ys.length) = true := by simp; omega
    have hnl : xs ≠ ys := fun e => hn (by rw [e])
    have HNL := Lib.hid hnl
    clear hnl hc hc'
    go_enter Tryd.func49, Tryd.ntmps49
    go_wp2
    go_ret
    exact ⟨ret_bool (by simp [HNL.out]), ⟨0, rfl⟩⟩

set_option maxHeartbeats 2000000 in
theorem index_edge (v : Value) (xs : List (Nat × Nat)) (s1 s2 : Nat) (w : World) (h : SlV w 2 v xs.length (edcs xs)) :
    Calls Tryd.prog 48 #[v, .agg #[.int .i64 (s1 : Int), .int .i64 (s2 : Int)]] w fun e w' => (∃ z : Int, e = .returned (.int .i64 z) ∧ ((s1, s2) ∈ xs → decide (0 ≤ z) = true)) ∧ Below w.heap.size w w' := by
  obtain ⟨A, c, rfl, hle, hm, hlen, hc⟩ := h
  clear hlen
  unfold maxLen at hm
  obtain ⟨S1, hS1⟩ : ∃ z : Int, z = s1 := ⟨_, rfl⟩
  obtain ⟨S2, hS2⟩ : ∃ z : Int, z = s2 := ⟨_, rfl⟩
  rw [← hS1, ← hS2]
  have HS := Lib.hid (And.intro hS1 hS2)
  clear hS1 hS2
  obtain ⟨q, hq⟩ : ∃ q, q = w.heap.size := ⟨_, rfl⟩
  have pb := Blk.new w 34 [.int .i64 S1, .int .i64 S2]
  have hbw : Below w.heap.size w (w.alloc (.cells [Value.int .i64 S1, .int .i64 S2].toArray 34)) := below_alloc (Below.refl _ _) _
  go_enter Tryd.func48, Tryd.ntmps48
  go_wp2
  rw [← hq] at pb hbw ⊢
  generalize (w.alloc (.cells [Value.int .i64 S1, .int .i64 S2].toArray 34)) = W at pb hbw ⊢
  go_loopw [8] (fun i wr => ∃ k : Nat, k ≤ xs.length ∧ i = .int .i64 k ∧ (∃ a, wr = W.drewN a) ∧ (s1, s2) ∉ xs.take k) (fun i _ => xs.length - (intOf i).toNat)
  case atStart => exact ⟨0, Nat.zero_le _, rfl, ⟨0, rfl⟩, by simp⟩
  case round =>
    obtain ⟨k, hk, rfl, ⟨a, rfl⟩, ht⟩ := hrel
    have HT := Lib.hid ht
    clear ht
    have d1 : W.cell? ⟨q, 0, none⟩ = some (.int .i64 S1) := (pb.cell 0).trans rfl
    have d2 : W.cell? ⟨q, 1, none⟩ = some (.int .i64 S2) := (pb.cell 1).trans rfl
    by_cases hlt : k < xs.length
    · obtain ⟨⟨x1, x2⟩, hx⟩ : ∃ x, xs[k]? = some x := ⟨_, List.getElem?_eq_getElem hlt⟩
      obtain ⟨gx1, gx2⟩ := edcs_get _ _ _ hx
      obtain ⟨b, o, rfl, hb, hcc⟩ := hc.at_ (fun e => by rw [e] at gx1; simp at gx1)
      have c1 := (hbw.cell (p := ⟨b, o + k * 2, none⟩) (by rw [hq]; exact hb)).trans (hcc _ _ gx1)
      have c2 := (hbw.cell (p := ⟨b, o + (k * 2 + 1), none⟩) (by rw [hq]; exact hb)).trans (hcc _ _ gx2)
      rw [← Nat.add_assoc] at c2
      obtain ⟨X1, hX1⟩ : ∃ z : Int, z = x1 := ⟨_, rfl⟩
      obtain ⟨X2, hX2⟩ : ∃ z : Int, z = x2 := ⟨_, rfl⟩
      rw [← hX1] at c1
      rw [← hX2] at c2
      have HX := Lib.hid (And.intro hx (And.intro hX1 (And.intro hX2 hq)))
      clear hc hcc hx gx1 gx2 hX1 hX2 hq
      have nope : ¬ (S1 = X1 ∧ S2 = X2) → (s1, s2) ∉ xs.take (k + 1) := fun hn hmem => by
        obtain ⟨h', hx'⟩ := List.getElem?_eq_some_iff.1 HX.out.1
        rw [List.take_succ_eq_append_getElem h', hx'] at hmem
        rcases List.mem_append.1 hmem with hmem | hmem
        · exact HT.out hmem
        · simp only [List.mem_singleton, Prod.mk.injEq] at hmem
          obtain ⟨e1, e2⟩ := hmem
          have := HS.out
          have := HX.out.2
          exact hn ⟨by omega, by omega⟩
      have HN := Lib.hid nope
      clear nope
      rcases h1 : S1 == X1 with _ | _
      · have hn : ¬ (S1 = X1 ∧ S2 = X2) := fun h => by simp [h.1] at h1
        have HNo := Lib.hid (HN.out hn)
        clear hn
        go_wp2
        go_quiet (fail)
        go_wp2
        go_roundw
        case rel => exact ⟨k + 1, by omega, by go_num, ⟨_, rfl⟩, HNo.out⟩
        case measure => simp [intOf]; omega
      · rcases h2 : S2 == X2 with _ | _
        · have hn : ¬ (S1 = X1 ∧ S2 = X2) := fun h => by simp [h.2] at h2
          have HNo := Lib.hid (HN.out hn)
          clear hn
          go_wp2
          go_quiet (fail)
          go_wp2
          go_roundw
          case rel => exact ⟨k + 1, by omega, by go_num, ⟨_, rfl⟩, HNo.out⟩
          case measure => simp [intOf]; omega
        · go_wp2
          go_quiet (fail)
          go_wp2
          go_ret
          exact ⟨⟨_, rfl, fun _ => by simp⟩, by rw [← HX.out.2.2.2]; exact below_drewN (below_drewN hbw _) _⟩
    · have HK := Lib.hid (show k = xs.length by omega)
      clear hc
      have HQ := Lib.hid hq
      clear hq
      go_wp2
      go_ret
      exact ⟨⟨_, rfl, fun h => by
        have := HT.out
        rw [HK.out, List.take_length] at this
        exact absurd h this⟩, by rw [← HQ.out]; exact below_drewN hbw _⟩
theorem contains_edge (v : Value) (xs : List (Nat × Nat)) (s1 s2 : Nat) (w : World) (h : SlV w 2 v xs.length (edcs xs)) (hmem : (s1, s2) ∈ xs) :
    Calls Tryd.prog 21 #[v, .agg #[.int .i64 (s1 : Int), .int .i64 (s2 : Int)]] w fun e w' => e = .returned (.bool true) ∧ Below w.heap.size w w' := by
  have hb0 : Below w.heap.size w (w.alloc (.cells #[.int .i64 (s1 : Int), .int .i64 (s2 : Int)] 34)) := below_alloc (Below.refl _ _) _
  have hi := index_edge v xs s1 s2 _ (h.alloc (.cells #[.int .i64 (s1 : Int), .int .i64 (s2 : Int)] 34))
  obtain ⟨A, c, rfl, hle, hm, hlen, hc⟩ := h
  clear hlen hc hm hle
  have HM := Lib.hid hmem
  clear hmem
  go_enter Tryd.func21, Tryd.ntmps21
  go_wp2_with fail
  refine hi.mono ?_
  rintro e w1 ⟨⟨z, rfl, hz⟩, hb1⟩
  have HZ := Lib.hid (hz HM.out)
  have hb2 := below_next hb1 hb0
  clear hz hi hb0 hb1
  go_wp2
  go_ret
  exact ⟨ret_bool HZ.out, hb2⟩

set_option maxHeartbeats 2000000 in
theorem same_graph (w : World) (n m : Int) (A A' : Option Addr) (c c' : Nat) (es fs : List Gr.Ed) (h : SlV w 2 (.slice A es.length c) es.length (edcs es)) (h' : SlV w 2 (.slice A' fs.length c') fs.length (edcs fs)) (hn : n = m) (he : es = fs) :
    Calls Tryd.prog 22 #[.agg #[.int .i64 n, .slice A es.length c], .agg #[.int .i64 m, .slice A' fs.length c']] w fun e w' => e = .returned (.bool true) ∧ Below w.heap.size w w' := by
  subst hn he
  have x0 := (Blk.new w 24 [.int .i64 n, .slice A es.length c]).alloc (.cells #[.int .i64 n, .slice A' es.length c'] 24)
  have y0 := Blk.new (w.alloc (.cells #[.int .i64 n, .slice A es.length c] 24)) 24 [.int .i64 n, .slice A' es.length c']
  simp only [World.size_alloc] at y0
  have hb0 : Below w.heap.size w ((w.alloc (.cells #[.int .i64 n, .slice A es.length c] 24)).alloc (.cells #[.int .i64 n, .slice A' es.length c'] 24)) := below_alloc (below_alloc (Below.refl _ _) _) _
  have h1 := h.below hb0
  have h2 := h'.below hb0
  go_enter Tryd.func22, Tryd.ntmps22
  go_upto_region 1 with (fail)
  generalize ((w.alloc (.cells #[.int .i64 n, .slice A es.length c] 24)).alloc (.cells #[.int .i64 n, .slice A' es.length c'] 24)) = W0 at x0 y0 hb0 h1 h2 ⊢
  have c0 : W0.cell? ⟨w.heap.size, 0, none⟩ = some (.int .i64 n) := (x0.cell 0).trans rfl
  have c1 : W0.cell? ⟨w.heap.size, 1, none⟩ = some (.slice A es.length c) := (x0.cell 1).trans rfl
  have d0 : W0.cell? ⟨w.heap.size + 1, 0, none⟩ = some (.int .i64 n) := (y0.cell 0).trans rfl
  have d1 : W0.cell? ⟨w.heap.size + 1, 1, none⟩ = some (.slice A' es.length c') := (y0.cell 1).trans rfl
  clear h h' x0 y0
  go_wp2_with fail
  refine (equal_edges _ _ es es _ h1 h2).mono ?_
  rintro e w1 ⟨rfl, m, rfl⟩
  have hb1 := below_drewN hb0 m
  clear h1 h2 hb0 c0 c1 d0 d1
  rw [show decide (es = es) = true by simp]
  go_wp2_with fail
  go_ret
  exact ⟨rfl, hb1⟩

theorem clone_edge (v : Value) (n : Nat) (xs : List Value) (w : World) (h : SlV w 2 v n xs) (h1 : ∀ u ∈ xs, u.oneCell' = true) (hr : n * 16 ≤ 140737488355328) :
    Calls Tryd.prog 29 #[v] w fun e w' => ∃ u, e = .returned u ∧ w'.ownsRow w.heap.size 34 2 u n xs ∧ Below w.heap.size w w' := by
  obtain ⟨A, c, rfl, hle, hm, hlen, hc⟩ := h
  unfold maxLen at hm
  have heq := fun (w : World) (A : Option Addr) (n c : Nat) => Lib.run_eql_slice_nil (P := Tryd.prog) w _ _ A n c 0 0 Tryd.underlying22
  rcases A with _ | a
  · have h0 : xs = [] := by
      rcases xs with _ | ⟨x, xs⟩
      · rfl
      · obtain ⟨b, o, h1, _⟩ := hc
        have := (h1 (by simp)).1
        cases this
    have hn : n = 0 := by subst h0; simp at hlen; omega
    subst h0
    subst hn
    go_enter Tryd.func29, Tryd.ntmps29
    go_wp2
    go_ret
    exact ⟨_, rfl, World.ownsRow_nil _ _ _ _, Below.refl _ _⟩
  · go_enter Tryd.func29, Tryd.ntmps29
    have hmade := World.ownsRow_made (e := 34) (size := 2) (base := w.heap.size) w #[] 0 (Nat.le_refl _) (Nat.zero_le _) rfl
    have hc' := hc.keep (w' := w.alloc (.cells #[] 34)) (Nat.le_refl _) (fun p hp => World.cell?_alloc_lt w _ p hp)
    have n63 : 0 + n ≤ maxLen := by unfold maxLen; omega
    have n47 : (0 + n) * 16 ≤ 140737488355328 := by omega
    go_wp2_with (at_builtin; refine wp_append _ _ _ _ _ _ _ _ _ Tryd.underlying22 info_edge2 rfl (by decide) hmade hc' hlen h1 n63 n47 (by simp) rfl rfl rfl rfl ?_; intro v' w' hown _ _ hb)
    go_ret
    refine ⟨_, rfl, by simpa using hown, ((Below.refl _ _).alloc (Nat.le_refl _) _).trans hb⟩
end Go.Proofs.YtcpoglchjkpbpaaDoor


namespace Go.Proofs.YtcpoglchjkpbpaaDoor
set_option linter.unusedVariables false
set_option linter.unusedSimpArgs false
set_option maxRecDepth 100000
open Go.RowKit

namespace Gr
def raw (l : List Ed) : List Er := l.map fun e => ((e.1 : Int), (e.2 : Int))
theorem raw_nat (l : List Ed) : nat (raw l) = l := by
  unfold nat raw
  rw [List.map_map]
  conv => rhs; rw [← List.map_id l]
  exact List.map_congr_left fun e _ => by simp
theorem raw_length (l : List Ed) : (raw l).length = l.length := by simp [raw]
theorem raw_ok {N : Nat} {l : List Ed} (hN : N ≤ 200) (hlt : ∀ e ∈ l, e.1 < N ∧ e.2 < N) : okG N (raw l) = true := by
  rw [okG_iff]
  refine ⟨by omega, by omega, fun e he => ?_⟩
  obtain ⟨x, hx, rfl⟩ := List.mem_map.1 he
  have := hlt x hx
  simp only
  omega
theorem raw_wrong {N : Nat} {l : List Ed} (hN : N ≤ 200) (hlt : ∀ e ∈ l, e.1 < N ∧ e.2 < N) (hf : (take N l).length = N) : wrong N (raw l) = 0 := by
  unfold wrong
  rw [raw_ok hN hlt, raw_nat, Int.toNat_natCast, hf]
  simp
end Gr
theorem ercs_raw (l : List Gr.Ed) : ercs (Gr.raw l) = edcs l := by
  unfold ercs edcs Gr.raw
  rw [List.flatMap_map]
  rfl
section
variable {N : Nat} {l : List Gr.Ed} (hN : N ≤ 200) (hlt : ∀ e ∈ l, e.1 < N ∧ e.2 < N) (hf : (Gr.take N l).length = N) (w : World) (A : Option Addr) (c : Nat) (hA : SlV w 2 (.slice A l.length c) l.length (edcs l)) (hle : l.length ≤ 1099511627776) (hT : Tab w)
include hN hlt hf hA hle hT
theorem closure_nat : Calls Tryd.prog 19 #[.agg #[.int .i64 (N : Int), .slice A l.length c]] w fun e w' => ∃ A' c', e = .returned (.tuple #[.agg #[.int .i64 (N : Int), .slice A' (Gr.edW (Gr.behW N l)).length c'], .int .i64 0]) ∧ SlV w' 2 (.slice A' (Gr.edW (Gr.behW N l)).length c') (Gr.edW (Gr.behW N l)).length (edcs (Gr.edW (Gr.behW N l))) ∧ Below w.heap.size w w' := by
  have h := closure_any N (Gr.raw l) w A c (by rw [Gr.raw_length, ercs_raw]; exact hA) (by rw [Gr.raw_length]; exact hle) hT
  rw [Gr.raw_length, Gr.raw_wrong hN hlt hf, Gr.raw_nat, Int.toNat_natCast] at h
  refine h.mono ?_
  rintro e w' ⟨g, rfl, -, hg, hb⟩
  obtain ⟨u, rfl, hu⟩ := hg rfl
  obtain ⟨A', c', rfl⟩ := hu.form
  exact ⟨A', c', rfl, hu, hb⟩
theorem core_nat : Calls Tryd.prog 20 #[.agg #[.int .i64 (N : Int), .slice A l.length c]] w fun e w' => ∃ A' c', e = .returned (.tuple #[.agg #[.int .i64 (N : Int), .slice A' (Gr.edW (Gr.coreW (Gr.behW N l))).length c'], .int .i64 0]) ∧ SlV w' 2 (.slice A' (Gr.edW (Gr.coreW (Gr.behW N l))).length c') (Gr.edW (Gr.coreW (Gr.behW N l))).length (edcs (Gr.edW (Gr.coreW (Gr.behW N l)))) ∧ Below w.heap.size w w' := by
  have h := core_any N (Gr.raw l) w A c (by rw [Gr.raw_length, ercs_raw]; exact hA) (by rw [Gr.raw_length]; exact hle) hT
  rw [Gr.raw_length, Gr.raw_wrong hN hlt hf, Gr.raw_nat, Int.toNat_natCast] at h
  refine h.mono ?_
  rintro e w' ⟨g, rfl, -, hg, hb⟩
  obtain ⟨u, rfl, hu⟩ := hg rfl
  obtain ⟨A', c', rfl⟩ := hu.form
  exact ⟨A', c', rfl, hu, hb⟩
theorem behind_nat : Calls Tryd.prog 15 #[.agg #[.int .i64 (N : Int), .slice A l.length c]] w fun e w' => ∃ v, e = .returned (.tuple #[v, .int .i64 0]) ∧ SlW w' v (Gr.behW N l) ∧ Below w.heap.size w w' := by
  have h := behind_any N (Gr.raw l) w A c (by rw [Gr.raw_length, ercs_raw]; exact hA) (by rw [Gr.raw_length]; exact hle) hT
  rw [Gr.raw_length, Gr.raw_wrong hN hlt hf, Gr.raw_nat, Int.toNat_natCast] at h
  refine h.mono ?_
  rintro e w' ⟨g, rfl, -, hg, hb⟩
  exact ⟨g, rfl, hg rfl, hb⟩
end
end Go.Proofs.YtcpoglchjkpbpaaDoor
