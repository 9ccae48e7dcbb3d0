/-
  The keep's OrderMirsky, walked.
-/
import Derived.Test.YtfjmhmfkhgjnhaaDoorOmP1
import Derived.Test.YtfjmhmfkhgjnhaaDoorOrP2
import Derived.Test.YtfjmhmfkhgjnhaaDoorOrP3

namespace Go.Proofs.YtfjmhmfkhgjnhaaDoor.Gr
set_option linter.unusedVariables false
set_option linter.unusedSimpArgs false
set_option maxRecDepth 100000

theorem lvl_eq {N : Nat} {es : List Ed} {L L' : List Nat} (h : LvL N es L) (h' : LvL N es L') : L = L' := by
  refine List.ext_getElem (by rw [h.len, h'.len]) fun i h1 h2 => ?_
  have e1 := lget_more h h' (fun _ h => h) _ i rfl
  have e2 := lget_more h' h (fun _ h => h) _ i rfl
  have g1 := lget_some h1
  have g2 := lget_some h2
  rw [List.getElem?_eq_getElem h1] at g1
  rw [List.getElem?_eq_getElem h2] at g2
  injection g1 with g1
  injection g2 with g2
  rw [g1, g2]
  omega
theorem lvl_way {N : Nat} {es : List Ed} {L : List Nat} (h : LvL N es L) {a b : Nat} (hw : Way es a b) : lget L a < lget L b := by
  induction hw with
  | one he => exact h.up _ he
  | on he _ ih => exact Nat.lt_trans (h.up _ he) ih
theorem lget_far {L : List Nat} {m : Nat} (h : L.length ≤ m) : lget L m = 0 := by
  unfold lget
  rw [List.getD_eq_getElem?_getD, List.getElem?_eq_none h]
  rfl
theorem lvl_all {N : Nat} {es : List Ed} {L : List Nat} (h : LvL N es L) (hes : ∀ e ∈ es, e.1 < N ∧ e.2 < N) : ∀ (d m k : Nat), m < N → lget L m = k + d → ∃ x, x < N ∧ lget L x = k
  | 0, m, k, hm, e => ⟨m, hm, by omega⟩
  | d + 1, m, k, hm, e => by
    obtain ⟨x, hx, h1, h2⟩ := h.down m (by omega)
    exact lvl_all h hes d x.1 k (hes x hx).1 (by omega)
/-- those of a level -/
def lev (L : List Nat) (k j : Nat) : List Nat := (List.range j).filter fun n => lget L n == k
theorem lev_succ (L : List Nat) (k j : Nat) : lev L k (j + 1) = lev L k j ++ (if lget L j == k then [j] else []) := by
  unfold lev
  rw [List.range_succ, List.filter_append]
  cases h : lget L j == k <;> simp [h]
theorem lev_length (L : List Nat) (k j : Nat) : (lev L k j).length ≤ j := by
  unfold lev
  have := List.length_filter_le (fun n => lget L n == k) (List.range j)
  rwa [List.length_range] at this
theorem hgt_get {L : List Nat} (h : L ≠ []) : ∃ m, m < L.length ∧ lget L m = L.foldl max 0 := by
  obtain ⟨-, h2, h3⟩ := foldl_max L 0
  rcases h3 with h3 | h3
  · have hp := List.length_pos_iff.2 h
    refine ⟨0, hp, ?_⟩
    have := h2 _ (List.mem_of_getElem? (lget_some hp))
    omega
  · obtain ⟨i, hi⟩ := List.getElem?_of_mem h3
    have hil := (List.getElem?_eq_some_iff.1 hi).1
    rw [lget_some hil] at hi
    injection hi with hi
    exact ⟨i, hil, hi⟩
theorem lev_some {N : Nat} {es : List Ed} {L : List Nat} (h : LvL N es L) (hes : ∀ e ∈ es, e.1 < N ∧ e.2 < N) {k : Nat} (hk : k < hgt L) : lev L k N ≠ [] := by
  unfold hgt at hk
  by_cases h0 : L = []
  · rw [if_pos h0] at hk; omega
  · rw [if_neg h0] at hk
    obtain ⟨m, hm, he⟩ := hgt_get h0
    rw [h.len] at hm
    obtain ⟨x, hx, hxk⟩ := lvl_all h hes (L.foldl max 0 - k) m k hm (by omega)
    have : x ∈ lev L k N := List.mem_filter.2 ⟨List.mem_range.2 hx, by simp [hxk]⟩
    exact List.ne_nil_of_mem this
theorem lev_apart {N : Nat} {es : List Ed} {L : List Nat} (h : LvL N es L) (k : Nat) : ApL N es ((lev L k N).map fun (x : Nat) => (x : Int)) := by
  have hm : ∀ x ∈ (lev L k N).map fun (x : Nat) => (x : Int), ∃ y : Nat, x = (y : Int) ∧ y < N ∧ lget L y = k := fun x hx => by
    obtain ⟨y, hy, rfl⟩ := List.mem_map.1 hx
    obtain ⟨h1, h2⟩ := List.mem_filter.1 hy
    exact ⟨y, rfl, List.mem_range.1 h1, by simpa using h2⟩
  refine ⟨fun x hx => ?_, ?_, fun x hx y hy hw => ?_⟩
  · obtain ⟨y, rfl, hy, -⟩ := hm x hx
    omega
  · refine List.pairwise_map.2 ?_
    exact (List.nodup_range.filter _).imp fun h e => h (by omega)
  · obtain ⟨a, rfl, -, ha⟩ := hm x hx
    obtain ⟨b, rfl, -, hb⟩ := hm y hy
    have := lvl_way h hw
    rw [Int.toNat_natCast, Int.toNat_natCast] at this
    omega
theorem chain_law {N : Nat} {es : List Ed} {L C : List Nat} (h : LvL N es L) (hes : ∀ e ∈ es, e.1 < N ∧ e.2 < N) (hc : ChainSaid N es L C) : C.length = hgt L ∧ (∀ x ∈ C, x < N) ∧ ∀ i a b, C[i]? = some a → C[i + 1]? = some b → Way es a b := by
  rcases hc with ⟨rfl, rfl⟩ | ⟨n0, h1, rfl⟩
  · exact ⟨rfl, (fun x hx => (by cases hx)), (fun i a b h => (by simp at h))⟩
  · have hl := (List.getElem?_eq_some_iff.1 h1).1
    have h0 : L ≠ [] := List.ne_nil_of_length_pos (by omega)
    rw [lget_some hl] at h1
    injection h1 with h1
    have hn0 : n0 < N := by rw [← h.len]; exact hl
    obtain ⟨c1, c2⟩ := cback_on h (fun e he => (hes e he).1) (lget L n0) n0 rfl hn0
    have hlen := cback_length N es L (lget L n0) n0
    unfold chainOf
    refine ⟨?_, fun x hx => c2 x (List.mem_reverse.1 hx), fun i a b ha hb => ?_⟩
    · rw [List.length_reverse, hlen]
      unfold hgt
      rw [if_neg h0, h1]
    · have hbl := (List.getElem?_eq_some_iff.1 hb).1
      rw [List.length_reverse] at hbl
      rw [List.getElem?_reverse (by omega)] at ha hb
      obtain ⟨t, ht⟩ : ∃ t, t = (cback N es L (lget L n0) n0).length - 1 - (i + 1) := ⟨_, rfl⟩
      rw [← ht] at hb
      rw [show (cback N es L (lget L n0) n0).length - 1 - i = t + 1 by omega] at ha
      exact .one (c1 t b a hb ha)
end Go.Proofs.YtfjmhmfkhgjnhaaDoor.Gr


namespace Go.Proofs.YtfjmhmfkhgjnhaaDoor
set_option linter.unusedVariables false
set_option linter.unusedSimpArgs false
set_option maxRecDepth 100000
open Go.RowKit

set_option maxHeartbeats 4000000 in
theorem abit_any (w : World) (v : Value) (xs : List Nat) (n : Nat) (h : SlU w v xs) (hn : n < 1099511627776) :
    Calls Tryd.prog 84 #[v, .int .i64 (n : Int)] w fun e w' => e = .returned (.bool (Bs.bit xs n)) ∧ w' = w := by
  obtain ⟨⟨A, c, rfl, hle, hm, hlen, hc⟩, hws⟩ := h
  unfold maxLen at hm
  have hq : ((n : Int) / 64) = ((n / 64 : Nat) : Int) := by omega
  have hr : ((n : Int) % 64) = ((n % 64 : Nat) : Int) := by omega
  by_cases hlt : n / 64 < xs.length
  · obtain ⟨x, hx⟩ : ∃ x, xs[n / 64]? = some x := ⟨_, List.getElem?_eq_getElem hlt⟩
    have hxw := hws x (List.mem_of_getElem? hx)
    have hx' : (nats xs)[n / 64]? = some (.int .u64 (x : Int)) := by simp [nats, hx]
    obtain ⟨g, o, rfl, hg, hcc⟩ := hc.at_ (fun e => by rw [e] at hx'; simp at hx')
    have cx := hcc _ _ hx'
    have hbit : Bs.bit xs n = decide (x / 2 ^ (n % 64) % 2 = 1) := by
      unfold Bs.bit Bs.at_
      rw [List.getD_eq_getElem?_getD, hx, Option.getD_some, Nat.testBit_eq_decide_div_mod_eq]
    obtain ⟨m, hmm⟩ : ∃ m, m = n % 64 := ⟨_, rfl⟩
    obtain ⟨i, hi⟩ : ∃ i, i = n / 64 := ⟨_, rfl⟩
    rw [← hmm] at hr hbit
    rw [← hi] at cx hlt hq
    have hin : (i : Int) < (xs.length : Int) := by omega
    have HB := Lib.hid (And.intro hbit hxw)
    clear hx hx' hcc hc hlen hws hbit hmm hi hxw
    go_enter Tryd.func84, Tryd.ntmps84
    go_wp2_with fail
    rw [hr]
    go_loopw [5, 18] (fun u i wr => ∃ k : Nat, k ≤ m ∧ i = .int .i64 (k : Int) ∧ u = .int .u64 ((x / 2 ^ k : Nat) : Int) ∧ wr = w) (fun _ i _ => m - (intOf i).toNat)
    case atStart => exact ⟨0, Nat.zero_le _, rfl, by simp, rfl⟩
    case round =>
      obtain ⟨k, hk, rfl, rfl, rfl⟩ := hrel
      obtain ⟨y, hy⟩ : ∃ y, y = x / 2 ^ k := ⟨_, rfl⟩
      have hyx : y < 18446744073709551616 := by rw [hy]; exact Nat.lt_of_le_of_lt (Nat.div_le_self _ _) HB.out.2
      rw [← hy]
      by_cases hkm : k < m
      · have hd : IntKind.u64.wrap ((y : Int).tdiv 2) = ((y / 2 : Nat) : Int) := by rw [IntWalk.u64_quo _ _ ⟨by omega, by omega, by omega⟩]; omega
        have hyk : y / 2 = x / 2 ^ (k + 1) := by rw [hy, Nat.div_div_eq_div_mul, ← Nat.pow_succ]
        have HY := Lib.hid hyk
        clear hy hyk cx
        go_wp2_with fail
        go_roundw
        case rel => exact ⟨k + 1, by omega, by go_num, by rw [← HY.out]; first | done | go_num | (congr 1), by first | trivial | rfl⟩
        case measure => simp [intOf]; omega
      · have hke : k = m := by omega
        subst hke
        have hf : (((y : Int) % 2) == 1) = Bs.bit xs n := by
          rw [HB.out.1, ← hy]
          by_cases h1 : y % 2 = 1
          · rw [decide_eq_true h1]; simp; omega
          · rw [decide_eq_false h1]; simp; omega
        have HF := Lib.hid hf
        clear hy hf cx
        go_wp2_with fail
        go_ret
        exact ⟨ret_bool HF.out, rfl⟩
  · have hbit : Bs.bit xs n = false := by
      unfold Bs.bit Bs.at_
      rw [List.getD_eq_getElem?_getD, List.getElem?_eq_none (by omega)]
      simp
    rw [hbit]
    obtain ⟨i, hi⟩ : ∃ i, i = n / 64 := ⟨_, rfl⟩
    rw [← hi] at hlt hq
    have hin : (xs.length : Int) ≤ (i : Int) := by omega
    clear hc hws hlen hbit hi
    go_enter Tryd.func84, Tryd.ntmps84
    go_wp2_with fail
    go_ret
    exact ⟨rfl, rfl⟩

theorem info_int_ab : (Tryd.prog.info? 3).map (fun i => (i.zero, i.size, i.bytes)) = some (some (.int .i64 0), 1, 8) := by kernel_rfl
set_option maxHeartbeats 4000000 in
theorem alist_any (w : World) (v : Value) (xs : List Nat) (h : SlU w v xs) (hl : xs.length ≤ 1024) :
    Calls Tryd.prog 61 #[v] w fun e w' => ∃ u, e = .returned u ∧ w'.ownsRow w.heap.size 3 1 u ((List.range (64 * xs.length)).filter (Bs.bit xs)).length (ilist ((List.range (64 * xs.length)).filter (Bs.bit xs))) ∧ Below w.heap.size w w' := by
  obtain ⟨A, c, rfl⟩ : ∃ A c, v = .slice A xs.length c := by
    obtain ⟨⟨A, c, e, -⟩, -⟩ := h
    exact ⟨A, c, e⟩
  obtain ⟨M, hM⟩ : ∃ M, M = 64 * xs.length := ⟨_, rfl⟩
  have hMl : M ≤ 65536 := by omega
  have h64 : (64 : Int) * (xs.length : Int) = (M : Int) := by omega
  rw [← hM]
  have hMf : ∀ k, ((List.range k).filter (Bs.bit xs)).length ≤ k := fun k => by
    have := List.length_filter_le (Bs.bit xs) (List.range k)
    rwa [List.length_range] at this
  have HM := Lib.hid (And.intro h (And.intro hM hMf))
  clear hM hMf h
  go_enter Tryd.func61, Tryd.ntmps61
  go_wp2_with fail
  go_loopw [3, 8] (fun u i wr => ∃ k : Nat, k ≤ M ∧ i = .int .i64 (k : Int) ∧ wr.ownsRow w.heap.size 3 1 u ((List.range k).filter (Bs.bit xs)).length (ilist ((List.range k).filter (Bs.bit xs))) ∧ Below w.heap.size w wr) (fun _ i _ => M - (intOf i).toNat)
  case atStart => exact ⟨0, Nat.zero_le _, rfl, World.ownsRow_nil _ _ _ _, Below.refl _ _⟩
  case round =>
    obtain ⟨k, hk, rfl, hown, hb⟩ := hrel
    obtain ⟨h, hM, hMf⟩ := HM.out
    have hfl := hMf k
    by_cases hlt : k < M
    · have gb := abit_any wr _ xs k (h.below hb) (by omega)
      have hsucc : (List.range (k + 1)).filter (Bs.bit xs) = (List.range k).filter (Bs.bit xs) ++ (if Bs.bit xs k then [k] else []) := by
        rw [List.range_succ, List.filter_append]
        cases hbk : Bs.bit xs k <;> simp [hbk]
      obtain ⟨pre, hpre⟩ : ∃ p, p = (List.range k).filter (Bs.bit xs) := ⟨_, rfl⟩
      rw [← hpre] at hown hsucc hfl
      obtain ⟨Al, cl, rfl, -, -⟩ := own_slice hown
      obtain ⟨pl, hpl⟩ : ∃ x, x = pre.length := ⟨_, rfl⟩
      rw [← hpl] at hown hfl ⊢
      have hsz := hb.size
      have HL := Lib.hid (show pl + 1 ≤ maxLen ∧ (pl + 1) * 8 ≤ 140737488355328 by unfold maxLen; omega)
      rcases hbk : Bs.bit xs k with _ | _
      · rw [hbk] at gb hsucc
        have HS := Lib.hid (And.intro hsucc (And.intro hown hpl))
        clear hM hsucc hpre hpl hbk h hown
        go_wp2_with fail
        refine gb.mono ?_
        rintro _ w2 ⟨rfl, rfl⟩
        clear gb
        go_wp2_with fail
        go_roundw
        case rel =>
          refine ⟨k + 1, by omega, by go_num, ?_, hb⟩
          rw [HS.out.1]
          simp only [Bool.false_eq_true, if_false, List.append_nil]
          rw [← HS.out.2.2]
          exact HS.out.2.1
        case measure => simp [intOf]; omega
      · rw [hbk] at gb hsucc
        have HS := Lib.hid (And.intro hsucc hpl)
        clear hM hsucc hpre hpl hbk h
        go_wp2_with fail
        refine gb.mono ?_
        rintro _ w2 ⟨rfl, rfl⟩
        clear gb
        go_wp2_with (first
          | (at_builtin; refine wp_push_at _ _ _ _ (by first | rfl | simp) _ _ _ _ _ _ Tryd.underlying26 info_int_ab rfl (by decide) hown [.int .i64 (k : Int)] rfl (by simp [Value.oneCell']) HL.out.1 HL.out.2 hsz rfl rfl rfl rfl ?_; intro v7 w7 hr7 hg7 hv7 hb7)
          | fail)
        have hb' := hb.trans hb7
        clear hown hg7 hv7 hb7
        go_roundw
        case rel =>
          refine ⟨k + 1, by omega, by go_num, ?_, hb'⟩
          rw [HS.out.1]
          simp only [if_true]
          have e : ilist (pre ++ [k]) = ilist pre ++ [.int .i64 (k : Int)] := by simp [ilist, ints]
          rw [List.length_append, ← HS.out.2, e]
          exact hr7
        case measure => simp [intOf]; omega
    · have hke : k = M := by omega
      subst hke
      obtain ⟨Al, cl, rfl, -, -⟩ := own_slice hown
      have HF := Lib.hid (And.intro hown hb)
      clear hown hb hM h
      go_wp2_with fail
      go_ret
      exact ⟨_, rfl, HF.out⟩
end Go.Proofs.YtfjmhmfkhgjnhaaDoor


namespace Go.Proofs.YtfjmhmfkhgjnhaaDoor
set_option linter.unusedVariables false
set_option linter.unusedSimpArgs false
set_option maxRecDepth 100000
open Go.RowKit

theorem own_ints {w : World} {B : Nat} {v : Value} {l : List Nat} (h : w.ownsRow B 3 1 v l.length (ilist l)) : SlV w 1 v (l.map fun (x : Nat) => (x : Int)).length (ints .i64 (l.map fun (x : Nat) => (x : Int))) := by
  rw [List.length_map]
  exact own_slV h
theorem has_bits {xs : List Nat} {b : Nat} (h : Bs.bit xs b = true) : Bs.has (b : Int) (((List.range (64 * xs.length)).filter (Bs.bit xs)).map fun (x : Nat) => (x : Int)) = true := by
  rw [has_take]
  refine List.mem_map.2 ⟨b, List.mem_filter.2 ⟨List.mem_range.2 ?_, h⟩, rfl⟩
  refine Nat.lt_of_not_le fun hle => ?_
  rw [Bs.bit_far hle] at h
  cases h

set_option maxHeartbeats 4000000 in
theorem kbehind_yes (N : Nat) (es : List Gr.Er) (w : World) (A : Option Addr) (c a b : Nat) (hA : SlV w 2 (.slice A es.length c) es.length (ercs es)) (hle : es.length ≤ 1099511627776) (hT : Tab w) (h0 : Gr.wrong (N : Int) es = 0) (haN : a < N) (hw : Gr.Way (Gr.nat es) a b) :
    Calls Tryd.prog 39 #[.agg #[.int .i64 (N : Int), .slice A es.length c], .int .i64 (a : Int), .int .i64 (b : Int)] w fun e w' => e = .returned (.bool true) ∧ Below w.heap.size w w' := by
  have hba : Below w.heap.size w (w.alloc (.cells #[.int .i64 (N : Int), .slice A es.length c] 24)) := below_alloc (Below.refl _ _) _
  have x0 := Blk.new w 24 [.int .i64 (N : Int), .slice A es.length c]
  have hbh := behind_any (N : Int) es _ A c (hA.below hba) hle (hT.later hT.lt hba)
  have hrow : (Gr.behW N (Gr.nat es))[a]? = some ((Gr.behW N (Gr.nat es)).getD a []) := by
    rw [List.getD_eq_getElem?_getD, List.getElem?_eq_getElem (by rw [Gr.behW_length]; exact haN)]
    rfl
  have hbit : Bs.bit ((Gr.behW N (Gr.nat es)).getD a []) b = true ∧ ((Gr.behW N (Gr.nat es)).getD a []).length ≤ 1024 := by
    obtain ⟨hok, N', e, hN, hes, hln, hl⟩ := Gr.wrong_zero h0
    have : N = N' := by omega
    subst this
    exact ⟨(Gr.behW_is hl (fun e he => (hes e he).2) a haN b).2 hw, by
      have := (Gr.behW_gs (fun e he => (hes e he).2) _ (List.mem_of_getElem? hrow)).length
      omega⟩
  rw [h0, Int.toNat_natCast] at hbh
  obtain ⟨BW, hBW⟩ : ∃ B, B = Gr.behW N (Gr.nat es) := ⟨_, rfl⟩
  have hBl : BW.length = N := by rw [hBW]; exact Gr.behW_length _ _
  rw [← hBW] at hbh hrow hbit
  obtain ⟨s, hs⟩ : ∃ s, s = BW.getD a [] := ⟨_, rfl⟩
  rw [← hs] at hrow hbit
  have haI : (a : Int) < (N : Int) := by omega
  have HX := Lib.hid (And.intro hrow (And.intro hbit hBl))
  clear hBW hs hrow hbit h0 hw hA hT hBl
  go_enter Tryd.func39, Tryd.ntmps39
  go_upto_region 1 with (fail)
  generalize (w.alloc (.cells #[.int .i64 (N : Int), .slice A es.length c] 24)) = W0 at x0 hba hbh ⊢
  have d0 : W0.cell? ⟨w.heap.size, 0, none⟩ = some (.int .i64 (N : Int)) := (x0.cell 0).trans rfl
  have d1 : W0.cell? ⟨w.heap.size, 1, none⟩ = some (.slice A es.length c) := (x0.cell 1).trans rfl
  go_wp2_with fail
  refine hbh.mono ?_
  rintro _ w1 ⟨v, rfl, -, hS, hb1⟩
  have hS := hS trivial
  obtain ⟨os, ⟨Ab, cb, rfl, -, -, hosl, hcc⟩, hrw⟩ := hS
  obtain ⟨hrow, hbit, hBl⟩ := HX.out
  have hosN : os.length = N := by omega
  obtain ⟨u, hu⟩ : ∃ u, os[a]? = some u := ⟨_, List.getElem?_eq_getElem (by omega)⟩
  obtain ⟨g, o, rfl, hg, hc⟩ := hcc.at_ (fun e => by rw [e] at hu; simp at hu)
  have cr := hc a u hu
  have hsu := hrw a u s hu hrow
  obtain ⟨R, rc, rfl⟩ : ∃ A c, u = .slice A s.length c := by
    obtain ⟨⟨A, c, e, -⟩, -⟩ := hsu
    exact ⟨A, c, e⟩
  have gA := alist_any w1 _ s hsu hbit.2
  have hh := has_bits hbit.1
  obtain ⟨L, hL⟩ : ∃ L, L = (List.range (64 * s.length)).filter (Bs.bit s) := ⟨_, rfl⟩
  rw [← hL] at gA hh
  have hb01 := below_next hb1 hba
  obtain ⟨sl, hsl⟩ : ∃ n, n = s.length := ⟨_, rfl⟩
  rw [← hsl] at gA cr
  rw [hBl]
  have HH := Lib.hid (And.intro hh hb01)
  clear hbh d0 d1 x0 hba hb1 hcc hrw hrow hbit hBl hosl hosN hu hc hsu hL hh hb01 hsl HX
  go_wp2_with fail
  refine gA.mono ?_
  rintro _ w2 ⟨u2, rfl, hr2, hb2⟩
  have hc2 := contains_i64 u2 _ (b : Int) w2 (own_ints hr2)
  rw [HH.out.1] at hc2
  obtain ⟨A2, c2, rfl, -, -⟩ := own_slice hr2
  have hb02 := below_next hb2 HH.out.2
  clear gA hr2 hb2 cr HH
  go_wp2_with fail
  refine hc2.mono ?_
  rintro _ w3 ⟨rfl, m, rfl⟩
  have HF := Lib.hid (below_drewN hb02 m)
  clear hc2 hb02
  go_wp2_with fail
  go_ret
  exact ⟨rfl, HF.out⟩

set_option maxRecDepth 20000 in
set_option maxHeartbeats 4000000 in
theorem chained_yes (N : Nat) (es : List Gr.Er) (w : World) (A Al : Option Addr) (c cl : Nat) (l : List Nat) (hA : SlV w 2 (.slice A es.length c) es.length (ercs es)) (hle : es.length ≤ 1099511627776) (hT : Tab w) (h0 : Gr.wrong (N : Int) es = 0) (hl : SlN w (.slice Al l.length cl) l) (hll : l.length ≤ 1099511627776) (hlN : ∀ x ∈ l, x < N) (hw : ∀ i a b, l[i]? = some a → l[i + 1]? = some b → Gr.Way (Gr.nat es) a b) :
    Calls Tryd.prog 14 #[.agg #[.int .i64 (N : Int), .slice A es.length c], .slice Al l.length cl] w fun e w' => e = .returned (.bool true) ∧ Below w.heap.size w w' := by
  have hba : Below w.heap.size w (w.alloc (.cells #[.int .i64 (N : Int), .slice A es.length c] 24)) := below_alloc (Below.refl _ _) _
  have x0 := Blk.new w 24 [.int .i64 (N : Int), .slice A es.length c]
  have HW := Lib.hid (And.intro hw (And.intro hlN h0))
  have hA0 := hA.below hba
  have hl0 := hl.below hba
  have hT0 := hT.later hT.lt hba
  clear hw hlN h0 hA hl hT
  obtain ⟨q, hq⟩ : ∃ q, q = w.heap.size := ⟨_, rfl⟩
  go_enter Tryd.func14, Tryd.ntmps14
  go_upto_region 1 with (fail)
  generalize (w.alloc (.cells #[.int .i64 (N : Int), .slice A es.length c] 24)) = W0 at x0 hba hA0 hl0 hT0 ⊢
  rw [← hq] at x0 ⊢
  have HQ := Lib.hid (And.intro hq hba)
  clear hq hba
  go_wp2_with fail
  go_loopw [5] (fun i wr => ∃ k : Nat, 1 ≤ k ∧ k ≤ l.length + 1 ∧ i = .int .i64 (k : Int) ∧ Below W0.heap.size W0 wr) (fun i _ => l.length + 1 - (intOf i).toNat)
  case atStart => exact ⟨1, Nat.le_refl _, by omega, rfl, Below.refl _ _⟩
  case round =>
    obtain ⟨k, hk1, hk, rfl, hb⟩ := hrel
    by_cases hlt : k < l.length
    · obtain ⟨j, hj⟩ : ∃ j, j = k - 1 := ⟨_, rfl⟩
      have hjl : j < l.length := by omega
      obtain ⟨a, ha⟩ : ∃ a, l[j]? = some a := ⟨_, List.getElem?_eq_getElem hjl⟩
      obtain ⟨b, hbb⟩ : ∃ b, l[k]? = some b := ⟨_, List.getElem?_eq_getElem hlt⟩
      have hway := HW.out.1 j a b ha (by rw [show j + 1 = k by omega]; exact hbb)
      have haN := HW.out.2.1 a (List.mem_of_getElem? ha)
      have hlr := hl0.below hb
      obtain ⟨gl, ol, e, hgl, ca⟩ := hlr.get ha
      subst e
      obtain ⟨gl', ol', e, -, cb⟩ := hlr.get hbb
      injection e with e
      injection e with e1 e2
      subst e1 e2
      have xr := x0.below hb
      have ar := hA0.below hb
      have tr := hT0.later hT0.lt hb
      have hsub : (k : Int) - 1 = (j : Int) := by omega
      have hwr : IntKind.i64.wrap (j : Int) = (j : Int) := by rw [wrap_is]; unfold wrap64; omega
      have keepS : ∀ w', Below wr.heap.size wr w' → Below wr.heap.size wr w' ∧ w'.cell? ⟨q, 0, none⟩ = some (.int .i64 (N : Int)) ∧ w'.cell? ⟨q, 1, none⟩ = some (.slice A es.length c) ∧ w'.cell? ⟨gl, ol + j, none⟩ = some (.int .i64 (a : Int)) ∧ w'.cell? ⟨gl, ol + k, none⟩ = some (.int .i64 (b : Int)) := fun w' h => ⟨h, ((xr.below h).cell 0).trans rfl, ((xr.below h).cell 1).trans rfl, (h.cell (p := ⟨gl, ol + j, none⟩) hgl).trans ca, (h.cell (p := ⟨gl, ol + k, none⟩) hgl).trans cb⟩
      have hS0 := keepS _ (below_drew (Below.refl _ _))
      have hkl : (k : Int) < (l.length : Int) := by omega
      have hjl' : (j : Int) < (l.length : Int) := by omega
      have gA : ∀ w' v2 c2, Below wr.heap.size wr w' → SlV w' 1 (.slice v2 2 c2) 2 (ints .i64 [(a : Int), (b : Int)]) → Calls Tryd.prog 13 #[.agg #[.int .i64 (N : Int), .slice A es.length c], .slice v2 2 c2] w' fun e w'' => e = .returned (.bool false) ∧ Below w'.heap.size w' w'' := fun w' v2 c2 h hs => by
        refine (apart_any (N : Int) es [(a : Int), (b : Int)] w' A v2 c c2 (ar.below h) hle (tr.later tr.lt h) hs).mono ?_
        rintro e w'' ⟨z, rfl, hz, h2⟩
        refine ⟨?_, h2⟩
        cases z
        · rfl
        · exact absurd hway ((hz.1 rfl).2.way (a : Int) (by simp) (b : Int) (by simp))
      have gB : ∀ w', Below wr.heap.size wr w' → Calls Tryd.prog 39 #[.agg #[.int .i64 (N : Int), .slice A es.length c], .int .i64 (a : Int), .int .i64 (b : Int)] w' fun e w'' => e = .returned (.bool true) ∧ Below w'.heap.size w' w'' := fun w' h => kbehind_yes N es w' A c a b (ar.below h) hle (tr.later tr.lt h) HW.out.2.2 haN hway
      have HJ := Lib.hid hj
      clear hj ha hbb hway haN hlr ca cb xr ar tr
      go_wp2_with fail
      refine wp_walk (by kernel_rfl) (by kernel_rfl) (fun w w' => Below w.heap.size w w') (fun w' => Below wr.heap.size wr w' ∧ w'.cell? ⟨q, 0, none⟩ = some (.int .i64 (N : Int)) ∧ w'.cell? ⟨q, 1, none⟩ = some (.slice A es.length c) ∧ w'.cell? ⟨gl, ol + j, none⟩ = some (.int .i64 (a : Int)) ∧ w'.cell? ⟨gl, ol + k, none⟩ = some (.int .i64 (b : Int))) hS0 ?_
      repeat (first | (refine settle_skip (fun _ => by rfl) ?_; (simp only [Act.put, List.setIfInBounds_toArray, List.set_cons_zero, List.set_cons_succ])) | (refine' settle_run (fun _ _ => Below.refl _ _) (fun _ => by rfl) ?_ ?_; rotate_left; (focus (intro ρ w hS hF; (try dsimp only at hS); go_split_ands; go_simp; try with_reducible rfl)); (simp only [Act.put, List.setIfInBounds_toArray, List.set_cons_zero, List.set_cons_succ])))
      (refine settle_known (FSl 1 2 [.int .i64 (a : Int), .int .i64 (b : Int)]) (by rfl) (fun _ => by rfl)  ?_ ?_; (focus (intro ρ w hS hF K hK; (simp only [Act.put, List.setIfInBounds_toArray, List.set_cons_zero, List.set_cons_succ] at hK); go_simp; exact hK _ _ (SlV.lit _ [.int .i64 (a : Int), .int .i64 (b : Int)] _ 1 2 rfl (by decide)) (keepS _ (below_alloc hS.1 _)) (below_alloc (Below.refl _ _) _))); (simp only [Act.put, List.setIfInBounds_toArray, List.set_cons_zero, List.set_cons_succ]))
      (refine' settle_step (fun _ => by rfl) ?_ ?_; rotate_left; (focus (intro ρ w hS hF K hK; (simp only [Act.put, List.setIfInBounds_toArray, List.set_cons_zero, List.set_cons_succ] at hK); go_simp; have h22 : SlV w 1 (ρ 22) 2 [.int .i64 (a : Int), .int .i64 (b : Int)] := hF.1 (by rfl); generalize ρ 22 = v22 at h22 hK ⊢; (obtain ⟨A2, c2, rfl, hx⟩ := id h22); refine (gA _ _ _ hS.1 h22).mono ?_; rintro e w6 ⟨rfl, hb6⟩; have hS' := keepS _ (below_next hb6 hS.1); have hE' := hb6; exact hK _ hS' hE')); (simp only [Act.put, List.setIfInBounds_toArray, List.set_cons_zero, List.set_cons_succ]))
      repeat (first | (refine settle_skip (fun _ => by rfl) ?_; (simp only [Act.put, List.setIfInBounds_toArray, List.set_cons_zero, List.set_cons_succ])) | (refine' settle_run (fun _ _ => Below.refl _ _) (fun _ => by rfl) ?_ ?_; rotate_left; (focus (intro ρ w hS hF; (try dsimp only at hS); go_split_ands; go_simp; try with_reducible rfl)); (simp only [Act.put, List.setIfInBounds_toArray, List.set_cons_zero, List.set_cons_succ])))
      (refine' settle_step (fun _ => by rfl) ?_ ?_; rotate_left; (focus (intro ρ w hS hF K hK; (simp only [Act.put, List.setIfInBounds_toArray, List.set_cons_zero, List.set_cons_succ] at hK); go_simp; go_at_call 39; refine (gB _ hS.1).mono ?_; rintro e w6 ⟨rfl, hb6⟩; have hS' := keepS _ (below_next hb6 hS.1); have hE' := hb6; exact hK _ hS' hE')); (simp only [Act.put, List.setIfInBounds_toArray, List.set_cons_zero, List.set_cons_succ]))
      repeat (first | (refine settle_skip (fun _ => by rfl) ?_; (simp only [Act.put, List.setIfInBounds_toArray, List.set_cons_zero, List.set_cons_succ])) | (refine' settle_run (fun _ _ => Below.refl _ _) (fun _ => by rfl) ?_ ?_; rotate_left; (focus (intro ρ w hS hF; (try dsimp only at hS); go_split_ands; go_simp; try with_reducible rfl)); (simp only [Act.put, List.setIfInBounds_toArray, List.set_cons_zero, List.set_cons_succ])))
      refine settle_nil ?_
      intro ρ w7 hS hF
      have hbr := hb.trans (hS.1.mono hb.size)
      clear hF hS hS0 keepS gA gB hb
      dsimp only
      generalize ρ 22 = v22
      go_wp2_with fail
      go_roundw
      case rel => exact ⟨k + 1, by omega, by omega, by go_num, hbr⟩
      case measure => simp [intOf]; omega
    · have hkl : ¬ (k : Int) < (l.length : Int) := by omega
      have HF := Lib.hid (below_next hb HQ.out.2)
      go_wp2_with fail
      go_ret
      exact ⟨rfl, HF.out⟩
end Go.Proofs.YtfjmhmfkhgjnhaaDoor


namespace Go.Proofs.YtfjmhmfkhgjnhaaDoor
set_option linter.unusedVariables false
set_option linter.unusedSimpArgs false
set_option maxRecDepth 100000
open Go.RowKit

set_option maxRecDepth 20000 in
set_option maxHeartbeats 8000000 in
theorem orderMirsky_walk (w : World) (n : Int) (es : List Gr.Er) (A : Option Addr) (c : Nat) (hA : SlV w 2 (.slice A es.length c) es.length (ercs es)) (hle : es.length ≤ 1099511627776) (hT : Tab w) :
    Calls Tryd.prog 3 #[.agg #[.int .i64 n, .slice A es.length c]] w fun e w' => e = .returned (.bool true) ∧ Below w.heap.size w w' := by
  have hb0 : Below w.heap.size w (w.alloc (.cells #[.int .i64 n, .slice A es.length c] 24)) := below_alloc (Below.refl _ _) _
  have x0 := Blk.new w 24 [.int .i64 n, .slice A es.length c]
  obtain ⟨q, hq⟩ : ∃ q, q = w.heap.size := ⟨_, rfl⟩
  go_enter Tryd.func3, Tryd.ntmps3
  go_upto_region 1 with (fail)
  generalize (w.alloc (.cells #[.int .i64 n, .slice A es.length c] 24)) = W0 at hb0 x0 ⊢
  have hT0 := hT.later hT.lt hb0
  have hA0 := hA.below hb0
  rw [← hq] at x0 ⊢
  go_wp2_with fail
  refine (alive3_any W0 hT0).mono ?_
  rintro _ w3 ⟨rfl, hb3⟩
  have HB := Lib.hid (And.intro (below_next hb3 hb0) hq)
  have hK : ∀ w', Below w3.heap.size w3 w' → (w'.cell? ⟨q, 0, none⟩ = some (.int .i64 n) ∧ w'.cell? ⟨q, 1, none⟩ = some (.slice A es.length c)) ∧ SlV w' 2 (.slice A es.length c) es.length (ercs es) ∧ Tab w' := fun w' hb =>
    ⟨⟨(((x0.below hb3).below hb).cell 0).trans rfl, (((x0.below hb3).below hb).cell 1).trans rfl⟩, (hA0.below hb3).below hb, hT0.later hT0.lt (below_self hb3 hb)⟩
  have HK := Lib.hid hK
  clear hK hb3 hb0 x0 hT0 hA0 hA hT hq
  obtain ⟨⟨c0, c1⟩, ga, gt⟩ := HK.out w3 (Below.refl _ _)
  have gL := levels_any n es w3 A c ga hle gt
  obtain ⟨R, hR⟩ : ∃ R, R = Gr.wrong n es := ⟨_, rfl⟩
  have gC := fun w' ga gt => chain_any n es w' A c ga hle gt
  have gH := fun w' ga gt => height_any n es w' A c ga hle gt
  rw [← hR] at gL gC gH
  have HR := Lib.hid hR
  clear hR
  go_wp2_with fail
  refine gL.mono ?_
  rintro _ w4 ⟨v1, L, rfl, r1, -, hL, hb4⟩
  clear c0 c1 ga gt gL
  obtain ⟨⟨c0, c1⟩, ga, gt⟩ := HK.out w4 hb4
  obtain ⟨A1, n1, rfl, -, -⟩ := own_slice r1
  have s1 := SlN.of_own r1
  go_wp2_with fail
  refine (gC w4 ga gt).mono ?_
  rintro _ w5 ⟨u2, L2, C, rfl, -, hC, r2, hb5⟩
  have hb05 := hb4.trans (hb5.mono hb4.size)
  have s15 := s1.below hb5
  clear c0 c1 ga gt gC r1 s1 hb4 hb5
  obtain ⟨⟨c0, c1⟩, ga, gt⟩ := HK.out w5 hb05
  obtain ⟨A2, n2, rfl, -, -⟩ := own_slice r2
  have s2 := SlN.of_own r2
  go_wp2_with fail
  refine (gH w5 ga gt).mono ?_
  rintro _ w6 ⟨h, rfl, -, hH, hh, hb6⟩
  have hb06 := hb05.trans (hb6.mono hb05.size)
  have s16 := s15.below hb6
  have s26 := s2.below hb6
  clear c0 c1 ga gt gH r2 s15 s2 hb05 hb6
  obtain ⟨⟨c0, c1⟩, ga, gt⟩ := HK.out w6 hb06
  by_cases h0 : R = 0
  · subst h0
    obtain ⟨hok, N, e, hN, hes, hln, hful⟩ := Gr.wrong_zero HR.out.symm
    subst e
    replace hL := hL rfl
    replace hC := hC rfl
    replace hH := hH rfl
    obtain ⟨hL, -⟩ := hL
    obtain ⟨hL2, hC⟩ := hC
    obtain ⟨L3, hL3, hh3⟩ := hH
    rw [Int.toNat_natCast] at hL hL2 hC hL3
    have e2 := Gr.lvl_eq hL2 hL
    have e3 := Gr.lvl_eq hL3 hL
    rw [e2] at hC
    rw [e3] at hh3
    clear e2 e3 hL2 hL3 L2 L3
    obtain ⟨q1, q2, q3⟩ := Gr.chain_law hL hes hC
    have hCh : C.length = h := by rw [q1, hh3]
    have hLN : L.length = N := hL.len
    have HP := Lib.hid (And.intro hL (And.intro hes (And.intro hh3 (And.intro q2 (And.intro q3 (And.intro HR.out.symm (And.intro hCh hLN)))))))
    have hcells : ∀ w' m, Below w6.heap.size w6 w' → m < N → ∃ g o, A1 = some ⟨g, o, none⟩ ∧ w'.cell? ⟨g, o + m, none⟩ = some (.int .i64 (Gr.lget L m : Int)) := fun w' m hb hm => by
      obtain ⟨g, o, h1, h2, h3⟩ := s16.get (Gr.lget_some (L := L) (m := m) (by omega))
      exact ⟨g, o, h1, (hb.cell (p := ⟨g, o + m, none⟩) h2).trans h3⟩
    have HC := Lib.hid (And.intro hcells s26)
    rw [hCh, hLN]
    have g1 : ((h : Int) != (h : Int)) = false := by simp
    have g2 : ((N : Int) != (N : Int)) = false := by simp
    clear hcells s26 s16 q1 q2 q3 hCh hLN hL hes hh3 hC HR
    go_wp2_with fail
    clear g1 g2 c0 c1 ga gt
    go_loopw [52] (fun i wr => ∃ k : Nat, k ≤ h ∧ i = .int .i64 (k : Int) ∧ Below w6.heap.size w6 wr) (fun i _ => h - (intOf i).toNat)
    case atStart => exact ⟨0, Nat.zero_le _, rfl, Below.refl _ _⟩
    case round =>
      obtain ⟨k, hk, rfl, hb⟩ := hrel
      by_cases hlt : k < h
      · go_wp2_with fail
        obtain ⟨wo, hwo⟩ : ∃ wo : World, wo = wr := ⟨_, rfl⟩
        subst hwo
        go_loopw [10, 57] (fun u i w' => ∃ j : Nat, j ≤ N ∧ i = .int .i64 (j : Int) ∧ w'.ownsRow wo.heap.size 3 1 u (Gr.lev L k j).length (ilist (Gr.lev L k j)) ∧ Below wo.heap.size wo w') (fun _ i _ => N - (intOf i).toNat)
        case atStart => exact ⟨0, Nat.zero_le _, rfl, World.ownsRow_nil _ _ _ _, Below.refl _ _⟩
        case round =>
          obtain ⟨j, hj, rfl, hown, hbi⟩ := hrel
          have hb6 := hb.trans (hbi.mono hb.size)
          by_cases hjN : j < N
          · obtain ⟨g, o, e, cj⟩ := HC.out.1 wr j hb6 hjN
            subst e
            have hsucc := Gr.lev_succ L k j
            have hfl := Gr.lev_length L k j
            obtain ⟨pre, hpre⟩ : ∃ p, p = Gr.lev L k j := ⟨_, rfl⟩
            rw [← hpre] at hown hsucc hfl
            obtain ⟨y, hy⟩ : ∃ y, y = Gr.lget L j := ⟨_, rfl⟩
            rw [← hy] at cj hsucc
            obtain ⟨Al, cl, rfl, -, -⟩ := own_slice hown
            obtain ⟨pl, hpl⟩ : ∃ x, x = pre.length := ⟨_, rfl⟩
            rw [← hpl] at hown hfl ⊢
            have hsz := hbi.size
            have hN200 : N ≤ 200 := hN
            have HL := Lib.hid (show pl + 1 ≤ maxLen ∧ (pl + 1) * 8 ≤ 140737488355328 by unfold maxLen; omega)
            rcases hbk : ((y : Int) == (k : Int)) with _ | _
            · have hyk : (y == k) = false := by
                rw [beq_eq_false_iff_ne] at hbk ⊢
                omega
              rw [hyk] at hsucc
              have HS := Lib.hid (And.intro hsucc (And.intro hown hpl))
              clear hsucc hpre hpl hown hy hyk
              go_wp2_with fail
              go_roundw
              case rel =>
                refine ⟨j + 1, by omega, by go_num, ?_, hbi⟩
                rw [HS.out.1]
                simp only [Bool.false_eq_true, if_false, List.append_nil]
                rw [← HS.out.2.2]
                exact HS.out.2.1
              case measure => simp [intOf]; omega
            · have hyk : (y == k) = true := by
                rw [beq_iff_eq] at hbk ⊢
                omega
              rw [hyk] at hsucc
              have HS := Lib.hid (And.intro hsucc hpl)
              clear hsucc hpre hpl hy hyk
              go_wp2_with (first
                | (at_builtin; refine wp_push_at _ _ _ _ (by first | rfl | simp) _ _ _ _ _ _ Tryd.underlying26 info_int_ab rfl (by decide) hown [.int .i64 (j : Int)] rfl (by simp [Value.oneCell']) HL.out.1 HL.out.2 hsz rfl rfl rfl rfl ?_; intro v7 w7 hr7 hg7 hv7 hb7)
                | fail)
              have hb' := hbi.trans hb7
              clear hown hg7 hv7 hb7
              go_roundw
              case rel =>
                refine ⟨j + 1, by omega, by go_num, ?_, hb'⟩
                rw [HS.out.1]
                simp only [if_true]
                have e : ilist (pre ++ [j]) = ilist pre ++ [.int .i64 (j : Int)] := by simp [ilist, ints]
                rw [List.length_append, ← HS.out.2, e]
                exact hr7
              case measure => simp [intOf]; omega
          · have hjn : j = N := by omega
            subst hjn
            obtain ⟨hL, hes, hh3, q2, q3, hw0, hCh, hLN⟩ := HP.out
            obtain ⟨⟨c0, c1⟩, ga, gt⟩ := HK.out wr (hb06.trans (hb6.mono hb06.size))
            obtain ⟨Al, cl, rfl, -, -⟩ := own_slice hown
            have hne := Gr.lev_some hL hes (k := k) (by omega)
            have hap := Gr.lev_apart hL k
            have gAp := apart_any (j : Int) es ((Gr.lev L k j).map fun (x : Nat) => (x : Int)) wr A Al c cl ga hle gt (by have := own_ints hown; rw [List.length_map] at this ⊢; exact this)
            rw [List.length_map, Int.toNat_natCast] at gAp
            have hpl0 : (Gr.lev L k j).length ≠ 0 := fun e => hne (List.eq_nil_of_length_eq_zero e)
            have hbt : ∀ b : Bool, (b = true ↔ Gr.wrong (j : Int) es = 0 ∧ Gr.ApL j (Gr.nat es) ((Gr.lev L k j).map fun (x : Nat) => (x : Int))) → b = true := fun b h => h.2 ⟨hw0, hap⟩
            have HT := Lib.hid hbt
            obtain ⟨pl, hpl⟩ : ∃ x, x = (Gr.lev L k j).length := ⟨_, rfl⟩
            rw [← hpl] at hpl0 gAp ⊢
            have gz : ((pl : Int) == 0) = false := by
              rw [beq_eq_false_iff_ne]
              omega
            clear hL hes hh3 q2 q3 hw0 hCh hLN hne hap hown hbt hpl
            go_wp2_with fail
            refine gAp.mono ?_
            rintro _ w8 ⟨z, rfl, hz, hb8⟩
            have hzt := HT.out z hz
            subst hzt
            have hb68 := hb6.trans (hb8.mono hb6.size)
            clear gAp hz hb8 c0 c1 ga gt
            go_wp2_with fail
            go_roundw
            case rel => exact ⟨k + 1, by omega, by go_num, hb68⟩
            case measure => simp [intOf]; omega
      · have hke : k = h := by omega
        subst hke
        obtain ⟨⟨c0, c1⟩, ga, gt⟩ := HK.out wr (hb06.trans (hb.mono hb06.size))
        obtain ⟨hL, hes, hh3, q2, q3, hw0, hCh, hLN⟩ := HP.out
        have s2r := HC.out.2.below hb
        have gCh := chained_yes N es wr A A2 c n2 C ga hle gt hw0 s2r (by omega) q2 q3
        rw [hCh] at gCh
        have hbw := below_next (hb06.trans (hb.mono hb06.size)) HB.out.1
        clear hL hes hh3 q2 q3 hw0 hCh hLN s2r
        go_wp2_with fail
        refine gCh.mono ?_
        rintro _ w9 ⟨rfl, hb9⟩
        have HF := Lib.hid (below_next hb9 hbw)
        clear gCh c0 c1 ga gt hbw hb9
        go_wp2_with fail
        go_ret
        exact ⟨rfl, HF.out⟩
  · have g0 : (R != 0) = true := by simpa using h0
    have HF := Lib.hid (below_next hb06 HB.out.1)
    clear h0 s16 s26 ga gt hL hC hH
    go_wp2_with fail
    go_ret
    exact ⟨by simp, HF.out⟩
end Go.Proofs.YtfjmhmfkhgjnhaaDoor
