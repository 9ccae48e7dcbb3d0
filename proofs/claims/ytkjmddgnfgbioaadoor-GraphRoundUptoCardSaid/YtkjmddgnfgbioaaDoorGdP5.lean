/-
  An argument that is a graph, at a law's end.
-/
import Derived.Test.YtkjmddgnfgbioaaDoorGdP4
import Derived.Test.YtkjmddgnfgbioaaDoorGdP3
import Derived.Test.YtkjmddgnfgbioaaDoorRows
import Derived.Test.YtkjmddgnfgbioaaDoorCards
import Derived.Test.YtkjmddgnfgbioaaDoorTie
import Derived.Test.YtkjmddgnfgbioaaDoorGdP1
import Derived.WalkKit
import Derived.ProofKit
import Derived.OpenShut
import Derived.Deep.DeepHandedRow
import Derived.Lib.LaidTab

namespace Go.Proofs.YtkjmddgnfgbioaaDoor
set_option linter.unusedVariables false
set_option linter.unusedSimpArgs false
set_option maxRecDepth 100000
open Go.RowKit

def Gr.ers (L : List Gr.Ed) : List Gr.Er := L.map fun e => ((e.1 : Int), (e.2 : Int))
theorem gd_wf {a : Int} (h : -9223372036854775808 ≤ a ∧ a ≤ 9223372036854775807) : (Lit.int .i64 a).wf = true := WalkArith.wf_i64 (by omega)

set_option maxHeartbeats 4000000 in
theorem gdleads_any (l : List Int) (L : List Gr.Ed) (w : World) (pg : Nat) (v : Value) (A : Option Addr) (c : Nat) (hl : SlI .i64 w v l) (hll : l.length ≤ 1099511627776) (hc1 : w.cell? ⟨pg, 1, none⟩ = some (.slice A L.length c)) (hA : SlV w 2 (.slice A L.length c) L.length (edcs L)) (hL : ∀ e ∈ L, e.1 ≤ 200 ∧ e.2 ≤ 200) (hLl : L.length ≤ 1099511627776) :
    Calls Tryd.prog 43 #[v, .pointer (some ⟨pg, 0, none⟩)] w fun e w' => e = .returned (.bool (Gr.leads l (Gr.ers L))) ∧ Below w.heap.size w w' := by
  obtain ⟨Al, cl, rfl, hle, hm, hlen, hcl⟩ := id hl.1
  have hmm := @run_makeMap Tryd.prog
  have hlt := World.block_lt_of_cell? _ _ hc1
  have M0 : MapI (w.alloc (.map #[] 0)) w.heap.size 0 (Gr.at_ (l.take 0)) := by rw [List.take_zero]; exact MapI.made w
  have hb0 : Below w.heap.size w (w.alloc (.map #[] 0)) := below_alloc (Below.refl _ _) _
  clear hcl hlen
  go_enter Tryd.func43, Tryd.ntmps43
  go_wp2_with fail
  go_loopw [12] (fun i wr => ∃ k m : Nat, k ≤ l.length ∧ m ≤ k ∧ i = .int .i64 (k : Int) ∧ MapI wr w.heap.size m (Gr.at_ (l.take k)) ∧ Below w.heap.size w wr) (fun i _ => l.length - (intOf i).toNat)
  case atStart => exact ⟨0, 0, Nat.zero_le _, Nat.le_refl _, rfl, M0, hb0⟩
  case round =>
    clear M0 hb0
    obtain ⟨k, m, hk, hmk, rfl, hM, hb⟩ := hrel
    by_cases hlt2 : k < l.length
    · obtain ⟨x, hx⟩ : ∃ x, l[k]? = some x := ⟨_, List.getElem?_eq_getElem hlt2⟩
      obtain ⟨_, _, e5, -, -, -, hcc⟩ := hl.1.below hb
      injection e5 with e5 e6 e7
      subst e5 e7
      obtain ⟨b, o, rfl, hbl, hcell⟩ := hcc.at_ (fun e => by simp [ints] at e; rw [e] at hlt2; simp at hlt2)
      have c1 := hcell k (.int .i64 x) (by rw [ints_get _ _ _ hlt2, List.getD_eq_getElem?_getD, hx]; rfl)
      have hwf : (Lit.int .i64 x).wf = true := hl.2 x (List.mem_of_getElem? hx)
      have hn63 : m < maxLen := by unfold maxLen; omega
      have hs : l.take (k + 1) = l.take k ++ [x] := by rw [List.take_add_one, hx]; rfl
      have hsn : Gr.at_ (l.take (k + 1)) = fun j => if j = x then (k : Int) + 1 else Gr.at_ (l.take k) j := by
        rw [hs, Gr.at_snoc]
        have : (l.take k).length = k := by rw [List.length_take]; omega
        rw [this]
      have HF := Lib.hid (And.intro hb (And.intro hsn hs))
      clear hcell hcc hx hsn hs hb e6
      go_wp2_with (first | (at_mapUpdate; refine wp_mapset rfl _ rfl _ _ _ rfl w.heap.size m _ rfl hM hn63 _ _ rfl rfl hwf (by first | exact gd_wf (by omega) | exact wrap64_wf _) ?_; intro w4 hM4 hg4) | fail)
      rw [← HF.out.2.1] at hM4
      have hb4 := HF.out.1.trans (below_of_grown hg4 HF.out.1.size (Nat.le_refl _))
      have HG := Lib.hid (And.intro hM4 hb4)
      clear hM4 hg4 hb4 hM
      go_roundw
      case rel => exact ⟨k + 1, m + 1, by omega, by omega, by go_num, HG.out.1, HG.out.2⟩
      case measure => simp [intOf]; omega
    · obtain rfl : k = l.length := by omega
      rw [List.take_length] at hM
      have hlk : ∀ w' (e : Nat), Below wr.heap.size wr w' → e ≤ 200 → (Instr.lookup 73 (.map (some w.heap.size)) (.int .i64 (e : Int)) false).run Tryd.prog w' = .ok (.int .i64 (Gr.at_ l (e : Int))) w' := fun w' e h1 h2 => (hM.next h1).look (gd_wf (by omega))
      have c1 : wr.cell? ⟨pg, 1, none⟩ = some (.slice A L.length c) := (hb.cell (p := ⟨pg, 1, none⟩) hlt).trans hc1
      have HB := Lib.hid (And.intro hb (hA.below hb))
      clear hb hM hA hc1
      go_wp2_with fail
      clear c1
      obtain ⟨w2, hw2⟩ : ∃ w2 : World, w2 = wr := ⟨_, rfl⟩
      subst hw2
      go_loopw [25] (fun i wr => ∃ k : Nat, k ≤ L.length ∧ i = .int .i64 (k : Int) ∧ Gr.leads l (Gr.ers (L.take k)) = true ∧ Below w2.heap.size w2 wr) (fun i _ => L.length - (intOf i).toNat)
      case atStart => exact ⟨0, Nat.zero_le _, rfl, rfl, Below.refl _ _⟩
      case round =>
        obtain ⟨k, hk, rfl, hld, hb⟩ := hrel
        by_cases hlt3 : k < L.length
        · obtain ⟨x, hx⟩ : ∃ x, L[k]? = some x := ⟨_, List.getElem?_eq_getElem hlt3⟩
          obtain ⟨gx1, gx2⟩ := edcs_get _ _ _ hx
          obtain ⟨hx1, hx2⟩ := hL x (List.mem_of_getElem? hx)
          obtain ⟨_, _, e5, -, -, -, hcc⟩ := HB.out.2.below hb
          injection e5 with e5 e6 e7
          subst e5 e7
          obtain ⟨b, o, rfl, hbl, hcell⟩ := hcc.at_ (fun e => by rw [e] at gx1; simp at gx1)
          have d1 := hcell _ _ gx1
          have d2 := hcell _ _ gx2
          rw [← Nat.add_assoc] at d2
          have hs : L.take (k + 1) = L.take k ++ [x] := by rw [List.take_add_one, hx]; rfl
          have hsn : Gr.leads l (Gr.ers (L.take (k + 1))) = !Gr.bad1 l ((x.1 : Int), (x.2 : Int)) := by
            rw [hs]
            unfold Gr.ers
            rw [List.map_append]
            unfold Gr.leads at hld ⊢
            rw [List.all_append]
            unfold Gr.ers at hld
            rw [hld]
            simp
          have hsb : Gr.bad1 l ((x.1 : Int), (x.2 : Int)) = true → Gr.leads l (Gr.ers L) = false := fun h => by
            unfold Gr.leads
            rw [List.all_eq_false]
            exact ⟨((x.1 : Int), (x.2 : Int)), List.mem_map.2 ⟨x, List.mem_of_getElem? hx, rfl⟩, by rw [h]; simp⟩
          obtain ⟨xa, xb⟩ := x
          dsimp only at d1 d2 hx1 hx2 hsn hsb
          have hb1 : Below w2.heap.size w2 (wr.alloc (.cells #[.int .i64 (xa : Int), .int .i64 (xb : Int)] 75)) := below_alloc hb _
          have pe := Blk.new wr 75 [.int .i64 (xa : Int), .int .i64 (xb : Int)]
          have hl1 := hlk _ xa hb1 hx1
          have hl2 := hlk _ xb hb1 hx2
          unfold Gr.bad1 at hsn hsb
          dsimp only at hsn hsb
          have HF := Lib.hid (And.intro hld (And.intro hsn (And.intro hsb (And.intro hb1 hs))))
          clear hcell hcc hx hsn hsb hs hld hb1 gx1 gx2 e6
          go_upto_region 10 with (fail)
          obtain ⟨gk, hgk⟩ : ∃ x, x = wr.heap.size := ⟨_, rfl⟩
          rw [← hgk] at pe ⊢
          generalize (wr.alloc (.cells #[.int .i64 (xa : Int), .int .i64 (xb : Int)] 75)) = W1 at pe hl1 hl2 HF ⊢
          have HGk := Lib.hid hgk
          clear hgk
          have f0 : W1.cell? ⟨gk, 0, none⟩ = some (.int .i64 (xa : Int)) := (pe.cell 0).trans rfl
          have f1 : W1.cell? ⟨gk, 1, none⟩ = some (.int .i64 (xb : Int)) := (pe.cell 1).trans rfl
          generalize hga : Gr.at_ l (xa : Int) = ya at hl1 HF
          generalize hgb : Gr.at_ l (xb : Int) = yb at hl2 HF
          clear hga hgb d1 d2 pe
          rcases q1 : (ya == 0) with _ | _
          · rcases q2 : (yb == 0) with _ | _
            · rcases q3 : decide (yb ≤ ya) with _ | _
              · skip
                obtain ⟨h1, h2, h3, h4, h5⟩ := HF.out
                rw [q1, q2, q3] at h2
                have HG := Lib.hid (And.intro h2 h4)
                clear h1 h2 h3 h4 h5
                go_wp2_with fail
                go_roundw
                case rel => exact ⟨k + 1, by omega, by go_num, HG.out.1, by have := HG.out.2; exact (by repeat (first | assumption | apply below_drew))⟩
                case measure => simp [intOf]; omega
              · skip
                obtain ⟨h1, h2, h3, h4, h5⟩ := HF.out
                rw [q1, q2, q3] at h3
                have hz := h3 rfl
                have HG := Lib.hid (And.intro hz (below_next h4 HB.out.1))
                clear h1 h2 h3 h4 h5 hz
                go_wp2_with fail
                go_ret
                exact ⟨by rw [HG.out.1]; rfl, (by have := HG.out.2; repeat (first | assumption | apply below_drew))⟩
            · skip
              obtain ⟨h1, h2, h3, h4, h5⟩ := HF.out
              rw [q1, q2] at h3
              have hz := h3 rfl
              have HG := Lib.hid (And.intro hz (below_next h4 HB.out.1))
              clear h1 h2 h3 h4 h5 hz
              go_wp2_with fail
              go_ret
              exact ⟨by rw [HG.out.1]; rfl, (by have := HG.out.2; repeat (first | assumption | apply below_drew))⟩
          · skip
            obtain ⟨h1, h2, h3, h4, h5⟩ := HF.out
            rw [q1] at h3
            have hz := h3 rfl
            have HG := Lib.hid (And.intro hz (below_next h4 HB.out.1))
            clear h1 h2 h3 h4 h5 hz
            go_wp2_with fail
            go_ret
            exact ⟨by rw [HG.out.1]; rfl, (by have := HG.out.2; repeat (first | assumption | apply below_drew))⟩
        · obtain rfl : k = L.length := by omega
          rw [List.take_length] at hld
          have HG := Lib.hid (And.intro hld (below_next hb HB.out.1))
          clear hld hb
          go_wp2_with fail
          go_ret
          exact ⟨by rw [HG.out.1]; rfl, HG.out.2⟩
end Go.Proofs.YtkjmddgnfgbioaaDoor


namespace Go.Proofs.YtkjmddgnfgbioaaDoor
set_option linter.unusedVariables false
set_option linter.unusedSimpArgs false
set_option maxRecDepth 100000
open Go.RowKit

theorem info_gd : (Tryd.prog.info? 3).map (fun i => (i.zero, i.size, i.bytes)) = some (some (.int .i64 0), 1, 8) := by kernel_rfl
theorem clone_gd (v : Value) (n : Nat) (xs : List Value) (w : World) (h : SlV w 1 v n xs) (h1 : ∀ u ∈ xs, u.oneCell' = true) (hr : n * 8 ≤ 140737488355328) :
    Calls Tryd.prog 45 #[v] w fun e w' => ∃ u, e = .returned u ∧ w'.ownsRow w.heap.size 3 1 u n xs ∧ Below w.heap.size w w' := by
  obtain ⟨A, c, rfl, hle, hm, hlen, hc⟩ := h
  unfold maxLen at hm
  have heq := fun (w : World) (A : Option Addr) (n c : Nat) => Lib.run_eql_slice_nil (P := Tryd.prog) w _ _ A n c 0 0 Tryd.underlying29
  rcases A with _ | a
  · have h0 : xs = [] := by
      rcases xs with _ | ⟨x, xs⟩
      · rfl
      · obtain ⟨b, o, h1, _⟩ := hc
        have := (h1 (by simp)).1
        cases this
    have hn : n = 0 := by subst h0; simp at hlen; omega
    subst h0
    subst hn
    go_enter Tryd.func45, Tryd.ntmps45
    go_wp2
    go_ret
    exact ⟨_, rfl, World.ownsRow_nil _ _ _ _, Below.refl _ _⟩
  · go_enter Tryd.func45, Tryd.ntmps45
    have hmade := World.ownsRow_made (e := 3) (size := 1) (base := w.heap.size) w #[] 0 (Nat.le_refl _) (Nat.zero_le _) rfl
    have hc' := hc.keep (w' := w.alloc (.cells #[] 3)) (Nat.le_refl _) (fun p hp => World.cell?_alloc_lt w _ p hp)
    have n63 : 0 + n ≤ maxLen := by unfold maxLen; omega
    have n47 : (0 + n) * 8 ≤ 140737488355328 := by omega
    go_wp2_with (at_builtin; refine wp_append _ _ _ _ _ _ _ _ _ Tryd.underlying29 info_gd rfl (by decide) hmade hc' hlen h1 n63 n47 (by simp) rfl rfl rfl rfl ?_; intro v' w' hown _ _ hb)
    go_ret
    refine ⟨_, rfl, by simpa using hown, ((Below.refl _ _).alloc (Nat.le_refl _) _).trans hb⟩
theorem ilist_one (l : List Nat) : ∀ u ∈ ilist l, u.oneCell' = true := by
  intro u hu
  unfold ilist at hu
  obtain ⟨x, -, rfl⟩ := List.mem_map.1 hu
  rfl
theorem gd_range {l : List Nat} {N : Nat} (h : l.Perm (List.range N)) : srt (l.map fun (x : Nat) => (x : Int)) = (List.range N).map fun (x : Nat) => (x : Int) := by
  rw [srt_perm (h.map _)]
  unfold srt
  refine List.mergeSort_of_pairwise ?_
  rw [List.pairwise_map]
  exact List.pairwise_lt_range.imp fun h => by simp; omega

set_option maxHeartbeats 8000000 in
theorem graphRound_walk (w : World) (n : Int) (es : List Gr.Er) (A : Option Addr) (c : Nat) (v : Value) (l : List Int) (hA : SlV w 2 (.slice A es.length c) es.length (ercs es)) (hle : es.length ≤ 1048576) (hl : SlI .i64 w v l) (hll : l.length ≤ 1048576) (hT : Tab w) :
    Calls Tryd.prog 11 #[.agg #[.int .i64 n, .slice A es.length c], v] w fun e w' => e = .returned (.bool true) ∧ Below w.heap.size w w' := by
  have hb0 : Below w.heap.size w (w.alloc (.cells #[.int .i64 n, .slice A es.length c] 72)) := below_alloc (Below.refl _ _) _
  have x0 := Blk.new w 72 [.int .i64 n, .slice A es.length c]
  obtain ⟨q, hq⟩ : ∃ q, q = w.heap.size := ⟨_, rfl⟩
  have hle' : es.length ≤ 1099511627776 := by omega
  go_enter Tryd.func11, Tryd.ntmps11
  go_upto_region 1 with (fail)
  generalize (w.alloc (.cells #[.int .i64 n, .slice A es.length c] 72)) = W0 at hb0 x0 ⊢
  have hT0 := hT.later hT.lt hb0
  have hA0 := hA.below hb0
  have hl0 : SlI .i64 W0 v l := ⟨hl.1.below hb0, hl.2⟩
  rw [← hq] at x0 ⊢
  go_wp2_with fail
  refine (alive2_any W0 hT0).mono ?_
  rintro _ w3 ⟨rfl, hb3⟩
  have HB := Lib.hid (And.intro (below_next hb3 hb0) hq)
  have hK : ∀ w', Below w3.heap.size w3 w' → (w'.cell? ⟨q, 0, none⟩ = some (.int .i64 n) ∧ w'.cell? ⟨q, 1, none⟩ = some (.slice A es.length c)) ∧ SlV w' 2 (.slice A es.length c) es.length (ercs es) ∧ Tab w' ∧ SlI .i64 w' v l := fun w' hb =>
    ⟨⟨(((x0.below hb3).below hb).cell 0).trans rfl, (((x0.below hb3).below hb).cell 1).trans rfl⟩, (hA0.below hb3).below hb, hT0.later hT0.lt (below_self hb3 hb), (hl0.1.below hb3).below hb, hl0.2⟩
  have HK := Lib.hid hK
  clear hK hb3 hb0 x0 hT0 hA0 hA hT hl0 hl hq
  obtain ⟨⟨c0, c1⟩, ga, gt, gl⟩ := HK.out w3 (Below.refl _ _)
  have gS := sort_any n es w3 A c ga hle' gt
  obtain ⟨R, hR⟩ : ∃ R, R = Gr.wrong n es := ⟨_, rfl⟩
  rw [← hR] at gS
  have HR := Lib.hid hR
  clear hR
  go_wp2_with fail
  refine gS.mono ?_
  rintro _ w4 ⟨u, rfl, hne, heq, hb4⟩
  clear c0 c1 ga gt gl gS
  obtain ⟨⟨c0, c1⟩, ga, gt, gl⟩ := HK.out w4 hb4
  by_cases h0 : R = 0
  · subst h0
    have hr := heq rfl
    clear hne heq
    have hok : Gr.okG n es = true := by
      cases h : Gr.okG n es with
      | true => rfl
      | false =>
        have := HR.out
        unfold Gr.wrong at this
        rw [h] at this
        cases this
    obtain ⟨N, rfl, hN, hes, hln, hmap⟩ := Gr.nat_ok hok
    obtain ⟨hsl, hsn⟩ := Gr.sorted_leads HR.out.symm
    rw [Int.toNat_natCast] at hsl hsn hr
    have hec := ercs_nat hok
    obtain ⟨L, hL⟩ : ∃ L, L = Gr.nat es := ⟨_, rfl⟩
    have hers : Gr.leads ((Gr.take N L).map Int.ofNat) (Gr.ers L) = true := by
      unfold Gr.leads at hsl ⊢
      unfold Gr.ers
      have e : es.all (fun e => !Gr.bad1 ((Gr.take N L).map Int.ofNat) e) = (es.map fun e => ((e.1 : Int), (e.2 : Int))).all (fun e => !Gr.bad1 ((Gr.take N L).map Int.ofNat) e) := by rw [List.all_map]; rfl
      rw [← hL] at hsl hmap
      rw [← hmap, ← e]
      exact hsl
    have hperm := Gr.take_perm hsn
    rw [← hL] at hr hsn hec hes hln hperm
    obtain ⟨T, hTk⟩ : ∃ T, T = Gr.take N L := ⟨_, rfl⟩
    rw [← hTk] at hr hsn hers hperm
    clear hsl hmap hok hTk
    rw [hsn] at hr
    have su := own_slV hr
    obtain ⟨Au, cu, rfl, -, -⟩ := own_slice hr
    have gC := clone_gd _ N (ilist T) w4 su (ilist_one T) (by omega)
    have HP := Lib.hid (And.intro su (And.intro hers (And.intro hperm (And.intro hec (And.intro hes (And.intro hln (And.intro hsn hb4)))))))
    clear su hers hperm hec hes hln hr hb4
    go_wp2_with fail
    refine gC.mono ?_
    rintro _ w5 ⟨u5, rfl, hr5, hb5⟩
    obtain ⟨A5, c5, rfl, -, -⟩ := own_slice hr5
    have hge5 := own_ge hr5
    have gSo := sort_own _ (T.map fun (x : Nat) => (x : Int)) w5 w4.heap.size (by rw [List.length_map, hsn]; have : ints .i64 (T.map fun (x : Nat) => (x : Int)) = ilist T := by simp [ints, ilist]
                                                                                  rw [this]; exact hr5) (by rw [List.length_map, hsn]; omega)
    rw [gd_range HP.out.2.2.1, List.length_map, hsn] at gSo
    have H5 := Lib.hid (And.intro hb5 hge5)
    clear gC hr5 hb5 hge5 hsn
    go_wp2_with fail
    refine gSo.mono ?_
    rintro _ w6 ⟨rfl, hr6, hg6⟩
    have hb46 : Below w4.heap.size w4 w6 := H5.out.1.trans ((Below.refl _ _).grown hg6 H5.out.1.size H5.out.2)
    have s6 : SlV w6 1 (.slice A5 N c5) N (ints .i64 ((List.range N).map fun (x : Nat) => (x : Int))) := own_slV hr6
    have H6 := Lib.hid (And.intro s6 hb46)
    clear gSo hr6 hg6 s6 hb46 c0 c1 ga gt gl
    go_wp2_with fail
    go_loopw [40] (fun i wr => ∃ k : Nat, k ≤ N ∧ i = .int .i64 (k : Int) ∧ Below w6.heap.size w6 wr) (fun i _ => N - (intOf i).toNat)
    case atStart => exact ⟨0, Nat.zero_le _, rfl, Below.refl _ _⟩
    case round =>
      obtain ⟨k, hk, rfl, hb⟩ := hrel
      by_cases hlt : k < N
      · obtain ⟨_, _, e5, -, -, -, hcc⟩ := H6.out.1.below hb
        injection e5 with e5 e6 e7
        subst e5 e7
        have gx := ints_get .i64 ((List.range N).map fun (x : Nat) => (x : Int)) k (by simp; exact hlt)
        rw [show ((List.range N).map fun (x : Nat) => (x : Int)).getD k 0 = (k : Int) by simp [List.getD_eq_getElem?_getD, hlt]] at gx
        obtain ⟨b, o, rfl, hbl, hcell⟩ := hcc.at_ (fun e => by rw [e] at gx; simp at gx)
        have ck := hcell k _ gx
        have gq : ((k : Int) != (k : Int)) = false := by simp
        clear hcell hcc gx e6
        go_wp2_with fail
        go_roundw
        case rel => exact ⟨k + 1, by omega, by go_num, hb⟩
        case measure => simp [intOf]; omega
      · obtain rfl : k = N := by omega
        have hb4r := H6.out.2.trans (hb.mono H6.out.2.size)
        obtain ⟨p1, p2, p3, p4, p5, p6, p7, p8⟩ := HP.out
        have hb3r := p8.trans (hb4r.mono p8.size)
        obtain ⟨⟨c0, c1⟩, ga, gt, gl⟩ := HK.out wr hb3r
        rw [p4, ← p6] at ga
        rw [← p6] at c1
        have suI : SlI .i64 wr (.slice Au k cu) (T.map Int.ofNat) := by
          refine ⟨?_, fun x hx => ?_⟩
          · have e : ints .i64 (T.map Int.ofNat) = ilist T := by simp [ints, ilist]
            rw [e, List.length_map, p7]
            exact p1.below hb4r
          · obtain ⟨y, hy, rfl⟩ := List.mem_map.1 hx
            have := List.mem_range.1 (p3.mem_iff.1 hy)
            exact gd_wf (by simp; omega)
        have gL := gdleads_any (T.map Int.ofNat) L wr q (.slice Au k cu) A c suI (by rw [List.length_map, p7]; omega) c1 ga (fun e he => by have := p5 e he; omega) (by omega)
        rw [p2] at gL
        have HF := Lib.hid (below_next hb3r HB.out.1)
        have gE : ((k : Int) == (k : Int)) = true := by simp
        clear ga gt gl p1 p2 p3 p4 p5 p6 p7 p8 hb4r hb3r suI hb c1
        go_wp2_with fail
        refine gL.mono ?_
        rintro _ w9 ⟨rfl, hb9⟩
        have HG := Lib.hid (below_next hb9 HF.out)
        clear gL hb9 c0
        go_wp2_with fail
        go_ret
        exact ⟨rfl, HG.out⟩
  · have hu := hne h0
    subst hu
    clear hne heq
    have g0 : (R != 0) = true := by simpa using h0
    rcases Gr.wrong_is n es with hw | hw | hw
    · exact absurd (HR.out.trans hw) h0
    · obtain rfl : R = 2 := HR.out.trans hw
      have HF := Lib.hid (below_next (below_self hb4 (Below.refl _ _)) HB.out.1)
      clear hw ga gt gl c0 c1
      go_wp2_with fail
      go_ret
      exact ⟨rfl, HF.out⟩
    · obtain rfl : R = 3 := HR.out.trans hw
      have hrl := Gr.round_leads hw l
      have hok : Gr.okG n es = true := by
        cases h : Gr.okG n es with
        | true => rfl
        | false =>
          unfold Gr.wrong at hw
          rw [h] at hw
          cases hw
      obtain ⟨N, rfl, hN, hes, hln, hmap⟩ := Gr.nat_ok hok
      have hec := ercs_nat hok
      obtain ⟨L, hL⟩ : ∃ L, L = Gr.nat es := ⟨_, rfl⟩
      have hers : Gr.leads l (Gr.ers L) = false := by
        unfold Gr.leads at hrl ⊢
        unfold Gr.ers
        have e : es.all (fun e => !Gr.bad1 l e) = (es.map fun e => ((e.1 : Int), (e.2 : Int))).all (fun e => !Gr.bad1 l e) := by rw [List.all_map]; rfl
        rw [← hL] at hmap
        rw [← hmap, ← e]
        exact hrl
      rw [← hL] at hes hec hln
      rw [hec, ← hln] at ga
      rw [← hln] at c1
      have gL := gdleads_any l L w4 q v A c gl (by omega) c1 ga (fun e he => by have := hes e he; omega) (by omega)
      rw [hers] at gL
      have HF := Lib.hid (below_next hb4 HB.out.1)
      clear hw hrl hok hN hes hln hmap hec hL hers ga gt gl hb4 c0 c1
      go_wp2_with fail
      refine gL.mono ?_
      rintro _ w9 ⟨rfl, hb9⟩
      have HG := Lib.hid (below_next hb9 HF.out)
      clear gL hb9
      go_wp2_with fail
      go_ret
      exact ⟨rfl, HG.out⟩
end Go.Proofs.YtkjmddgnfgbioaaDoor


namespace Go.Proofs.YtkjmddgnfgbioaaDoor
set_option linter.unusedVariables false
set_option linter.unusedSimpArgs false
set_option maxRecDepth 100000
open Go.ChangeShapes Go.WideShapes Go.ChangeAt Go.RowKit

theorem own : ownKnob Tryd.prog.godebug = none := by kernel_rfl
theorem laidOut : laidOutB Tryd.prog = true := by kernel_rfl

/-- the form's own reach, of a slice that was opened -/
theorem reach_rows {H : Type} {ts : List TypeId} {ds : List (DataW H)} {n by_ : Nat} {d : DataW H} {t e : TypeId} (hsz : (DataW.weightsEach Tryd.prog ts ds).all (· ≤ reachBytes) = true) {j : Nat} (ht : ts[j]? = some t) (hd : ds[j]? = some d)
    (hu : Tryd.prog.underlying t = some (.slice e)) (hb : Tryd.prog.bytesOf e = by_) (h : (d = .nil ∧ n = 0) ∨ ∃ (el sp : List (DataW H)), d = .slice el sp ∧ el.length = n) : n * by_ ≤ 140737488351232 := by
  rcases h with ⟨_, rfl⟩ | ⟨el, sp, rfl, rfl⟩
  · simp
  · have := sized_slice hsz ht hd hu
    rw [hb] at this
    have h2 : el.length * by_ ≤ (el.length + sp.length) * by_ := Nat.mul_le_mul_right _ (by omega)
    simp only [reachBytes] at this
    omega
end Go.Proofs.YtkjmddgnfgbioaaDoor


namespace Go.Proofs.YtkjmddgnfgbioaaDoor
set_option linter.unusedVariables false
set_option linter.unusedSimpArgs false
set_option maxRecDepth 100000
open Go.ChangeShapes Go.WideShapes Go.ChangeAt Go.RowKit
set_option linter.unusedVariables false

theorem gTab : Tryd.prog.globalNamed "math/bits.deBruijn64tab" = some 0 := by kernel_rfl
theorem gTabType : (Tryd.prog.globals[0]?).map (·.type) = some 200 := by kernel_rfl
theorem cellsTab : Tryd.prog.cellsOf 200 = 64 := by kernel_rfl
theorem cellsByte : Tryd.prog.cellsOf 5 = 1 := by kernel_rfl
def tabInts : List Int := Lib.deBruijn64tab.map fun (x : Nat) => (x : Int)
theorem tab_is {W : World} (h : Lib.TabIs Tryd.prog W "math/bits.deBruijn64tab" .u8 tabInts) : Tab W := fun j hj => by
  have := h.cell gTab j (by unfold tabInts; rw [List.length_map]; exact hj)
  rw [this]
  unfold tabInts
  simp [List.getD, hj]
noncomputable def laidWorld (os : Os) : World :=
  { World.holding Tryd.prog os ⟨#[], #[], []⟩ with heap := (World.holding Tryd.prog os ⟨#[], #[], []⟩).heap.modify 0 fun
      | .cells _ t frozen => .cells (tabInts.map fun z => Value.int .u8 z).toArray t frozen
      | o => o }

end Go.Proofs.YtkjmddgnfgbioaaDoor


namespace Go.Proofs.YtkjmddgnfgbioaaDoor
set_option linter.unusedVariables false
set_option linter.unusedSimpArgs false
set_option maxRecDepth 100000
open Go.ChangeShapes Go.WideShapes Go.ChangeAt Go.RowKit Go.Deep

section
variable {H : Type} {enc : TypeId × Value → H} {P : Program} {w : World}

theorem open_items {α : Type} (f : α → List Value) (n : Nat) (hf : ∀ a, (f a).length = n) (hn0 : 0 < n) (good : α → Prop) {t e : TypeId} {v : Value} {d : DataW H} {ps : List MemPlace} (ht : P.underlying t = some (.slice e)) (hC : P.cellsOf e = n)
    (each : ∀ (fuel : Nat) (cs : List Value) (x : DataW H × List MemPlace), DataW.trod enc P w 0 (fun _ => true) true fuel e cs = some x → ∃ a, cs = f a ∧ good a)
    (hv : ∃ a len cap, v = .slice a len cap) (h : DataW.Trod enc P w 0 (fun _ => true) true t v d ps) (hlt : ∀ x ∈ ps, x.block < w.heap.size) :
    ∃ l : List α, (∀ a ∈ l, good a) ∧ SlV w n v l.length (l.flatMap f) ∧ ((d = .nil ∧ l = []) ∨ ∃ (el sp : List (DataW H)), d = .slice el sp ∧ el.length = l.length) := by
  obtain ⟨a0, len, cap, rfl⟩ := hv
  obtain ⟨fuel, hfu⟩ := h
  rcases open_slice ht hfu with ⟨hcs, hx⟩ | ⟨a, len', cap', m, k, D, Pl, hcs, _, hl, hm, hmm, hx, hi⟩
  · simp [Value.cells] at hcs
    obtain ⟨rfl, rfl, rfl⟩ := hcs
    simp only [Prod.mk.injEq] at hx
    exact ⟨[], by simp, SlV.nil _ _, .inl ⟨hx.1, rfl⟩⟩
  · simp [Value.cells] at hcs
    obtain ⟨rfl, rfl, rfl⟩ := hcs
    simp only [Prod.mk.injEq] at hx
    simp only [if_true] at hmm
    rw [hC] at hi hx
    have each' : ∀ i, i < len → ∃ r : α, good r ∧ w.cells? 0 (a.add (i * n)) n = some (f r) := by
      intro i hil
      obtain ⟨cs', hc, htr⟩ := hi i (by omega)
      obtain ⟨r, hcr, hr⟩ := each _ _ _ htr
      exact ⟨r, hr, by rw [hc, hcr]⟩
    by_cases h0 : len = 0
    · subst h0
      exact ⟨[], by simp, ⟨some a, cap, by simp, hl, hm, by simp, Cells.nil _ _ _⟩, .inr ⟨_, _, hx.1, by simp⟩⟩
    obtain ⟨r0, -, -⟩ := each' 0 (by omega)
    haveI : Inhabited α := ⟨r0⟩
    obtain ⟨g, hgg⟩ := choose_lt each'
    have hgood : ∀ r ∈ (List.range len).map g, good r := by
      intro r hr
      obtain ⟨i, hi', rfl⟩ := List.mem_map.1 hr
      exact (hgg i (by simpa using hi')).1
    have hflat : (((List.range len).map g).flatMap f).length = len * n := by rw [flat_length f n hf]; simp
    refine ⟨(List.range len).map g, hgood, ⟨some a, cap, by simp, by simpa using hl, hm, by simpa using hflat, ?_⟩, .inr ⟨_, _, hx.1, by simp⟩⟩
    obtain ⟨b, off, spot⟩ := a
    have hcell : ∀ i, i < len → ∀ j u, (f (g i))[j]? = some u → w.cell? ((⟨b, off, spot⟩ : Addr).add (i * n + j)) = some u := by
      intro i hil j u hu
      have hj : j < n := by
        have := (List.getElem?_eq_some_iff.1 hu).1
        rwa [hf] at this
      obtain ⟨_, _, hat⟩ := World.cells?_some (hgg i hil).2
      have := hat j hj
      rw [Go.Deep.add_add] at this
      rw [this, hu]
    have hspot : spot = none := by
      have hex : ∃ u, (f (g 0))[0]? = some u := ⟨_, List.getElem?_eq_getElem (by rw [hf]; exact hn0)⟩
      obtain ⟨u, hu⟩ := hex
      have := hcell 0 (by omega) 0 u hu
      simpa [Addr.add] using World.cell?_spot this
    subst hspot
    refine ⟨b, off, fun _ => ⟨rfl, hlt (.cell b off) (by
      rw [hx.2]
      refine List.mem_append_left _ (MemPlace.mem_row.2 ⟨0, ?_, by simp⟩)
      exact Nat.mul_pos (by omega) hn0)⟩, fun j u hu => ?_⟩
    have hjl : j < len * n := by
      have := (List.getElem?_eq_some_iff.1 hu).1
      omega
    have hq : j / n < len := Nat.div_lt_of_lt_mul (by rw [Nat.mul_comm]; exact hjl)
    have hr : j % n < n := Nat.mod_lt _ hn0
    have hj : j = j / n * n + j % n := by have := Nat.div_add_mod j n; rw [Nat.mul_comm] at this; omega
    have hget : ((List.range len).map g)[j / n]? = some (g (j / n)) := by simp [hq]
    rw [hj] at hu ⊢
    rw [flat_get f n hf _ _ _ _ hget hr] at hu
    have := hcell (j / n) hq (j % n) u hu
    rw [Addr.add_lit] at this
    exact this
end
end Go.Proofs.YtkjmddgnfgbioaaDoor


namespace Go.Proofs.YtkjmddgnfgbioaaDoor
set_option linter.unusedVariables false
set_option linter.unusedSimpArgs false
set_option maxRecDepth 100000
open Go.ChangeShapes Go.WideShapes Go.ChangeAt Go.RowKit Go.Deep

def grFields (P : Program) (t : TypeId) : Array Field := match P.underlying t with | some (.struct fs) => fs | _ => #[]
theorem open_edge {H : Type} {enc : TypeId × Value → H} {w : World} (fuel : Nat) (cs : List Value) (x : DataW H × List MemPlace) (h : DataW.trod enc Tryd.prog w 0 (fun _ => true) true fuel 75 cs = some x) : ∃ z : Gr.Er, cs = erc z ∧ True := by
  have hT : Tryd.prog.underlying 75 = some (.struct (grFields Tryd.prog 75)) := by kernel_rfl
  obtain ⟨r, h1, h2, -⟩ := struct_ints (n := 2) hT (by kernel_rfl) (by kernel_rfl) (by kernel_rfl) h
  match r, h1 with
  | [a, b], _ => exact ⟨(a, b), h2, trivial⟩

theorem Gr.bulk_pos {H : Type} (d : DataW H) : 1 ≤ Rows.uptoBulk d := by
  cases d with
  | lit x => cases x <;> simp [Rows.uptoBulk]
  | _ => simp [Rows.uptoBulk]
theorem Gr.bulk_len {H : Type} : ∀ l : List (DataW H), l.length ≤ Rows.uptoBulkAll l
  | [] => by simp
  | x :: l => by
    rw [Rows.uptoBulkAll, List.length_cons]
    have := Gr.bulk_pos x
    have := Gr.bulk_len l
    omega
theorem Gr.bulk_rows {H : Type} {d : DataW H} {n : Nat} (h : (d = .nil ∧ n = 0) ∨ ∃ (el sp : List (DataW H)), d = .slice el sp ∧ el.length = n) : n ≤ Rows.uptoBulk d := by
  rcases h with ⟨_, rfl⟩ | ⟨e, sp, rfl, he⟩
  · exact Nat.zero_le _
  · have := Gr.bulk_len e
    rw [Rows.uptoBulk]
    omega

theorem open_arg_graph {H : Type} {enc : TypeId × Value → H} {W : World} {base : Nat} {v : Value} {d : DataW H} {p : List MemPlace} (hv : Value.okWide Tryd.prog W .any base 72 v) (h : DataW.Trod enc Tryd.prog W 0 (fun _ => true) true 72 v d p) (hlt : ∀ x ∈ p, x.block < W.heap.size) :
    ∃ (n : Int) (es : List Gr.Er) (A : Option Addr) (c : Nat), v = .agg #[.int .i64 n, .slice A es.length c] ∧ SlV W 2 (.slice A es.length c) es.length (ercs es) ∧ es.length ≤ Rows.uptoBulk d := by
  have hT : Tryd.prog.underlying 72 = some (.struct (grFields Tryd.prog 72)) := by kernel_rfl
  obtain ⟨cs, rfl, hcs⟩ := okWide_struct hT hv
  obtain ⟨fuel, hf⟩ := h
  have hf : DataW.trod enc Tryd.prog W 0 (fun _ => true) true fuel 72 cs.toList = some (d, p) := by simpa [Value.cells] using hf
  obtain ⟨xs, m, hfu, hx, hl, hxl, hfs⟩ := DataW.trod_struct hT hf
  have q0 : (grFields Tryd.prog 72)[0]?.map (fun f => (f.type, f.offset)) = some (3, 0) := by kernel_rfl
  have q1 : (grFields Tryd.prog 72)[1]?.map (fun f => (f.type, f.offset)) = some (70, 1) := by kernel_rfl
  have hsz : (grFields Tryd.prog 72).size = 2 := by kernel_rfl
  obtain ⟨f0, g0, p0⟩ := Option.map_eq_some_iff.1 q0
  obtain ⟨f1, g1, p1⟩ := Option.map_eq_some_iff.1 q1
  injection p0 with p0 p0'
  injection p1 with p1 p1'
  have h0 := hfs 0 f0 g0
  have h1 := hfs 1 f1 g1
  have c0 : Tryd.prog.cellsOf 3 = 1 := by kernel_rfl
  have c1 : Tryd.prog.cellsOf 70 = 1 := by kernel_rfl
  have cT : Tryd.prog.cellsOf 72 = 2 := by kernel_rfl
  rw [p0, p0', c0] at h0
  rw [p1, p1', c1] at h1
  rw [cT] at hl
  rw [hsz] at hxl
  obtain ⟨l, hll⟩ : ∃ l, l = cs.toList := ⟨_, rfl⟩
  rw [← hll] at h0 h1 hl
  have hcl : cs = l.toArray := by rw [hll]
  subst hcl
  clear hll hcs hf
  match xs, hxl, l, hl with
  | [x0, x1], _, [v0, v1], _ =>
    simp only [List.drop_succ_cons, List.drop_zero, List.take_succ_cons, List.take_zero, List.getElem?_cons_zero, List.getElem?_cons_succ] at h0 h1
    obtain ⟨n, hn, -, -⟩ := DataW.trod_int Tryd.underlying3 h0
    simp only [List.cons.injEq, and_true] at hn
    subst hn
    have hbk := congrArg Prod.fst hx
    have hpl := congrArg Prod.snd hx
    simp only [List.map_cons, List.map_nil, List.flatMap_cons, List.flatMap_nil, List.append_nil] at hbk hpl
    have hv1 : ∃ a len cap, v1 = .slice a len cap := by
      rcases open_slice Tryd.underlying70 h1 with ⟨hcs, -⟩ | ⟨a, len', cap', m', k, D, Pl, hcs, -⟩
      · simp at hcs; exact ⟨_, _, _, hcs⟩
      · simp at hcs; exact ⟨_, _, _, hcs⟩
    obtain ⟨A, len, cap, rfl⟩ := hv1
    obtain ⟨es, -, hes, hb⟩ := open_items erc 2 (fun _ => rfl) (by decide) (fun _ => True) (v := .slice A len cap) (d := x1.1) (ps := x1.2) Tryd.underlying70 (by kernel_rfl) open_edge ⟨A, len, cap, rfl⟩ ⟨m, by simpa [Value.cells] using h1⟩ (fun x hx' => hlt x (by rw [hpl]; exact List.mem_append_right _ hx'))
    have hlen : len = es.length := by
      obtain ⟨A', c', e, -⟩ := hes
      injection e
    subst hlen
    refine ⟨n, es, A, cap, rfl, hes, ?_⟩
    have hr := Gr.bulk_rows (d := x1.1) (n := es.length) (hb.imp (fun h => ⟨h.1, by rw [h.2]; rfl⟩) id)
    rw [hbk, Rows.uptoBulk, Rows.uptoBulkAll, Rows.uptoBulkAll]
    omega
end Go.Proofs.YtkjmddgnfgbioaaDoor
