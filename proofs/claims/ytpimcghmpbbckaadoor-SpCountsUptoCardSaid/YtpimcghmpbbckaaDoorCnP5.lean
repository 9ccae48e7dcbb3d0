/-
  A struct's fields.
-/
import Derived.Test.YtpimcghmpbbckaaDoorCnP4
import Derived.Test.YtpimcghmpbbckaaDoorCnP3
import Derived.Test.YtpimcghmpbbckaaDoorCnP2
import Derived.Test.YtpimcghmpbbckaaDoorCnP1

namespace Go.Proofs.YtpimcghmpbbckaaDoor
set_option linter.unusedVariables false
set_option linter.unusedSimpArgs false
set_option maxRecDepth 100000
open Go.RowKit

/-- what Rounds gives -/
def Gy.Rs (w : World) (os : List Value) (ls : List (List Nat)) : Prop := os.length = ls.length ∧ ∀ x ∈ os.zip ls, SlN w x.1 x.2

/-- between two rounds -/
structure Gy.L3 (N : Nat) (es : List Gr.Ed) (W : Nat) (ls : List (List Nat)) (os : List Value) (hl : List Nat) (f : Nat) : Prop where
  good : Gr.Good N es ls.flatten
  len : os.length = ls.length
  short : ls.length ≤ ls.flatten.length
  fuel : N ≤ f + ls.flatten.length
  run : ls ++ Gr.rounds N es W f ls.flatten = Gr.all N es W
  ok : Hp.Ok hl
  nd : hl.Nodup
  mem : ∀ x, x ∈ hl ↔ x < N ∧ Gr.rdy es ls.flatten x = true
theorem Gy.L3.done {N : Nat} {es : List Gr.Ed} {W : Nat} {ls : List (List Nat)} {os : List Value} {hl : List Nat} {f : Nat} (h : Gy.L3 N es W ls os hl f) (hW : 0 < W) (h0 : hl = []) : ls = Gr.all N es W := by
  have hn := (Gr.heap_nil h.mem hW).1 h0
  have : Gr.rounds N es W f ls.flatten = [] := by
    cases f with
    | zero => rfl
    | succ f => rw [Gr.rounds, if_pos hn]
  rw [← h.run, this, List.append_nil]
theorem Gy.L3.next {N : Nat} {es : List Gr.Ed} {W : Nat} {ls : List (List Nat)} {os : List Value} {hl hl' : List Nat} {f : Nat} (h : Gy.L3 N es W ls os hl f) (hW : 0 < W) (h0 : hl ≠ []) (v : Value) (hok : Hp.Ok hl') (hP : Gr.HeapP N es ls.flatten (Gr.now N es W ls.flatten) (Gr.now N es W ls.flatten).length hl') :
    ∃ f', Gy.L3 N es W (ls ++ [Gr.now N es W ls.flatten]) (os ++ [v]) hl' f' ∧ ls.length < N := by
  have hne : Gr.now N es W ls.flatten ≠ [] := fun e => h0 ((Gr.heap_nil h.mem hW).2 e)
  have hpos := List.length_pos_iff.2 hne
  have hg := h.good.round (w := W)
  have hgl := hg.length
  rw [List.length_append] at hgl
  obtain ⟨h1, h2⟩ := hP.last
  have hfl : (ls ++ [Gr.now N es W ls.flatten]).flatten = ls.flatten ++ Gr.now N es W ls.flatten := by simp
  cases f with
  | zero => have := h.fuel; omega
  | succ f =>
    refine ⟨f, ⟨by rw [hfl]; exact hg, by simp [h.len], ?_, ?_, ?_, hok, h1, by rw [hfl]; exact h2⟩, by have := h.short; omega⟩
    · rw [hfl, List.length_append, List.length_append]
      have := h.short
      simp only [List.length_singleton]
      omega
    · rw [hfl, List.length_append]
      have := h.fuel
      omega
    · rw [hfl, List.append_assoc]
      have := h.run
      rw [Gr.rounds, if_neg hne] at this
      exact this

set_option maxHeartbeats 4000000 in
theorem rounds_core (N : Nat) (es : List Gr.Ed) (W : Nat) (w : World) (A : Option Addr) (c : Nat) (hN : N ≤ 200) (hes : ∀ e ∈ es, e.1 < N ∧ e.2 < N) (hW1 : 1 ≤ W) (hW2 : W ≤ 16) (hA : SlV w 2 (.slice A es.length c) es.length (edcs es)) (hle : es.length ≤ 1099511627776)
    (hwr : ∀ w', Below w.heap.size w w' → Calls Tryd.prog 14 #[.agg #[.int .i64 (N : Int), .slice A es.length c]] w' fun e w'' => e = .returned (.int .i64 0) ∧ Below w'.heap.size w' w'') :
    Calls Tryd.prog 13 #[.agg #[.int .i64 (N : Int), .slice A es.length c], .int .i64 (W : Int)] w fun e w' => ∃ u os, e = .returned (.tuple #[u, .int .i64 0]) ∧ w'.ownsRow w.heap.size 32 1 u os.length os ∧ Gy.Rs w' os (Gr.all N es W) ∧ Below w.heap.size w w' := by
  have HES := Lib.hid hes
  have x00 := Blk.new w 24 [.int .i64 (N : Int), .slice A es.length c]
  have hb00 : Below w.heap.size w (w.alloc (.cells #[.int .i64 (N : Int), .slice A es.length c] 24)) := below_alloc (Below.refl _ _) _
  have hwr1 := hwr _ hb00
  clear hes hwr
  go_enter Tryd.func13, Tryd.ntmps13
  go_upto_region 1 with (fail)
  generalize (w.alloc (.cells #[.int .i64 (N : Int), .slice A es.length c] 24)) = V0 at x00 hb00 hwr1 ⊢
  have d0 : V0.cell? ⟨w.heap.size, 0, none⟩ = some (.int .i64 (N : Int)) := (x00.cell 0).trans rfl
  have d1 : V0.cell? ⟨w.heap.size, 1, none⟩ = some (.slice A es.length c) := (x00.cell 1).trans rfl
  go_wp2_with fail
  refine hwr1.mono ?_
  rintro _ W0 ⟨rfl, hbW⟩
  have x0 := x00.below hbW
  have hb0 := below_next hbW hb00
  have hlt0 : w.heap.size < W0.heap.size := x0.lt
  clear hwr1 x00 hb00 hbW d0 d1
  have n47 : 8 * N ≤ 281474976710656 := by omega
  have n47' : 24 * N ≤ 281474976710656 := by omega
  have n63 : N ≤ 9223372036854775807 := by omega
  obtain ⟨Q, hz0⟩ : ∃ Q, W0.heap.size = Q + 1 := ⟨W0.heap.size - 1, by omega⟩
  have hQw : w.heap.size ≤ Q := by omega
  have c00 : W0.cell? ⟨w.heap.size, 0, none⟩ = some (.int .i64 (N : Int)) := (x0.cell 0).trans rfl
  have c01 : W0.cell? ⟨w.heap.size, 1, none⟩ = some (.slice A es.length c) := (x0.cell 1).trans rfl
  have HZ0 := Lib.hid hz0
  clear hlt0
  go_wp2_with (first | (at_make; refine wp_make _ 32 3 (.int .i64 0) 8 N Tryd.underlying32 info_int rfl (by omega) (by omega) n47 n63 rfl rfl rfl rfl ?_; intro w1 hown1 hb1 hs1; have x1 := x0.below hb1; have c10 : w1.cell? ⟨w.heap.size, 0, none⟩ = some (.int .i64 (N : Int)) := (x1.cell 0).trans rfl; have c11 : w1.cell? ⟨w.heap.size, 1, none⟩ = some (.slice A es.length c) := (x1.cell 1).trans rfl) | (at_make; refine wp_make _ 26 32 (.slice none 0 0) 24 N Tryd.underlying26 info_sint rfl (by omega) (by omega) n47' n63 rfl rfl rfl rfl ?_; intro w2 hown2 hb2 hs2; have x2 := x1.below hb2; have c20 : w2.cell? ⟨w.heap.size, 0, none⟩ = some (.int .i64 (N : Int)) := (x2.cell 0).trans rfl; have c21 : w2.cell? ⟨w.heap.size, 1, none⟩ = some (.slice A es.length c) := (x2.cell 1).trans rfl) | fail)
  have hO : Own (Q + 1) w2 (Q + 1 + 1) 32 (List.replicate N (.slice none 0 0)) (tkR (.slice (some ⟨Q + 1, 0, none⟩) N N) (Gr.wl N []) (List.replicate N (.slice none 0 0)) (Gr.nl N [])) := by
    have hz := HZ0.out
    rw [hz] at hown1 hs1
    have hw := row_whole hown2
    rw [hs1] at hw
    exact tk_start hown1 hb2 hs1.symm hw (by omega)
  have hb02 : Below w.heap.size w w2 := below_next hb2 (below_next hb1 hb0)
  have hQ2 : Q + 1 + 1 < w2.heap.size := hO.blk.lt
  have HQ := Lib.hid hQw
  clear hown1 hown2 hb1 hb2 hs1 hs2 x0 hb0 n47 n47' n63 c00 c01 c10 c11 c20 c21 x1 HZ0 hz0 hQw
  have keepB : ∀ (vs : List Value) (rs : List Rw) (wr : World), OwnTo (Q + 1) w2 (Tw (Q + 1 + 1) (tkR (.slice (some ⟨Q + 1, 0, none⟩) N N) (Gr.wl N []) (List.replicate N (.slice none 0 0)) (Gr.nl N []))) wr (Q + 1 + 1) 32 vs rs → Below w.heap.size w wr := fun _ _ wr h => hb02.trans ((hO.below h.kp).mono (by have := HQ.out; omega))
  have HK := Lib.hid keepB
  clear keepB
  go_loopw [40] (fun i wr => ∃ (k : Nat) (vs : List Value), k ≤ es.length ∧ i = .int .i64 (k : Int) ∧ vs.length = N ∧ OwnTo (Q + 1) w2 (Tw (Q + 1 + 1) (tkR (.slice (some ⟨Q + 1, 0, none⟩) N N) (Gr.wl N []) (List.replicate N (.slice none 0 0)) (Gr.nl N []))) wr (Q + 1 + 1) 32 vs (tkR (.slice (some ⟨Q + 1, 0, none⟩) N N) (Gr.wl N (es.take k)) vs (Gr.nl N (es.take k)))) (fun i _ => es.length - (intOf i).toNat)
  case atStart => exact ⟨0, _, Nat.zero_le _, rfl, by simp, OwnTo.start hO⟩
  case round =>
    obtain ⟨k, vs, hk, rfl, hvl, hOk⟩ := hrel
    have hbw := HK.out _ _ wr hOk
    by_cases hlt : k < es.length
    · obtain ⟨⟨a, b⟩, hx⟩ : ∃ x, es[k]? = some x := ⟨_, List.getElem?_eq_getElem hlt⟩
      obtain ⟨ha, hb⟩ := HES.out _ (List.mem_of_getElem? hx)
      have gx := flat_get edc 2 (fun _ => rfl) es k
      have g1 := gx 0 _ hx (by omega)
      have g2 := gx 1 _ hx (by omega)
      obtain ⟨A', c', he, -, -, -, hcc⟩ := hA.below hbw
      injection he with e1 e2 e3
      subst e1 e3
      obtain ⟨g, o, rfl, hgl, hcell⟩ := hcc.at_ (fun e => by rw [show List.flatMap edc es = edcs es from rfl, e] at g1; simp [edc] at g1)
      have d0 : wr.cell? ⟨g, o + k * 2, none⟩ = some (.int .i64 (a : Int)) := (hcell _ _ g1).trans rfl
      have d1 : wr.cell? ⟨g, o + k * 2 + 1, none⟩ = some (.int .i64 (b : Int)) := by rw [Nat.add_assoc]; exact hcell _ _ g2
      have htk := Gr.take_snoc hx
      have hw1 := Gr.wl_one N (es.take k) a b
      have hn1 := Gr.nl_one N (es.take k) a b
      rw [← htk] at hw1 hn1
      obtain ⟨U, hU⟩ : ∃ U, U = Gr.wt (es.take k) [] b := ⟨_, rfl⟩
      rw [← hU] at hw1
      have hUb : U ≤ 1099511627776 := by rw [hU]; exact Nat.le_trans (Gr.wt_le _ _ _) (by rw [List.length_take]; omega)
      have hwl : (Gr.wl N (es.take k)).length = N := by simp [Gr.wl]
      have hTA := hOk.later (below_alloc (Below.refl _ _) (.cells #[.int .i64 (a : Int), .int .i64 (b : Int)] 34))
      have hE := Blk.new wr 34 [.int .i64 (a : Int), .int .i64 (b : Int)]
      have r0 := hTA.own.row 0 rfl
      unfold Rw.at_ wrw at r0
      rw [hwl] at r0
      have c0 := own_cell r0 (j := b) (u := .int .i64 (U : Int)) (by
        show (List.map _ _)[b]? = _
        rw [List.getElem?_map, show (Gr.wl N (es.take k))[b]? = some (U : Int) by rw [hU]; exact Gr.map_get _ _ _ hb]
        rfl)
      obtain ⟨v, hv⟩ : ∃ v, vs[a]? = some v := ⟨_, List.getElem?_eq_getElem (by omega)⟩
      have hnx : (Gr.nl N (es.take k))[a]? = some (Gr.next (es.take k) a) := Gr.map_get _ _ _ ha
      have hnl : (Gr.next (es.take k) a).length ≤ 1099511627776 := by
        have := List.length_filter_le (fun e : Gr.Ed => e.1 == a) (es.take k)
        rw [List.length_take] at this
        unfold Gr.next
        rw [List.length_map]
        omega
      obtain ⟨nx, hnxq⟩ : ∃ nx, nx = Gr.next (es.take k) a := ⟨_, rfl⟩
      rw [← hnxq] at hnx hn1 hnl
      clear hnxq
      have hvne : v.ownBlock ≠ some wr.heap.size := fun e => by
        have := ((hOk.own.row (a + 1) (tkR_get _ _ _ _ a v nx hv hnx)).lt _ e).2
        omega
      have HX := Lib.hid (And.intro hw1 (And.intro hn1 (And.intro hwl (And.intro hv hnx))))
      clear hv hnx
      have HO := Lib.hid hO
      have hlw : Q + 1 + 1 < wr.heap.size := Nat.lt_of_lt_of_le hQ2 hOk.kp.size
      clear hOk htk hw1 hn1 hx gx g1 g2 hcc hcell e2 hA hO hwl hU hbw
      go_upto_region 11 with (fail)
      have hb5 : Below wr.heap.size wr (wr.alloc (.cells #[.int .i64 (a : Int), .int .i64 (b : Int)] 34)) := below_alloc (Below.refl _ _) _
      generalize (wr.alloc (.cells #[.int .i64 (a : Int), .int .i64 (b : Int)] 34)) = W5 at hTA hE r0 c0 hb5 ⊢
      have e0 : W5.cell? ⟨wr.heap.size, 0, none⟩ = some (.int .i64 (a : Int)) := (hE.cell 0).trans rfl
      have e1 : W5.cell? ⟨wr.heap.size, 1, none⟩ = some (.int .i64 (b : Int)) := (hE.cell 1).trans rfl
      clear d0 d1
      have f0 := row_frozen r0 b
      have hr6 := row_set r0 b (.int .i64 ((U : Int) + 1))
      have hg6 := grown_setCell W5 (Q + 1) b (.int .i64 ((U : Int) + 1))
      go_wp2_with fail
      obtain ⟨w6, hw6⟩ : ∃ w6, w6 = W5.setCell ⟨Q + 1, b, none⟩ (.int .i64 ((U : Int) + 1)) := ⟨_, rfl⟩
      rw [← hw6] at hr6 hg6 ⊢
      clear hw6 c0 f0
      have hT6 : OwnTo (Q + 1) w2 (Tw (Q + 1 + 1) (tkR (.slice (some ⟨Q + 1, 0, none⟩) N N) (Gr.wl N []) (List.replicate N (.slice none 0 0)) (Gr.nl N []))) w6 (Q + 1 + 1) 32 vs (tkR (.slice (some ⟨Q + 1, 0, none⟩) N N) (Gr.wl N (es.take (k + 1))) vs (Gr.nl N (es.take k))) := by
        rw [← ints_set, ← HX.out.1] at hr6
        have hl1 : (Gr.wl N (es.take (k + 1))).length = N := by simp [Gr.wl]
        have h1 : W5.grownBy w6 (wrw (.slice (some ⟨Q + 1, 0, none⟩) N N) (Gr.wl N (es.take k))).v.ownBlock := hg6
        have hp := (hTA.own.put (i := 0) rfl (v' := .slice (some ⟨Q + 1, 0, none⟩) N N) (n' := N) hr6 h1 (.inl rfl)).1
        have := hTA.step (hTA.own.put_to (i := 0) rfl (v' := .slice (some ⟨Q + 1, 0, none⟩) N N) (n' := N) hr6 h1 (.inl rfl) hp (World.grownBy.refl w6 _))
        have e : (tkR (.slice (some ⟨Q + 1, 0, none⟩) N N) (Gr.wl N (es.take k)) vs (Gr.nl N (es.take k))).set 0 ⟨3, 1, .slice (some ⟨Q + 1, 0, none⟩) N N, N, ints .i64 (Gr.wl N (es.take (k + 1)))⟩ = tkR (.slice (some ⟨Q + 1, 0, none⟩) N N) (Gr.wl N (es.take (k + 1))) vs (Gr.nl N (es.take k)) := by
          show _ = wrw _ _ :: _
          unfold wrw
          rw [hl1]
          rfl
        exact e ▸ this
      have hE6 := hE.grown hg6 (by intro e; injection e with e; omega)
      clear hTA r0 hr6 hg6 hE e0 e1
      have hget := tkR_get (.slice (some ⟨Q + 1, 0, none⟩) N N) (Gr.wl N (es.take (k + 1))) vs (Gr.nl N (es.take k)) a v nx HX.out.2.2.2.1 HX.out.2.2.2.2
      have rv : w6.ownsRow (Q + 1) 3 1 v nx.length (ilist nx) := hT6.own.row (a + 1) hget
      have hng : v.ownBlock ≠ some (Q + 1 + 1) := hT6.own.ng _ (List.mem_of_getElem? hget)
      obtain ⟨VB, cb, rfl, -, -⟩ := own_slice rv
      have hR : ∀ w', Below w6.heap.size w6 w' → w'.ownsRow (Q + 1) 3 1 (.slice VB nx.length cb) nx.length (ilist nx) ∧ Q + 1 ≤ w'.heap.size := fun w' hb => ⟨(hT6.own.later hb).row (a + 1) hget, (hT6.own.later hb).base⟩
      have keepS : ∀ w', Keeps (fun k => (Value.slice VB nx.length cb).ownBlock = some k) w6 w' → Keeps (fun k => (Value.slice VB nx.length cb).ownBlock = some k) w6 w' ∧ w'.cell? ⟨Q + 1 + 1, a, none⟩ = some (.slice VB nx.length cb) ∧ w'.cell? ⟨wr.heap.size, 0, none⟩ = some (.int .i64 (a : Int)) ∧ w'.cell? ⟨wr.heap.size, 1, none⟩ = some (.int .i64 (b : Int)) := fun w' k =>
        ⟨k, ((hT6.own.blk.keeps k hng).cell a).trans HX.out.2.2.2.1, ((hE6.keeps k hvne).cell 0).trans rfl, ((hE6.keeps k hvne).cell 1).trans rfl⟩
      have hS1 := keepS _ ((Keeps.refl _ w6).drewN 1)
      have hn63 : nx.length + 1 ≤ maxLen := by unfold maxLen; omega
      have hn47 : (nx.length + 1) * 8 ≤ 140737488355328 := by omega
      have HT := Lib.hid (And.intro hT6 hget)
      clear hT6 rv hE6 hget hng hvne
      refine wp_walk_mt 13 (fun i => ([11] : List Nat).contains i) (fun i => ([0,1,2,12] : List Nat).contains i) [11] (by intro m h; simpa using h) (by kernel_rfl) (by kernel_rfl) (by kernel_rfl) (fun w w' => Below w.heap.size w w')  (fun w' => Keeps (fun k => (Value.slice VB nx.length cb).ownBlock = some k) w6 w' ∧ w'.cell? ⟨Q + 1 + 1, a, none⟩ = some (.slice VB nx.length cb) ∧ w'.cell? ⟨wr.heap.size, 0, none⟩ = some (.int .i64 (a : Int)) ∧ w'.cell? ⟨wr.heap.size, 1, none⟩ = some (.int .i64 (b : Int))) (fun w' => Below w6.heap.size w6 w') hS1 (below_drew (Below.refl _ _)) (fun _ _ h h' => below_next h' h) ?_
      simp only [List.length_cons, List.length_nil, Nat.reduceAdd, Nat.reduceSub, List.take_succ_cons, List.take_zero, List.drop_succ_cons, List.drop_zero]
      repeat (first | (refine nsettle_skip (by rfl) (fun _ => by rfl) ?_; (simp only [Act.put, List.setIfInBounds_toArray, List.set_cons_zero, List.set_cons_succ])) | (refine' nsettle_run (by rfl) (fun _ _ => Below.refl _ _) (fun _ => by rfl) ?_ ?_; rotate_left; (focus (intro ρ w hS hF hP; (try dsimp only at hS); go_split_ands; go_simp; try with_reducible rfl)); (simp only [Act.put, List.setIfInBounds_toArray, List.set_cons_zero, List.set_cons_succ])))
      (refine nsettle_known (FSl 1 1 [.int .i64 (b : Int)]) (by rfl) (by rfl) (by rfl) (fun _ => by rfl)  ?_ ?_; (focus (intro ρ w hS hF hP K hK; (simp only [Act.put, List.setIfInBounds_toArray, List.set_cons_zero, List.set_cons_succ] at hK); go_simp; exact hK _ _ (SlV.lit w [.int .i64 (b : Int)] 3 1 1 rfl (by decide)) (keepS _ (hS.1.alloc _)) (below_alloc (Below.refl _ _) _))); (simp only [Act.put, List.setIfInBounds_toArray, List.set_cons_zero, List.set_cons_succ]))
      (refine nsettle_mark (FPush w6 (Q + 1) 3 1 (.slice VB nx.length cb) (nx.length + 1) (ilist nx ++ [.int .i64 (b : Int)])) (by rfl) (by rfl) (by rfl) (fun _ => by rfl) ?_ ?_; (focus (intro ρ w hS hF hP K hK; refine oper_append (.tmp 58) (.tmp 61) (Q + 1) _ _ _ _ _ Tryd.underlying32 info_int rfl (by decide) (hR w (hP (by rfl))).1 (hF.1 (by rfl)) (by simp [Value.oneCell']) hn63 hn47 (hR w (hP (by rfl))).2 rfl rfl rfl ?_; intro v' w' hown hg hv _; exact hK v' w' ⟨w, hP (by rfl), hg, hown, hv.imp id fun e => ⟨_, Nat.le_refl _, e⟩⟩ (keepS _ (hS.1.trans ((Keeps.of_grown hg).mono fun i hi => hi.symm))))); (simp only [Act.put, List.setIfInBounds_toArray, List.set_cons_zero, List.set_cons_succ]))
      repeat (first | (refine nsettle_skip (by rfl) (fun _ => by rfl) ?_; (simp only [Act.put, List.setIfInBounds_toArray, List.set_cons_zero, List.set_cons_succ])) | (refine' nsettle_run (by rfl) (fun _ _ => Below.refl _ _) (fun _ => by rfl) ?_ ?_; rotate_left; (focus (intro ρ w hS hF hP; (try dsimp only at hS); go_split_ands; go_simp; try with_reducible rfl)); (simp only [Act.put, List.setIfInBounds_toArray, List.set_cons_zero, List.set_cons_succ])))
      refine nsettle_nil ?_
      intro ρ w7 hS hF
      obtain ⟨wa, ha1, ha2, ha3, ha4⟩ := hF 62 (FPush w6 (Q + 1) 3 1 (.slice VB nx.length cb) (nx.length + 1) (ilist nx ++ [.int .i64 (b : Int)])) (by repeat (first | exact List.mem_cons_self | apply List.mem_cons_of_mem))
      clear hF hS hS1 keepS hR
      dsimp only
      generalize ρ 61 = v61
      generalize ρ 62 = v4 at ha3 ha4 ⊢
      have hx4 : wa.grownBy w7 (irw (.slice VB nx.length cb) nx).v.ownBlock := ha2
      have ho4 : w7.ownsRow (Q + 1) 3 1 v4 (nx ++ [b]).length (ilist (nx ++ [b])) := by simpa [ilist, ints] using ha3
      have hB4 := ((HT.out.1.own.later ha1).put (i := a + 1) HT.out.2 ho4 hx4 ha4).1
      have hend : ∀ w8, Blk w8 (Q + 1 + 1) 32 (vs.set a v4) → w7.grownBy w8 (some (Q + 1 + 1)) → OwnTo (Q + 1) w2 (Tw (Q + 1 + 1) (tkR (.slice (some ⟨Q + 1, 0, none⟩) N N) (Gr.wl N []) (List.replicate N (.slice none 0 0)) (Gr.nl N []))) w8 (Q + 1 + 1) 32 (vs.set a v4) (tkR (.slice (some ⟨Q + 1, 0, none⟩) N N) (Gr.wl N (es.take (k + 1))) (vs.set a v4) (Gr.nl N (es.take (k + 1)))) := fun w8 b8 g8 => by
        have := (HT.out.1.later ha1).step ((HT.out.1.own.later ha1).put_to (i := a + 1) HT.out.2 ho4 hx4 ha4 b8 g8)
        have e := tkR_i (.slice (some ⟨Q + 1, 0, none⟩) N N) (Gr.wl N (es.take (k + 1))) vs (Gr.nl N (es.take k)) a v4 (nx ++ [b])
        rw [← HX.out.2.1] at e
        exact e ▸ this
      obtain ⟨V4, c4, rfl, -, -⟩ := own_slice ha3
      clear ha1 ha2 ha3 ha4 hx4 ho4
      have hva : a < vs.length := by omega
      refine wpl_set_blk hB4 a _ (by kernel_rfl) hva rfl rfl rfl rfl rfl rfl ?_
      intro w8 hB8 hg8
      have T8 := hend w8 hB8 hg8
      have HT8 := Lib.hid T8
      clear hB4 hB8 hg8 hend T8 HT
      go_wp2_with fail
      go_roundw
      case rel => exact ⟨k + 1, _, by omega, by go_num, by simpa using hvl, HT8.out⟩
      case measure => simp [intOf]; omega
    · obtain rfl : k = es.length := by omega
      rw [List.take_length] at hOk
      clear hA
      have hwlN : (Gr.wl N es).length = N := by simp [Gr.wl]
      have hbT := hO.below hOk.kp
      have hS0 := Gy.St.start hOk hbT hwlN
      have hwd : (Gr.wl N es) = wo N es [] := rfl
      rw [hwd] at hS0
      have HK3 := Lib.hid (And.intro hb02 (show Gy.T = Gy.T from rfl))
      obtain ⟨p, hp⟩ : ∃ p, p = wr.heap.size := ⟨_, rfl⟩
      rw [← hp] at hS0
      have HP := Lib.hid hp
      clear hwlN hbT hOk hwd hb02 hO HK
      go_wp2_with fail
      rw [← HP.out]
      generalize (wr.alloc (.cells #[.slice none 0 0] 65)) = wz at hS0 ⊢
      clear hp x2 hbw hk hlt
      go_loopw [67] (fun i wr => ∃ (k : Nat) (u : Value) (hl : List Nat), k ≤ N ∧ i = .int .i64 (k : Int) ∧ Hp.Ok hl ∧ hl.Nodup ∧ (∀ x, x ∈ hl ↔ x < k ∧ Gr.wt es [] x = 0) ∧ Gy.St w2 (Q + 1) (Q + 1) (Q + 1 + 1) p N vs wr (wo N es []) u hl (.slice none 0 0) [] (vs.zip (Gr.nl N es))) (fun i _ => N - (intOf i).toNat)
      case atStart => exact ⟨0, _, [], Nat.zero_le _, rfl, fun k _ h => by simp at h, List.nodup_nil, fun x => by simp, hS0⟩
      case round =>
        clear hS0
        obtain ⟨k, u, hl, hk, rfl, hOk, hnd, hmem, hS⟩ := hrel
        by_cases hlt : k < N
        · have c0 := own_cell hS.wt (j := k) (u := .int .i64 ((Gr.wt es [] k : Nat) : Int)) (by
            show (List.map _ _)[k]? = _
            rw [List.getElem?_map, show (wo N es [])[k]? = some ((Gr.wt es [] k : Nat) : Int) from Gr.map_get _ _ _ hlt]
            rfl)
          obtain ⟨U, hU⟩ : ∃ U, U = Gr.wt es [] k := ⟨_, rfl⟩
          rw [← hU] at c0
          have HU := Lib.hid hU
          have hlen := Gy.short hnd (fun x hx => Nat.lt_trans ((hmem x).1 hx).1 hlt)
          by_cases h0 : U = 0
          · subst h0
            have hpush := push_any wr (Q + 1) p u hl k hS.hp hOk (by omega)
            have HS := Lib.hid (And.intro hS (And.intro hnd hmem))
            clear hU hS hnd hmem hlen hOk
            go_wp2_with fail
            refine hpush.mono ?_
            rintro _ w5 ⟨rfl, u5, l5, hR5, hOk5, hpm5, hk5, hu5⟩
            have hS5 := HS.out.1.heap hR5 hk5 hu5
            have hnk : k ∉ hl := fun h => by have := ((HS.out.2.2 k).1 h).1; omega
            have HF := Lib.hid (And.intro hS5 (And.intro hOk5 (And.intro (hpm5.nodup_iff.2 (List.nodup_cons.2 ⟨hnk, HS.out.2.1⟩)) (show ∀ x, x ∈ l5 ↔ x < k + 1 ∧ Gr.wt es [] x = 0 from fun x => by
              rw [hpm5.mem_iff, List.mem_cons, HS.out.2.2 x]
              constructor
              · rintro (rfl | ⟨a, b⟩)
                · exact ⟨by omega, HU.out.symm⟩
                · exact ⟨by omega, b⟩
              · rintro ⟨a, b⟩
                by_cases e : x = k
                · exact .inl e
                · exact .inr ⟨by omega, b⟩))))
            clear hpush hR5 hOk5 hpm5 hk5 hu5 hS5 hnk c0
            go_wp2_with fail
            go_roundw
            case rel => exact ⟨k + 1, _, _, by omega, by go_num, HF.out.2.1, HF.out.2.2.1, HF.out.2.2.2, HF.out.1⟩
            case measure => simp [intOf]; omega
          · have g0 : ((U : Int) == 0) = false := by simp; omega
            have HF := Lib.hid (And.intro hS (And.intro hOk (And.intro hnd (show ∀ x, x ∈ hl ↔ x < k + 1 ∧ Gr.wt es [] x = 0 from fun x => by
              rw [hmem x]
              constructor
              · rintro ⟨a, b⟩; exact ⟨by omega, b⟩
              · rintro ⟨a, b⟩
                by_cases e : x = k
                · subst e; exact absurd (hU.trans b) h0
                · exact ⟨by omega, b⟩))))
            clear hU hS hnd hmem hlen hOk h0
            go_wp2_with fail
            go_roundw
            case rel => exact ⟨k + 1, _, _, by omega, by go_num, HF.out.2.1, HF.out.2.2.1, HF.out.2.2.2, HF.out.1⟩
            case measure => simp [intOf]; omega
        · obtain rfl : N = k := by omega
          have hmem' : ∀ x, x ∈ hl ↔ x < N ∧ Gr.rdy es [] x = true := fun x => by rw [hmem x, Gr.rdy_wt]; simp
          have H0 := Lib.hid (And.intro hS (And.intro hOk (And.intro hnd hmem')))
          clear hS hOk hnd hmem hmem'
          go_wp2_with fail
          obtain ⟨wy, rfl⟩ : ∃ wy : World, wy = wr := ⟨_, rfl⟩
          go_loopw [14] (fun o wr => ∃ (ls : List (List Nat)) (os : List Value) (u : Value) (hl : List Nat) (f : Nat), slLen o = ls.length ∧ Gy.L3 N es W ls os hl f ∧ Gy.St w2 (Q + 1) (Q + 1) (Q + 1 + 1) p N vs wr (wo N es ls.flatten) u hl o os (vs.zip (Gr.nl N es) ++ os.zip ls)) (fun o _ => N - slLen o)
          case atStart => exact ⟨[], [], u, hl, N, rfl, ⟨Gr.Good.nil N es, rfl, Nat.zero_le _, by simp, rfl, H0.out.2.1, H0.out.2.2.1, H0.out.2.2.2⟩, by simpa using H0.out.1⟩
          case round =>
            clear H0
            obtain ⟨ls, os, u, hl, f, hol, hL, hS⟩ := hrel
            have hrow := hS.hp.row
            obtain ⟨Au, cu, rfl, -, -⟩ := own_slice hrow
            obtain ⟨Ao, co, rfl, -, -⟩ := own_slice hS.ou
            have cp : wr.cell? ⟨p, 0, none⟩ = some (.slice Au hl.length cu) := by rw [hS.hp.blk.cell]; rfl
            by_cases hl0 : 0 < hl.length
            · have hne : hl ≠ [] := by intro e; rw [e] at hl0; simp at hl0
              have hlen := Gy.short hL.nd (fun x hx => ((hL.mem x).1 hx).1)
              have htake := htake_any wr (Q + 1) p _ hl W hS.hp (by omega) (by omega)
              obtain ⟨hr1, hr2, hr3⟩ := Gr.heap_round (w := W) hL.ok hL.nd hL.mem
              obtain ⟨a, ha⟩ : ∃ a, a = Gr.now N es W ls.flatten := ⟨_, rfl⟩
              obtain ⟨l1, hl1⟩ : ∃ l1, l1 = (Hp.take W hl).2 := ⟨_, rfl⟩
              rw [hr1, ← ha, ← hl1, hnats_ilist] at htake
              rw [← hl1] at hr2
              rw [← ha, ← hl1] at hr3
              have ha0 : 0 < a.length := by
                rw [ha]
                exact List.length_pos_iff.2 (fun e => hne ((Gr.heap_nil hL.mem (by omega)).2 e))
              have haW : a.length ≤ 16 := by rw [ha]; exact Nat.le_trans (Gr.now_length _ _ _ _) hW2
              have H1 := Lib.hid (And.intro hS (And.intro hL (And.intro ha (And.intro hr2 (And.intro hr3 hne)))))
              clear hS hL ha hr1 hr2 hr3 hl1 hne hrow hlen
              go_wp2_with fail
              refine htake.mono ?_
              rintro _ w3 ⟨v, rfl, hv3, u3, hR3, hk3, hu3⟩
              have hS3 := H1.out.1.heap hR3 hk3 (.inl hu3)
              have hN3 : SlN w3 v a := SlN.of_own hv3
              have hf3 : FarU (Gy.T (Q + 1) p u3 (.slice Ao os.length co)) v a := FarU.new (new_own hv3) (fun k hk => H1.out.1.tlt k (hk.imp id (Or.imp id (Or.imp (fun e => hu3 ▸ e) id))))
              obtain ⟨gv, cv, rfl, hvc, hvm, -⟩ := own_addr hv3 ha0
              have hS4 := hS3.more hN3 hf3
              have H4 := Lib.hid hS4
              clear htake hv3 hR3 hk3 hu3 hS3 hN3 hf3 hS4 cp
              go_wp2_with fail
              go_loopw [85] (fun i wr => ∃ (k : Nat) (u : Value) (hl : List Nat), k ≤ a.length ∧ i = .int .i64 (k : Int) ∧ Hp.Ok hl ∧ Gr.HeapP N es ls.flatten a k hl ∧ Gy.St w2 (Q + 1) (Q + 1) (Q + 1 + 1) p N vs wr (wo N es (ls.flatten ++ a.take k)) u hl (.slice Ao os.length co) os ((.slice (some ⟨gv, 0, none⟩) a.length cv, a) :: (vs.zip (Gr.nl N es) ++ os.zip ls))) (fun i _ => a.length - (intOf i).toNat)
              case atStart => exact ⟨0, u3, l1, Nat.zero_le _, rfl, H1.out.2.2.2.1, H1.out.2.2.2.2.1, by simpa using H4.out⟩
              case round =>
                clear H4
                obtain ⟨k, u, hl, hk, rfl, hOk, hP, hS⟩ := hrel
                by_cases hka : k < a.length
                · obtain ⟨n, hn⟩ : ∃ n, a[k]? = some n := ⟨_, List.getElem?_eq_getElem hka⟩
                  have hnow : n ∈ Gr.now N es W ls.flatten := by rw [← H1.out.2.2.1]; exact List.mem_of_getElem? hn
                  obtain ⟨hnN, hnr⟩ := Gr.now_mem hnow
                  obtain ⟨hno, hnp⟩ := Gr.rdy_iff.1 hnr
                  have hgd : Gr.Good N es (ls.flatten ++ a.take k) := by rw [H1.out.2.2.1]; exact H1.out.2.1.good.part k (by rw [← H1.out.2.2.1]; omega)
                  have hno2 : n ∉ ls.flatten ++ a.take k := by
                    have := (H1.out.2.1.good.part (w := W) (k + 1) (by rw [← H1.out.2.2.1]; omega)).nd
                    rw [← H1.out.2.2.1, Gr.take_snoc hn, ← List.append_assoc] at this
                    exact fun h => (List.nodup_append.1 this).2.2 n h n (by simp) rfl
                  have hnp2 : ∀ e ∈ es, e.2 = n → e.1 ∈ ls.flatten ++ a.take k := fun e he em => List.mem_append_left _ (hnp e he em)
                  obtain ⟨D, hD⟩ : ∃ D, D = ls.flatten ++ a.take k := ⟨_, rfl⟩
                  obtain ⟨nx, hnx⟩ : ∃ nx, nx = Gr.next es n := ⟨_, rfl⟩
                  have hnl : (Gr.nl N es)[n]? = some nx := by rw [hnx]; exact Gr.map_get _ _ _ hnN
                  obtain ⟨vn, hvn⟩ : ∃ v, vs[n]? = some v := ⟨_, List.getElem?_eq_getElem (by omega)⟩
                  have hin : (vn, nx) ∈ vs.zip (Gr.nl N es) := List.mem_of_getElem? (List.getElem?_zip_eq_some.2 ⟨hvn, hnl⟩)
                  have c1 := (hS.far _ List.mem_cons_self).1.get0 hn
                  have c2 : wr.cell? ⟨Q + 1 + 1, n, none⟩ = some vn := (hS.nb.cell n).trans hvn
                  have hfn : SlN wr vn nx := (hS.far _ (List.mem_cons_of_mem _ (List.mem_append_left _ hin))).1
                  obtain ⟨VB, cb, rfl, hcb, hcm⟩ := hfn.form
                  clear hfn
                  have hnxl : nx.length ≤ 1099511627776 := by
                    rw [hnx]
                    unfold Gr.next
                    rw [List.length_map]
                    exact Nat.le_trans (List.length_filter_le _ _) hle
                  have e0 : wo N es D = Gr.wj N es D n 0 := (Gr.wj_zero N es D n).symm
                  have hQ0 := hP.begin hn
                  rw [← hD] at hgd hno2 hnp2 hS
                  rw [e0] at hS
                  have HG := Lib.hid (And.intro hn (And.intro hnow (And.intro hgd (And.intro hno2 (And.intro hnp2 (And.intro hD (And.intro hnx hin)))))))
                  have H5 := Lib.hid (And.intro hS (And.intro hOk hQ0))
                  clear hn hnow hnr hno hnp hgd hno2 hnp2 hD hnx hnl hvn hin hS hOk hP hQ0 e0
                  go_wp2_with fail
                  clear c1 c2
                  go_loopw [94] (fun i wr => ∃ (j : Nat) (u : Value) (hl : List Nat), j ≤ nx.length ∧ i = .int .i64 (j : Int) ∧ Hp.Ok hl ∧ Gr.HeapQ N es ls.flatten a k n j hl ∧ Gy.St w2 (Q + 1) (Q + 1) (Q + 1 + 1) p N vs wr (Gr.wj N es D n j) u hl (.slice Ao os.length co) os ((.slice (some ⟨gv, 0, none⟩) a.length cv, a) :: (vs.zip (Gr.nl N es) ++ os.zip ls))) (fun i _ => nx.length - (intOf i).toNat)
                  case atStart => exact ⟨0, u, hl, Nat.zero_le _, rfl, H5.out.2.1, H5.out.2.2, H5.out.1⟩
                  case round =>
                    clear H5
                    obtain ⟨j, u, hl, hj, rfl, hOk, hHQ, hS⟩ := hrel
                    by_cases hjl : j < nx.length
                    · obtain ⟨m, hm⟩ : ∃ m, nx[j]? = some m := ⟨_, List.getElem?_eq_getElem hjl⟩
                      have hm' : (Gr.next es n)[j]? = some m := by rw [← HG.out.2.2.2.2.2.2.1]; exact hm
                      have hmN : m < N := (HES.out _ (Gr.mem_next.1 (List.mem_of_getElem? hm'))).2
                      have hfn : SlN wr (.slice VB nx.length cb) nx := (hS.far _ (List.mem_cons_of_mem _ (List.mem_append_left _ HG.out.2.2.2.2.2.2.2))).1
                      obtain ⟨gb, go, hVB, hgl, c1⟩ := hfn.get hm
                      clear hfn
                      subst hVB
                      have hwl : (Gr.wj N es D n j).length = N := by simp [Gr.wj]
                      have r0 := hS.wt
                      obtain ⟨X, hX⟩ : ∃ X : Int, X = ((Gr.wt es D m : Nat) : Int) - ((((Gr.next es n).take j).count m : Nat) : Int) := ⟨_, rfl⟩
                      have c0 := own_cell r0 (j := m) (u := .int .i64 X) (by
                        show (List.map _ _)[m]? = _
                        rw [List.getElem?_map, Gr.wj_get hmN, hX]
                        rfl)
                      have hX0 : 0 ≤ X := by
                        have h1 := Gr.count_le HG.out.2.2.2.1 es m
                        have h2 : ((Gr.next es n).take j).count m ≤ (Gr.next es n).count m := List.Sublist.count_le m (List.take_sublist _ _)
                        omega
                      have hX1 : X ≤ 1099511627776 := by
                        have := Gr.wt_le es D m
                        omega
                      have f0 := row_frozen r0 m
                      have hr9 := row_set r0 m (.int .i64 (X - 1))
                      have hg9 := grown_setCell wr (Q + 1) m (.int .i64 (X - 1))
                      have H9 := Lib.hid (And.intro hS (And.intro hOk (And.intro hHQ (And.intro hX hm'))))
                      clear hS hOk hHQ hX hm hm' r0 hwl
                      go_upto_region 31 with (fail)
                      obtain ⟨w9, hw9⟩ : ∃ w9, w9 = wr.setCell ⟨Q + 1, m, none⟩ (.int .i64 (X - 1)) := ⟨_, rfl⟩
                      rw [← hw9] at hr9 hg9 ⊢
                      have hws : Gr.wj N es D n (j + 1) = (Gr.wj N es D n j).set m (X - 1) := by rw [Gr.wj_step H9.out.2.2.2.2, H9.out.2.2.2.1]
                      have c2 := own_cell hr9 (j := m) (u := .int .i64 (X - 1)) (List.getElem?_set_self (by rw [ints_length]; simp [Gr.wj]; exact hmN))
                      rw [← ints_set, ← hws] at hr9
                      have hS9 := H9.out.1.wait hr9 hg9
                      clear hr9 hg9 hw9 c0 c1 f0 hws
                      generalize hY : X - 1 = Y at c2 ⊢
                      have HY := Lib.hid hY
                      have HS9 := Lib.hid hS9
                      have hlen := Gy.short H9.out.2.2.1.1 (fun x hx => ((H9.out.2.2.1.2 x).1 hx).1.1)
                      clear hY hX0 hX1 hS9
                      by_cases hy : Y = 0
                      · subst hy
                        have hpush := push_any w9 (Q + 1) p u hl m HS9.out.hp H9.out.2.1 (by omega)
                        clear hlen
                        go_wp2_with fail
                        refine hpush.mono ?_
                        rintro _ w5 ⟨rfl, u5, l5, hR5, hOk5, hpm5, hk5, hu5⟩
                        have hHQ' := H9.out.2.2.1.push (by rw [← HG.out.2.2.2.2.2.1]; exact HG.out.2.2.1) (fun e he => (HES.out e he).2) (by rw [← HG.out.2.2.2.2.2.1]; exact HG.out.2.2.2.1) (by rw [← HG.out.2.2.2.2.2.1]; exact HG.out.2.2.2.2.1) H9.out.2.2.2.2 (by rw [H1.out.2.2.1]; exact Gr.next_out HG.out.2.1 (List.mem_of_getElem? H9.out.2.2.2.2)) (by rw [← HG.out.2.2.2.2.2.1]; have := H9.out.2.2.2.1; have := HY.out; omega) hpm5
                        have HF := Lib.hid (And.intro (HS9.out.heap hR5 hk5 hu5) (And.intro hOk5 hHQ'))
                        clear hpush hR5 hOk5 hpm5 hk5 hu5 hHQ' c2
                        go_wp2_with fail
                        go_roundw
                        case rel => exact ⟨j + 1, _, _, by omega, by go_num, HF.out.2.1, HF.out.2.2, HF.out.1⟩
                        case measure => simp [intOf]; omega
                      · have gy : (Y == 0) = false := by simpa using hy
                        have hHQ' := H9.out.2.2.1.stay (by rw [← HG.out.2.2.2.2.2.1]; exact HG.out.2.2.1) (fun e he => (HES.out e he).2) (by rw [← HG.out.2.2.2.2.2.1]; exact HG.out.2.2.2.1) (by rw [← HG.out.2.2.2.2.2.1]; exact HG.out.2.2.2.2.1) H9.out.2.2.2.2 (by rw [← HG.out.2.2.2.2.2.1]; exact fun h => hy (by have := H9.out.2.2.2.1; have := HY.out; omega))
                        have HF := Lib.hid hHQ'
                        clear hHQ' hy hlen
                        go_wp2_with fail
                        go_roundw
                        case rel => exact ⟨j + 1, _, _, by omega, by go_num, H9.out.2.1, HF.out, HS9.out⟩
                        case measure => simp [intOf]; omega
                    · obtain rfl : j = nx.length := by omega
                      have hnn : nx.length = (Gr.next es n).length := by rw [HG.out.2.2.2.2.2.2.1]
                      rw [hnn] at hHQ hS
                      have e1 : Gr.wj N es D n (Gr.next es n).length = wo N es (D ++ [n]) := Gr.wj_full HG.out.2.2.2.1
                      have e2 : D ++ [n] = ls.flatten ++ a.take (k + 1) := by rw [HG.out.2.2.2.2.2.1, Gr.take_snoc HG.out.1, List.append_assoc]
                      rw [e1, e2] at hS
                      have hP' := hHQ.finish HG.out.1 (by rw [← HG.out.2.2.2.2.2.1]; exact HG.out.2.2.2.1)
                      have HF := Lib.hid (And.intro hS (And.intro hOk hP'))
                      clear hS hOk hP' hHQ e1 e2 hnn
                      go_wp2_with fail
                      go_roundw
                      case rel => exact ⟨k + 1, _, _, by omega, by go_num, HF.out.2.1, HF.out.2.2, HF.out.1⟩
                      case measure => simp [intOf]; omega
                · obtain rfl : k = a.length := by omega
                  rw [List.take_length] at hS
                  have hPn := hP
                  rw [H1.out.2.2.1] at hPn
                  obtain ⟨f', hL', hlsN⟩ := H1.out.2.1.next (by omega) H1.out.2.2.2.2.2 (.slice (some ⟨gv, 0, none⟩) a.length a.length) hOk hPn
                  rw [← H1.out.2.2.1] at hL'
                  have hos : os.length = ls.length := H1.out.2.1.len
                  have hcl := clipn_any wr ⟨gv, 0, none⟩ a.length cv hvc hvm
                  have n63 : os.length + 1 ≤ maxLen := by unfold maxLen; omega
                  have n47 : (os.length + 1) * 24 ≤ 140737488355328 := by omega
                  have hrow := hS.ou
                  have hbase := hS.hp.base
                  have H6 := Lib.hid (And.intro hS (And.intro hL' (And.intro hlsN hos)))
                  clear hS hL' hlsN hos hP hPn hOk
                  go_wp2_with fail
                  refine hcl.mono ?_
                  rintro _ _ ⟨rfl, rfl⟩
                  go_wp2_with (first | (at_builtin; refine wp_push_at _ _ _ _ (by first | rfl | simp) _ _ _ _ _ _ Tryd.underlying26 info_sint rfl (by decide) hrow [.slice (some ⟨gv, 0, none⟩) a.length a.length] rfl (by simp [Value.oneCell']) n63 n47 hbase rfl rfl rfl rfl ?_; intro v7 w7 hr7 hg7 hv7 hb7) | fail)
                  have hvc2 := (H6.out.1.far _ List.mem_cons_self).1.clip
                  have hvf2 : FarU (Gy.T (Q + 1) p u (.slice Ao os.length co)) (.slice (some ⟨gv, 0, none⟩) a.length a.length) a := (H6.out.1.far _ List.mem_cons_self).2
                  have hlv7 := own_len hr7
                  have hS7 := (H6.out.1.more hvc2 hvf2).out (fs' := vs.zip (Gr.nl N es) ++ (os ++ [Value.slice (some ⟨gv, 0, none⟩) a.length a.length]).zip (ls ++ [a])) hr7 hg7 (hv7.imp id fun e => ⟨_, Nat.le_succ _, e⟩) (fun x hx => by
                    rw [List.zip_append H6.out.2.2.2] at hx
                    simp only [List.zip_cons_cons, List.zip_nil_right, List.mem_append, List.mem_singleton] at hx
                    rcases hx with hx | hx | rfl
                    · exact List.mem_cons_of_mem _ (List.mem_cons_of_mem _ (List.mem_append_left _ hx))
                    · exact List.mem_cons_of_mem _ (List.mem_cons_of_mem _ (List.mem_append_right _ hx))
                    · exact List.mem_cons_self)
                  have efl : ls.flatten ++ a = (ls ++ [a]).flatten := by simp
                  rw [efl] at hS7
                  have HF := Lib.hid (And.intro hS7 H6.out.2.1)
                  have hlsn := H6.out.2.2.1
                  have hosn := H6.out.2.2.2
                  clear hr7 hg7 hv7 hb7 hvc2 hvf2 hS7 efl hcl hrow hbase
                  go_roundw
                  case rel => exact ⟨ls ++ [a], _, u, _, f', by rw [hlv7]; simp [hosn], HF.out.2, HF.out.1⟩
                  case measure => rw [hlv7]; simp only [slLen]; omega
            · have hnil : hl = [] := List.eq_nil_of_length_eq_zero (by omega)
              have hall : ls = Gr.all N es W := hL.done (by omega) hnil
              have hz : hl.length = 0 := by omega
              have HF := Lib.hid (And.intro hS (And.intro hL hall))
              clear hS hL hall hrow hnil hl0
              go_wp2_with fail
              go_ret2
              refine ⟨_, os, rfl, own_base HF.out.1.ou (by have := HQ.out; omega), ⟨?_, ?_⟩, ?_⟩
              · rw [← HF.out.2.2]; exact HF.out.2.1.len
              · rw [← HF.out.2.2]; exact fun x hx => (HF.out.1.far x (List.mem_append_right _ hx)).1
              · exact HK3.out.1.trans (HF.out.1.below.mono (by have := HQ.out; omega))
end Go.Proofs.YtpimcghmpbbckaaDoor


namespace Go.Proofs.YtpimcghmpbbckaaDoor
set_option linter.unusedVariables false
set_option linter.unusedSimpArgs false
set_option maxRecDepth 100000
open Go.RowKit

namespace Gy
def err (n : Int) (es : List Gr.Er) (k : Int) : Int := if Gr.wrong n es ≠ 0 then Gr.wrong n es else if k < 1 ∨ 16 < k then 2 else 0
def res (n : Int) (es : List Gr.Er) (k : Int) : List (List Nat) := if err n es k = 0 then Gr.all n.toNat (Gr.nat es) k.toNat else []
theorem err_zero {n : Int} {es : List Gr.Er} {k : Int} : err n es k = 0 ↔ Gr.wrong n es = 0 ∧ 1 ≤ k ∧ k ≤ 16 := by
  unfold err
  by_cases h : Gr.wrong n es = 0
  · rw [if_neg (by simpa using h)]
    by_cases h2 : k < 1 ∨ 16 < k
    · rw [if_pos h2]
      constructor
      · intro h; cases h
      · rintro ⟨-, a, b⟩; omega
    · rw [if_neg h2]
      exact ⟨fun _ => ⟨h, by omega, by omega⟩, fun _ => rfl⟩
  · rw [if_pos h]
    exact ⟨fun e => absurd e h, fun e => absurd e.1 h⟩
theorem Rs.nil (w : World) : Rs w [] [] := ⟨rfl, fun x hx => by simp at hx⟩
theorem Rs.below {w w' : World} {os : List Value} {ls : List (List Nat)} (h : Rs w os ls) (hb : Below w.heap.size w w') : Rs w' os ls := ⟨h.1, fun x hx => (h.2 x hx).below hb⟩
theorem Rs.get {w : World} {os : List Value} {ls : List (List Nat)} (h : Rs w os ls) {i : Nat} {l : List Nat} (hi : ls[i]? = some l) : ∃ v, os[i]? = some v ∧ SlN w v l := by
  obtain ⟨hl, -⟩ := List.getElem?_eq_some_iff.1 hi
  have hv : os[i]? = some (os[i]'(by rw [h.1]; exact hl)) := List.getElem?_eq_getElem _
  exact ⟨_, hv, h.2 (_, l) (List.mem_of_getElem? (List.getElem?_zip_eq_some.2 ⟨hv, hi⟩))⟩
end Gy
theorem Gr.wrong_none {n : Int} {es : List Gr.Er} (h : Gr.wrong n es = 0) : ∃ N : Nat, n = (N : Int) ∧ N ≤ 200 ∧ (∀ e ∈ Gr.nat es, e.1 < N ∧ e.2 < N) ∧ (Gr.nat es).length = es.length ∧ ercs es = edcs (Gr.nat es) ∧ (Gr.take N (Gr.nat es)).length = N := by
  unfold Gr.wrong at h
  by_cases hok : Gr.okG n es = true
  · rw [if_pos hok] at h
    obtain ⟨N, rfl, h1, h2, h3, -⟩ := Gr.nat_ok hok
    refine ⟨N, rfl, h1, h2, h3, ercs_nat hok, ?_⟩
    have hg := (Gr.good_take N (Gr.nat es)).length
    rw [Int.toNat_natCast] at h
    split at h
    · cases h
    · omega
  · rw [if_neg hok] at h
    cases h

set_option maxHeartbeats 4000000 in
theorem rounds_any (n : Int) (es : List Gr.Er) (k : Int) (w : World) (A : Option Addr) (c : Nat) (hA : SlV w 2 (.slice A es.length c) es.length (ercs es)) (hle : es.length ≤ 1099511627776) (hT : Tab w) :
    Calls Tryd.prog 13 #[.agg #[.int .i64 n, .slice A es.length c], .int .i64 k] w fun e w' => ∃ u os, e = .returned (.tuple #[u, .int .i64 (Gy.err n es k)]) ∧ w'.ownsRow w.heap.size 32 1 u os.length os ∧ Gy.Rs w' os (Gy.res n es k) ∧ Below w.heap.size w w' := by
  have hwr : ∀ w', Below w.heap.size w w' → Calls Tryd.prog 14 #[.agg #[.int .i64 n, .slice A es.length c]] w' fun e w'' => e = .returned (.int .i64 (Gr.wrong n es)) ∧ Below w'.heap.size w' w'' := fun w' hb =>
    wrong_any n es w' A c (hA.below hb) hle (fun j hj => (hb.cell (p := ⟨0, j, none⟩) hT.lt).trans (hT j hj))
  by_cases he : Gy.err n es k = 0
  · obtain ⟨h0, k1, k2⟩ := Gy.err_zero.1 he
    obtain ⟨N, rfl, hN, hes, hln, hcs, -⟩ := Gr.wrong_none h0
    obtain ⟨K, rfl⟩ := Int.eq_ofNat_of_zero_le (show 0 ≤ k by omega)
    have := rounds_core N (Gr.nat es) K w A c hN hes (by omega) (by omega) (by rw [hln, ← hcs]; exact hA) (by omega) (by rw [hln]; rw [h0] at hwr; exact hwr)
    rw [hln] at this
    unfold Gy.res
    rw [he, if_pos rfl]
    exact this
  · have hres : Gy.res n es k = [] := by unfold Gy.res; rw [if_neg he]
    have x0 := Blk.new w 24 [.int .i64 n, .slice A es.length c]
    have hb0 : Below w.heap.size w (w.alloc (.cells #[.int .i64 n, .slice A es.length c] 24)) := below_alloc (Below.refl _ _) _
    have hwr1 := hwr _ hb0
    obtain ⟨E, hE⟩ : ∃ E, E = Gy.err n es k := ⟨_, rfl⟩
    obtain ⟨R, hR⟩ : ∃ R, R = Gr.wrong n es := ⟨_, rfl⟩
    have hER : E = if R ≠ 0 then R else if k < 1 ∨ 16 < k then 2 else 0 := by rw [hE, hR]; rfl
    rw [hres, ← hE]
    rw [← hR] at hwr1
    have he' : E ≠ 0 := by rw [hE]; exact he
    clear he hres hwr hE hR hA
    go_enter Tryd.func13, Tryd.ntmps13
    go_upto_region 1 with (fail)
    generalize (w.alloc (.cells #[.int .i64 n, .slice A es.length c] 24)) = V0 at x0 hb0 hwr1 ⊢
    have d0 : V0.cell? ⟨w.heap.size, 0, none⟩ = some (.int .i64 n) := (x0.cell 0).trans rfl
    have d1 : V0.cell? ⟨w.heap.size, 1, none⟩ = some (.slice A es.length c) := (x0.cell 1).trans rfl
    have HE := Lib.hid hER
    have HE' := Lib.hid he'
    clear hER he'
    go_wp2_with fail
    refine hwr1.mono ?_
    rintro _ W0 ⟨rfl, hbW⟩
    have HB := Lib.hid (below_next hbW hb0)
    clear hwr1 hb0 hbW x0 d0 d1
    by_cases h0 : R = 0
    · subst h0
      have hE2 := HE.out
      rw [if_neg (by simp)] at hE2
      have hk : k < 1 ∨ 16 < k := Decidable.byContradiction fun h => HE'.out (by rw [hE2, if_neg h])
      rw [if_pos hk] at hE2
      subst hE2
      clear HE
      rcases k1 : decide (k < 1) with _ | _
      · have k2 : decide (16 < k) = true := decide_eq_true (hk.resolve_left (of_decide_eq_false k1))
        clear hk
        go_wp2_with fail
        go_ret2
        exact ⟨_, [], rfl, World.ownsRow_nil _ _ _ _, Gy.Rs.nil _, HB.out⟩
      · clear hk
        go_wp2_with fail
        go_ret2
        exact ⟨_, [], rfl, World.ownsRow_nil _ _ _ _, Gy.Rs.nil _, HB.out⟩
    · have g0 : (R != 0) = true := by simpa using h0
      have hE2 := HE.out
      rw [if_pos h0] at hE2
      subst hE2
      clear HE HE' h0
      go_wp2_with fail
      go_ret2
      exact ⟨_, [], rfl, World.ownsRow_nil _ _ _ _, Gy.Rs.nil _, HB.out⟩
end Go.Proofs.YtpimcghmpbbckaaDoor


namespace Go.Proofs.YtpimcghmpbbckaaDoor.Gr
set_option linter.unusedVariables false
set_option linter.unusedSimpArgs false
set_option maxRecDepth 100000

theorem now_short {N : Nat} {es : List Ed} {w : Nat} {D : List Nat} (h : (now N es w D).length < w) {m : Nat} (hm : m < N) (hr : rdy es D m = true) : m ∈ now N es w D := by
  unfold now at h ⊢
  rw [List.length_take] at h
  rw [List.take_of_length_le (by omega)]
  exact List.mem_filter.2 ⟨List.mem_range.2 hm, hr⟩

/-- a round that is not full does all of the lowest level that is left -/
theorem brent_from {N v h : Nat} {es : List Ed} {lv : Nat → Nat} (hes : ∀ e ∈ es, e.1 < N) (up : ∀ e ∈ es, lv e.1 < lv e.2) (top : ∀ m, m < N → lv m < h) :
    ∀ (f : Nat) (D : List Nat) (lo : Nat), Good N es D → lo ≤ h → (∀ m, m < N → m ∉ D → lo ≤ lv m) → (v + 1) * (rounds N es (v + 1) f D).length + D.length ≤ N + v * (h - lo)
  | 0, D, lo, hG, hlo, hmin => by
    have := hG.length
    rw [rounds]
    simp only [List.length_nil, Nat.mul_zero]
    omega
  | f + 1, D, lo, hG, hlo, hmin => by
    unfold rounds
    split
    · have := hG.length
      simp only [List.length_nil, Nat.mul_zero]
      omega
    · rename_i hne
      have hG' := hG.round (w := v + 1)
      have hl := hG'.length
      have h0 : 0 < (now N es (v + 1) D).length := List.length_pos_iff.2 hne
      rw [List.length_append] at hl
      rw [List.length_cons, Nat.mul_add, Nat.mul_one]
      by_cases hfull : (now N es (v + 1) D).length < v + 1
      · have hlo1 : lo + 1 ≤ h := by
          obtain ⟨m, hm⟩ := List.exists_mem_of_ne_nil _ hne
          obtain ⟨m1, m2⟩ := now_mem hm
          have := top m m1
          have := hmin m m1 (rdy_iff.1 m2).1
          omega
        have ih := brent_from (v := v) hes up top f (D ++ now N es (v + 1) D) (lo + 1) hG' hlo1 (fun m hm hmD => by
          have hmD' : m ∉ D := fun x => hmD (List.mem_append_left _ x)
          have h1 := hmin m hm hmD'
          refine Decidable.byContradiction fun hlt => hmD (List.mem_append_right _ (now_short hfull hm (rdy_iff.2 ⟨hmD', fun e he em => ?_⟩)))
          refine Decidable.byContradiction fun hin => ?_
          have h2 := hmin e.1 (hes e he) hin
          have h3 := up e he
          rw [em] at h3
          omega)
        rw [List.length_append] at ih
        have e1 : v * (h - lo) = v * (h - (lo + 1)) + v := by
          rw [show h - lo = (h - (lo + 1)) + 1 by omega, Nat.mul_add, Nat.mul_one]
        omega
      · have ih := brent_from (v := v) hes up top f (D ++ now N es (v + 1) D) lo hG' hlo (fun m hm hmD => hmin m hm (fun x => hmD (List.mem_append_left _ x)))
        have := now_length N es (v + 1) D
        rw [List.length_append] at ih
        omega
theorem brent {N v h : Nat} {es : List Ed} {lv : Nat → Nat} (hes : ∀ e ∈ es, e.1 < N) (up : ∀ e ∈ es, lv e.1 < lv e.2) (top : ∀ m, m < N → lv m < h) : (v + 1) * (all N es (v + 1)).length ≤ N + v * h := by
  have := brent_from (v := v) hes up top N [] 0 (Good.nil N es) (Nat.zero_le _) (fun m _ _ => Nat.zero_le _)
  simpa [all] using this
/-- no fewer rounds than levels -/
theorem level_le {N w : Nat} {es : List Ed} {lv : Nat → Nat} (down : ∀ m, m < N → 0 < lv m → ∃ e ∈ es, e.2 = m ∧ lv e.1 + 1 = lv m) (hes : ∀ e ∈ es, e.1 < N) : ∀ (n m k : Nat) (a : List Nat), lv m = n → m < N → (all N es w)[k]? = some a → m ∈ a → lv m ≤ k := by
  intro n
  induction n with
  | zero => intro m k a h _ _ _; omega
  | succ n ih =>
    intro m k a h hm hk ha
    obtain ⟨e, he, em, hl⟩ := down m hm (by omega)
    obtain ⟨j, b, hjk, hj, hb⟩ := all_order hk ha e he em
    have := ih e.1 j b (by omega) (hes e he) hj hb
    omega
theorem rounds_high {N w h : Nat} {es : List Ed} {lv : Nat → Nat} (hw : 0 < w) (hT : (take N es).length = N) (down : ∀ m, m < N → 0 < lv m → ∃ e ∈ es, e.2 = m ∧ lv e.1 + 1 = lv m) (hes : ∀ e ∈ es, e.1 < N) (hh : ∃ m, m < N ∧ lv m + 1 = h) : h ≤ (all N es w).length := by
  obtain ⟨m, hm, e⟩ := hh
  obtain ⟨a, ha, hma⟩ := List.mem_flatten.1 ((all_full hw hT).1 m hm)
  obtain ⟨k, hk⟩ := List.getElem?_of_mem ha
  have h1 := level_le down hes _ m k a rfl hm hk hma
  have h2 := (List.getElem?_eq_some_iff.1 hk).1
  omega
theorem rounds_work {N w : Nat} {es : List Ed} (hw : 0 < w) (hT : (take N es).length = N) : N ≤ w * (all N es w).length := by
  have h1 := (all_full hw hT).2
  have h2 : ∀ l : List (List Nat), (∀ a ∈ l, a.length ≤ w) → l.flatten.length ≤ w * l.length := by
    intro l
    induction l with
    | nil => simp
    | cons a l ih =>
      intro h
      have h3 := h a (by simp)
      have h4 := ih (fun x hx => h x (by simp [hx]))
      rw [List.flatten_cons, List.length_append, List.length_cons, Nat.mul_add, Nat.mul_one]
      omega
  have := h2 (all N es w) (fun a ha => by
    obtain ⟨k, hk⟩ := List.getElem?_of_mem ha
    rw [(rounds_at N [] k a hk).1]
    exact now_length _ _ _ _)
  omega
end Go.Proofs.YtpimcghmpbbckaaDoor.Gr


namespace Go.Proofs.YtpimcghmpbbckaaDoor.Gr
set_option linter.unusedVariables false
set_option linter.unusedSimpArgs false
set_option maxRecDepth 100000

/-- the edges between those that are left -/
def left (es : List Ed) (D : List Nat) : List Ed := es.filter fun e => !D.contains e.1 && !D.contains e.2
theorem mem_left {es : List Ed} {D : List Nat} {e : Ed} : e ∈ left es D ↔ e ∈ es ∧ e.1 ∉ D ∧ e.2 ∉ D := by
  unfold left
  rw [List.mem_filter, Bool.and_eq_true]
  simp
/-- levels of a graph -/
structure Lv (N : Nat) (es : List Ed) (lv : Nat → Nat) (h : Nat) : Prop where
  up : ∀ e ∈ es, lv e.1 < lv e.2
  down : ∀ m, m < N → 0 < lv m → ∃ e ∈ es, e.2 = m ∧ lv e.1 + 1 = lv m
  top : ∀ m, m < N → lv m < h
  hit : ∃ m, m < N ∧ lv m + 1 = h
theorem idle_low {N w h h' : Nat} {es : List Ed} {D : List Nat} {lv lv' : Nat → Nat} (hes : ∀ e ∈ es, e.1 < N) (hs : (now N es w D).length < w) (h1 : Lv N (left es D) lv h) (h2 : Lv N (left es (D ++ now N es w D)) lv' h') :
    ∀ (n m : Nat), lv' m = n → m < N → m ∉ D ++ now N es w D → lv' m + 1 ≤ lv m := by
  intro n
  induction n with
  | zero =>
    intro m h0 hm hmD
    have hD : m ∉ D := fun x => hmD (List.mem_append_left _ x)
    rcases hr : rdy es D m with _ | _
    · obtain ⟨e, he, em, hin⟩ : ∃ e ∈ es, e.2 = m ∧ e.1 ∉ D := by
        refine Decidable.byContradiction fun hno => ?_
        have : rdy es D m = true := rdy_iff.2 ⟨hD, fun e he em => Decidable.byContradiction fun hin => hno ⟨e, he, em, hin⟩⟩
        rw [hr] at this
        cases this
      have := h1.up e (mem_left.2 ⟨he, hin, by rw [em]; exact hD⟩)
      rw [em] at this
      omega
    · exact absurd (List.mem_append_right _ (now_short hs hm hr)) hmD
  | succ n ih =>
    intro m h0 hm hmD
    obtain ⟨e, he, em, hl⟩ := h2.down m hm (by omega)
    obtain ⟨he1, he2, he3⟩ := mem_left.1 he
    have h3 := ih e.1 (by omega) (hes e he1) he2
    have h4 := h1.up e (mem_left.2 ⟨he1, fun x => he2 (List.mem_append_left _ x), fun x => he3 (List.mem_append_left _ x)⟩)
    rw [em] at h4
    omega
/-- the longest way among those left is shorter behind a round that is not full -/
theorem idle_height {N w h h' : Nat} {es : List Ed} {D : List Nat} {lv lv' : Nat → Nat} (hes : ∀ e ∈ es, e.1 < N) (hs : (now N es w D).length < w) (h1 : Lv N (left es D) lv h) (h2 : Lv N (left es (D ++ now N es w D)) lv' h') (hG : Good N es (D ++ now N es w D)) (hl : (D ++ now N es w D).length < N) : h' < h := by
  obtain ⟨m, hm, e⟩ := h2.hit
  by_cases hmD : m ∈ D ++ now N es w D
  · have hz : lv' m = 0 := by
      refine Decidable.byContradiction fun hne => ?_
      obtain ⟨x, hx, xm, -⟩ := h2.down m hm (by omega)
      obtain ⟨-, -, h3⟩ := mem_left.1 hx
      exact h3 (by rw [xm]; exact hmD)
    obtain ⟨y, hy, hyD⟩ : ∃ y, y < N ∧ y ∉ D ++ now N es w D := by
      refine Decidable.byContradiction fun hno => ?_
      have := (List.nodup_range (n := N)).length_le_of_subset (l₂ := D ++ now N es w D) (fun x hx => Decidable.byContradiction fun h => hno ⟨x, List.mem_range.1 hx, h⟩)
      rw [List.length_range] at this
      omega
    have h3 := idle_low hes hs h1 h2 _ y rfl hy hyD
    have h4 := h1.top y hy
    omega
  · have h3 := idle_low hes hs h1 h2 _ m rfl hm hmD
    have h4 := h1.top m hm
    omega
end Go.Proofs.YtpimcghmpbbckaaDoor.Gr


namespace Go.Proofs.YtpimcghmpbbckaaDoor.Gr
set_option linter.unusedVariables false
set_option linter.unusedSimpArgs false
set_option maxRecDepth 100000

def lget (L : List Nat) (m : Nat) : Nat := L.getD m 0
theorem lget_some {L : List Nat} {m : Nat} (h : m < L.length) : L[m]? = some (lget L m) := by simp [lget, List.getElem?_eq_getElem h]
theorem lget_set {L : List Nat} {m : Nat} (h : m < L.length) (x k : Nat) : lget (L.set m x) k = if k = m then x else lget L k := by
  unfold lget
  rw [List.getD_eq_getElem?_getD, List.getElem?_set, List.getD_eq_getElem?_getD]
  by_cases hk : m = k
  · subst hk; simp [h]
  · rw [if_neg hk, if_neg (fun e => hk e.symm)]
/-- D has told all; of those that n leads to, the first j have been told -/
structure LvI (N : Nat) (es : List Ed) (D : List Nat) (n j : Nat) (L : List Nat) : Prop where
  len : L.length = N
  up : ∀ e ∈ es, e.1 ∈ D → lget L e.1 + 1 ≤ lget L e.2
  upn : ∀ m ∈ (next es n).take j, lget L n + 1 ≤ lget L m
  down : ∀ m, 0 < lget L m → ∃ e ∈ es, e.2 = m ∧ e.1 ∈ D ++ [n] ∧ lget L e.1 + 1 = lget L m
  low : lget L n ≤ D.length
  top : ∀ m, lget L m ≤ D.length + 1
/-- D has told all -/
structure LvD (N : Nat) (es : List Ed) (D : List Nat) (L : List Nat) : Prop where
  len : L.length = N
  up : ∀ e ∈ es, e.1 ∈ D → lget L e.1 + 1 ≤ lget L e.2
  down : ∀ m, 0 < lget L m → ∃ e ∈ es, e.2 = m ∧ e.1 ∈ D ∧ lget L e.1 + 1 = lget L m
  top : ∀ m, lget L m ≤ D.length
/-- the levels of a graph -/
structure LvL (N : Nat) (es : List Ed) (L : List Nat) : Prop where
  len : L.length = N
  up : ∀ e ∈ es, lget L e.1 < lget L e.2
  down : ∀ m, 0 < lget L m → ∃ e ∈ es, e.2 = m ∧ lget L e.1 + 1 = lget L m
theorem LvD.start (N : Nat) (es : List Ed) : LvD N es [] (List.replicate N 0) := by
  have h0 : ∀ m, lget (List.replicate N 0) m = 0 := fun m => by
    unfold lget
    rw [List.getD_eq_getElem?_getD, List.getElem?_replicate]
    split <;> rfl
  exact ⟨by simp, fun e _ h => (by cases h), fun m h => (by rw [h0] at h; omega), fun m => (by rw [h0]; exact Nat.zero_le _)⟩
section
variable {N n j m : Nat} {es : List Ed} {D L : List Nat}
theorem LvD.begin (h : LvD N es D L) : LvI N es D n 0 L :=
  ⟨h.len, h.up, fun m hm => by simp at hm, fun m hm => by
    obtain ⟨e, h1, h2, h3, h4⟩ := h.down m hm
    exact ⟨e, h1, h2, List.mem_append_left _ h3, h4⟩, h.top n, fun m => Nat.le_succ_of_le (h.top m)⟩
theorem LvI.tell (h : LvI N es D n j L) (hj : (next es n)[j]? = some m) (hm : m < N) (hmD : m ∉ D ++ [n]) : LvI N es D n (j + 1) (L.set m (max (lget L m) (lget L n + 1))) := by
  have hs := lget_set (L := L) (m := m) (by rw [h.len]; exact hm) (max (lget L m) (lget L n + 1))
  have hD : ∀ a ∈ D ++ [n], lget (L.set m (max (lget L m) (lget L n + 1))) a = lget L a := fun a ha => by
    rw [hs, if_neg (fun e => hmD (by rw [← e]; exact ha))]
  have hge : ∀ a, lget L a ≤ lget (L.set m (max (lget L m) (lget L n + 1))) a := fun a => by
    rw [hs]
    split
    · rename_i e; subst e; exact Nat.le_max_left _ _
    · exact Nat.le_refl _
  have hn := hD n (by simp)
  have hlen : (L.set m (max (lget L m) (lget L n + 1))).length = N := by simpa using h.len
  generalize L.set m (max (lget L m) (lget L n + 1)) = L' at hs hD hge hn hlen ⊢
  refine ⟨hlen, fun e he hin => ?_, fun x hx => ?_, fun x hx => ?_, by rw [hn]; exact h.low, fun x => ?_⟩
  · rw [hD _ (List.mem_append_left _ hin)]
    exact Nat.le_trans (h.up e he hin) (hge _)
  · rw [hn]
    rw [take_snoc hj, List.mem_append] at hx
    rcases hx with hx | hx
    · exact Nat.le_trans (h.upn x hx) (hge _)
    · rw [List.mem_singleton.1 hx, hs, if_pos rfl]
      exact Nat.le_max_right _ _
  · by_cases e : x = m
    · subst e
      rw [hs, if_pos rfl] at hx ⊢
      by_cases hc : lget L x ≤ lget L n + 1
      · rw [Nat.max_eq_right hc]
        exact ⟨(n, x), mem_next.1 (List.mem_of_getElem? hj), rfl, by simp, by rw [hn]⟩
      · rw [Nat.max_eq_left (by omega)] at hx ⊢
        obtain ⟨e, h1, h2, h3, h4⟩ := h.down x (by omega)
        exact ⟨e, h1, h2, h3, by rw [hD _ h3]; exact h4⟩
    · rw [hs, if_neg e] at hx ⊢
      obtain ⟨e, h1, h2, h3, h4⟩ := h.down x hx
      exact ⟨e, h1, h2, h3, by rw [hD _ h3]; exact h4⟩
  · rw [hs]
    have := h.top x
    have := h.top m
    have := h.low
    split <;> omega
theorem LvI.finish (h : LvI N es D n (next es n).length L) : LvD N es (D ++ [n]) L := by
  refine ⟨h.len, fun e he hin => ?_, h.down, fun m => by rw [List.length_append]; exact h.top m⟩
  rcases List.mem_append.1 hin with hin | hin
  · exact h.up e he hin
  · have e1 := List.mem_singleton.1 hin
    rw [e1]
    have := h.upn e.2
    rw [List.take_length] at this
    exact this (mem_next.2 (by rw [← e1]; exact he))
theorem LvD.all (h : LvD N es D L) (hD : ∀ e ∈ es, e.1 ∈ D) : LvL N es L :=
  ⟨h.len, fun e he => h.up e he (hD e he), fun m hm => by
    obtain ⟨e, h1, h2, -, h4⟩ := h.down m hm
    exact ⟨e, h1, h2, h4⟩⟩
end
/-- whom a node of the order leads to comes later -/
theorem later_out {N k n m : Nat} {es : List Ed} {l : List Nat} (hg : Good N es l) (hk : l[k]? = some n) (hm : m ∈ next es n) : m ∉ l.take k ++ [n] := fun h => by
  have hed := mem_next.1 hm
  have hnm : ∀ i, l[i]? = some m → i ≤ k → False := fun i hi hik => by
    have := hg.topo i m hi _ hed rfl
    obtain ⟨j, hj⟩ := List.getElem?_of_mem this
    rw [List.getElem?_take] at hj
    split at hj
    · have := (List.getElem?_inj (by have := (List.getElem?_eq_some_iff.1 hk).1; omega) hg.nd).1 (hj.trans hk.symm)
      omega
    · cases hj
  rcases List.mem_append.1 h with h | h
  · obtain ⟨i, hi⟩ := List.getElem?_of_mem h
    rw [List.getElem?_take] at hi
    split at hi
    · exact hnm i hi (by omega)
    · cases hi
  · rw [List.mem_singleton.1 h] at hnm
    exact hnm k hk (Nat.le_refl _)
/-- how many levels there are -/
def hgt (L : List Nat) : Nat := if L = [] then 0 else L.foldl max 0 + 1
theorem foldl_max : ∀ (L : List Nat) (a : Nat), a ≤ L.foldl max a ∧ (∀ x ∈ L, x ≤ L.foldl max a) ∧ (L.foldl max a = a ∨ L.foldl max a ∈ L)
  | [], a => ⟨Nat.le_refl _, fun _ h => (by cases h), .inl rfl⟩
  | y :: L, a => by
    obtain ⟨h1, h2, h3⟩ := foldl_max L (max a y)
    rw [List.foldl_cons]
    refine ⟨Nat.le_trans (Nat.le_max_left _ _) h1, fun x hx => ?_, ?_⟩
    · rcases List.mem_cons.1 hx with rfl | hx
      · exact Nat.le_trans (Nat.le_max_right _ _) h1
      · exact h2 x hx
    · rcases h3 with h3 | h3
      · rw [h3]
        rcases Nat.le_total a y with h | h
        · right; rw [Nat.max_eq_right h]; exact List.mem_cons_self
        · left; exact Nat.max_eq_left h
      · exact .inr (List.mem_cons_of_mem _ h3)
theorem LvL.lv {N : Nat} {es : List Ed} {L : List Nat} (h : LvL N es L) (hN : 0 < N) : Lv N es (lget L) (hgt L) := by
  have hne : L ≠ [] := fun e => by have := h.len; rw [e] at this; simp at this; omega
  obtain ⟨-, h2, h3⟩ := foldl_max L 0
  unfold hgt
  rw [if_neg hne]
  refine ⟨h.up, fun m _ hm => h.down m hm, fun m hm => ?_, ?_⟩
  · have := h2 (lget L m) (List.mem_of_getElem? (lget_some (by rw [h.len]; exact hm)))
    omega
  · have hin : L.foldl max 0 ∈ L := by
      rcases h3 with h3 | h3
      · rw [h3]
        have := h2 _ (List.mem_of_getElem? (lget_some (L := L) (m := 0) (by rw [h.len]; exact hN)))
        rw [h3] at this
        have h0 : lget L 0 = 0 := by omega
        rw [← h0]
        exact List.mem_of_getElem? (lget_some (by rw [h.len]; exact hN))
      · exact h3
    obtain ⟨i, hi⟩ := List.getElem?_of_mem hin
    have hil := (List.getElem?_eq_some_iff.1 hi).1
    refine ⟨i, by rw [← h.len]; exact hil, ?_⟩
    rw [lget_some hil] at hi
    injection hi with hi
    rw [hi]
end Go.Proofs.YtpimcghmpbbckaaDoor.Gr


namespace Go.Proofs.YtpimcghmpbbckaaDoor
set_option linter.unusedVariables false
set_option linter.unusedSimpArgs false
set_option maxRecDepth 100000
open Go.RowKit

set_option maxHeartbeats 4000000 in
theorem levels_yes (N : Nat) (es : List Gr.Ed) (w : World) (A : Option Addr) (c : Nat) (hN : N ≤ 200) (hes : ∀ e ∈ es, e.1 < N ∧ e.2 < N) (hl : (Gr.take N es).length = N) (hA : SlV w 2 (.slice A es.length c) es.length (edcs es)) (hle : es.length ≤ 1099511627776)
    (hs : ∀ w', Below w.heap.size w w' → Calls Tryd.prog 25 #[.agg #[.int .i64 (N : Int), .slice A es.length c]] w' fun e w'' => ∃ v, e = .returned (.tuple #[v, .int .i64 0]) ∧ w''.ownsRow w'.heap.size 3 1 v N (ilist (Gr.take N es)) ∧ Below w'.heap.size w' w'') :
    Calls Tryd.prog 29 #[.agg #[.int .i64 (N : Int), .slice A es.length c]] w fun e w' => ∃ v L, e = .returned (.tuple #[v, .int .i64 0]) ∧ w'.ownsRow w.heap.size 3 1 v N (ilist L) ∧ Gr.LvL N es L ∧ (∀ m, Gr.lget L m ≤ N) ∧ Below w.heap.size w w' := by
  have HES := Lib.hid hes
  have HL := Lib.hid hl
  have x0 := Blk.new w 24 [.int .i64 (N : Int), .slice A es.length c]
  have hb0 : Below w.heap.size w (w.alloc (.cells #[.int .i64 (N : Int), .slice A es.length c] 24)) := below_alloc (Below.refl _ _) _
  have hz0 : (w.alloc (.cells #[.int .i64 (N : Int), .slice A es.length c] 24)).heap.size = w.heap.size + 1 := by simp
  have HZ0 := Lib.hid hz0
  clear hes hl hz0
  have n47 : 8 * N ≤ 281474976710656 := by omega
  have n47' : 24 * N ≤ 281474976710656 := by omega
  have n63 : N ≤ 9223372036854775807 := by omega
  go_enter Tryd.func29, Tryd.ntmps29
  go_upto_region 1 with (fail)
  have HZ := Lib.hid HZ0.out
  clear HZ0
  generalize (w.alloc (.cells #[.int .i64 (N : Int), .slice A es.length c] 24)) = W0 at x0 hb0 HZ ⊢
  have d0 : W0.cell? ⟨w.heap.size, 0, none⟩ = some (.int .i64 (N : Int)) := (x0.cell 0).trans rfl
  have d1 : W0.cell? ⟨w.heap.size, 1, none⟩ = some (.slice A es.length c) := (x0.cell 1).trans rfl
  go_wp2_with fail
  refine (hs W0 hb0).mono ?_
  rintro e w1 ⟨lv, rfl, ho1, hb1⟩
  obtain ⟨VB, cl, rfl, -, -⟩ := own_slice ho1
  have x1 := x0.below hb1
  have hb01 := below_next hb1 hb0
  have c0 : w1.cell? ⟨w.heap.size, 0, none⟩ = some (.int .i64 (N : Int)) := (x1.cell 0).trans rfl
  have c1 : w1.cell? ⟨w.heap.size, 1, none⟩ = some (.slice A es.length c) := (x1.cell 1).trans rfl
  clear d0 d1 x0 hs
  go_wp2_with (first | (at_make; refine wp_make _ 32 3 (.int .i64 0) 8 N Tryd.underlying32 info_int rfl (by omega) (by omega) n47 n63 rfl rfl rfl rfl ?_; intro w2 hown2 hb2 hs2; have x2 := x1.below hb2; have c20 : w2.cell? ⟨w.heap.size, 0, none⟩ = some (.int .i64 (N : Int)) := (x2.cell 0).trans rfl; have c21 : w2.cell? ⟨w.heap.size, 1, none⟩ = some (.slice A es.length c) := (x2.cell 1).trans rfl) | (at_make; refine wp_make _ 26 32 (.slice none 0 0) 24 N Tryd.underlying26 info_sint rfl (by omega) (by omega) n47' n63 rfl rfl rfl rfl ?_; intro w4 hown4 hb4 hs4; have x4 := x2.below hb4; have c40 : w4.cell? ⟨w.heap.size, 0, none⟩ = some (.int .i64 (N : Int)) := (x4.cell 0).trans rfl; have c41 : w4.cell? ⟨w.heap.size, 1, none⟩ = some (.slice A es.length c) := (x4.cell 1).trans rfl) | fail)
  have hlge : ∀ k, (Value.slice VB N cl).ownBlock = some k → w.heap.size + 1 ≤ k := fun k hk => by have := own_ge ho1 k hk; have := HZ.out; omega
  have hllt : ∀ k, (Value.slice VB N cl).ownBlock = some k → k < w1.heap.size := fun k hk => (ho1.lt k hk).2
  have hlr : w4.ownsRow W0.heap.size 3 1 (.slice VB N cl) N (ilist (Gr.take N es)) := own_keeps ho1 (Keeps.of_below (below_next hb4 hb2) (fun _ => False)) (fun _ _ => id)
  have hor := own_keeps hown2 (Keeps.of_below hb4 (fun _ => False)) (fun _ _ => id)
  have hnb := row_whole hown4
  have hb04 := below_next hb4 (below_next hb2 hb01)
  have hsQ : W0.heap.size = w.heap.size + 1 := HZ.out
  have hsW0 := hb1.size
  rw [hs2] at hnb
  have hs42 : w1.heap.size + 1 < w4.heap.size := by have := hnb.lt; omega
  have hne0 : (Value.slice (some ⟨w1.heap.size, 0, none⟩) N N).ownBlock ≠ some (w1.heap.size + 1) := fun e => by
    have h2 : w1.heap.size = w1.heap.size + 1 := (by injection e)
    omega
  have hO : Own (w.heap.size + 1) w4 (w1.heap.size + 1) 32 (List.replicate N (.slice none 0 0)) (nxR ⟨3, 1, .slice (some ⟨w1.heap.size, 0, none⟩) N N, N, List.replicate N (.int .i64 0)⟩ (List.replicate N (.slice none 0 0)) (Gr.nl N [])) :=
    nx_start _ (own_base hor (by omega)) hne0 hnb (by have := hb04.size; omega) (by omega)
  have hlr' : w4.ownsRow (w.heap.size + 1) 3 1 (.slice VB N cl) N (ilist (Gr.take N es)) := own_base hlr (by omega)
  have hsz : w.heap.size + 1 ≤ w1.heap.size ∧ w1.heap.size < w1.heap.size + 1 ∧ w1.heap.size + 1 < w4.heap.size := ⟨by omega, by omega, hs42⟩
  clear hlr hor hnb hne0 hown2 hown4 ho1 hb4 hs4 hb2 hs2 hsQ hsW0 hs42 x1 x2 x4 c0 c1 c20 c21 HZ hb0 hb01 hb1
  obtain ⟨gO, hgO⟩ : ∃ g, g = w1.heap.size := ⟨_, rfl⟩
  obtain ⟨gN, hgN⟩ : ∃ g, g = w1.heap.size + 1 := ⟨_, rfl⟩
  obtain ⟨Q, hQ⟩ : ∃ g, g = w.heap.size := ⟨_, rfl⟩
  have HQ := Lib.hid hQ
  simp only [← hgO, ← hQ] at hb04 hO hlr' hsz hlge hllt c40 c41 hgN ⊢
  simp only [← hgN] at hO hsz ⊢
  clear hgO hgN hQ
  obtain ⟨r0, hr0⟩ : ∃ r : Rw, r = ⟨3, 1, .slice (some ⟨gO, 0, none⟩) N N, N, List.replicate N (.int .i64 0)⟩ := ⟨_, rfl⟩
  rw [← hr0] at hO
  have hOT := OwnTo.start hO
  have hkT : ∀ w', Keeps (Tw gN (nxR r0 (List.replicate N (.slice none 0 0)) (Gr.nl N []))) w4 w' → Below Q w w' := fun w' h => hb04.trans ((hO.below h).mono (by omega))
  have hTb : ∀ k, Tw gN (nxR r0 (List.replicate N (.slice none 0 0)) (Gr.nl N [])) k → gO ≤ k := fun k hk => by
    rcases hk with rfl | ⟨s, hs, hk⟩
    · exact Nat.le_of_lt hsz.2.1
    · unfold nxR at hs
      rw [nl_nil] at hs
      rcases List.mem_cons.1 hs with rfl | hs
      · rw [hr0] at hk
        have : gO = k := by injection hk
        omega
      · have hz : List.zipWith irw (List.replicate N (.slice none 0 0)) (List.replicate N []) = List.replicate N (irw (.slice none 0 0) []) := by simp
        rw [hz] at hs
        rw [(List.mem_replicate.1 hs).2] at hk
        simp [irw, Value.ownBlock] at hk
  obtain ⟨T0, hT0⟩ : ∃ T, T = Tw gN (nxR r0 (List.replicate N (.slice none 0 0)) (Gr.nl N [])) := ⟨_, rfl⟩
  rw [← hT0] at hOT hkT hTb
  have HR0 := Lib.hid hr0
  have HKT := Lib.hid hkT
  have HLR := Lib.hid (And.intro hlr' (And.intro hlge hllt))
  clear hO hT0 hr0 hkT hlr' hlge hllt hb04 c40
  go_loopw [31] (fun i wr => ∃ (k : Nat) (vs : List Value), k ≤ es.length ∧ i = .int .i64 (k : Int) ∧ vs.length = N ∧ OwnTo (Q + 1) w4 T0 wr gN 32 vs (nxR r0 vs (Gr.nl N (es.take k)))) (fun i _ => es.length - (intOf i).toNat)
  case atStart => exact ⟨0, _, Nat.zero_le _, rfl, by simp, hOT⟩
  case round =>
    obtain ⟨k, vs, hk, rfl, hvl, hOk⟩ := hrel
    have hbw := HKT.out _ hOk.kp
    by_cases hlt : k < es.length
    · obtain ⟨⟨a, b⟩, hx⟩ : ∃ x, es[k]? = some x := ⟨_, List.getElem?_eq_getElem hlt⟩
      obtain ⟨ha, hb⟩ := HES.out _ (List.mem_of_getElem? hx)
      have gx := flat_get edc 2 (fun _ => rfl) es k
      have g1 := gx 0 _ hx (by omega)
      have g2 := gx 1 _ hx (by omega)
      rw [HQ.out] at hbw
      obtain ⟨A', c', he, -, -, -, hcc⟩ := hA.below hbw
      injection he with e1 e2 e3
      subst e1 e3
      obtain ⟨g, o, rfl, hgl, hcell⟩ := hcc.at_ (fun e => by rw [show List.flatMap edc es = edcs es from rfl, e] at g1; simp [edc] at g1)
      have d0 : wr.cell? ⟨g, o + k * 2, none⟩ = some (.int .i64 (a : Int)) := (hcell _ _ g1).trans rfl
      have d1 : wr.cell? ⟨g, o + k * 2 + 1, none⟩ = some (.int .i64 (b : Int)) := by rw [Nat.add_assoc]; exact hcell _ _ g2
      have htk := Gr.take_snoc hx
      have hn1 := Gr.nl_one N (es.take k) a b
      rw [← htk] at hn1
      have hTA := hOk.later (below_alloc (Below.refl _ _) (.cells #[.int .i64 (a : Int), .int .i64 (b : Int)] 34))
      have hE := Blk.new wr 34 [.int .i64 (a : Int), .int .i64 (b : Int)]
      obtain ⟨v, hv⟩ : ∃ v, vs[a]? = some v := ⟨_, List.getElem?_eq_getElem (by omega)⟩
      have hnx : (Gr.nl N (es.take k))[a]? = some (Gr.next (es.take k) a) := Gr.map_get _ _ _ ha
      have hnl : (Gr.next (es.take k) a).length ≤ 1099511627776 := by
        have := List.length_filter_le (fun e : Gr.Ed => e.1 == a) (es.take k)
        rw [List.length_take] at this
        unfold Gr.next
        rw [List.length_map]
        omega
      obtain ⟨nx, hnxq⟩ : ∃ nx, nx = Gr.next (es.take k) a := ⟨_, rfl⟩
      rw [← hnxq] at hnx hn1 hnl
      clear hnxq
      have hvne : v.ownBlock ≠ some wr.heap.size := fun e => by
        have := ((hOk.own.row (a + 1) (nxR_get _ _ _ a v nx hv hnx)).lt _ e).2
        omega
      have HX := Lib.hid (And.intro hn1 (And.intro hv hnx))
      clear hv hnx
      have HA := Lib.hid hA
      clear hOk htk hn1 hx gx g1 g2 hcc hcell e2 hA hbw
      go_upto_region 9 with (fail)
      have hb5 : Below wr.heap.size wr (wr.alloc (.cells #[.int .i64 (a : Int), .int .i64 (b : Int)] 34)) := below_alloc (Below.refl _ _) _
      generalize (wr.alloc (.cells #[.int .i64 (a : Int), .int .i64 (b : Int)] 34)) = w6 at hTA hE hb5 ⊢
      clear d0 d1 hb5
      have hget := nxR_get r0 vs (Gr.nl N (es.take k)) a v nx HX.out.2.1 HX.out.2.2
      have rv : w6.ownsRow (Q + 1) 3 1 v nx.length (ilist nx) := hTA.own.row (a + 1) hget
      have hng : v.ownBlock ≠ some gN := hTA.own.ng _ (List.mem_of_getElem? hget)
      obtain ⟨VB2, cb, rfl, -, -⟩ := own_slice rv
      have hR : ∀ w', Below w6.heap.size w6 w' → w'.ownsRow (Q + 1) 3 1 (.slice VB2 nx.length cb) nx.length (ilist nx) ∧ Q + 1 ≤ w'.heap.size := fun w' hb => ⟨(hTA.own.later hb).row (a + 1) hget, (hTA.own.later hb).base⟩
      have keepS : ∀ w', Keeps (fun k => (Value.slice VB2 nx.length cb).ownBlock = some k) w6 w' → Keeps (fun k => (Value.slice VB2 nx.length cb).ownBlock = some k) w6 w' ∧ w'.cell? ⟨gN, a, none⟩ = some (.slice VB2 nx.length cb) ∧ w'.cell? ⟨wr.heap.size, 0, none⟩ = some (.int .i64 (a : Int)) ∧ w'.cell? ⟨wr.heap.size, 1, none⟩ = some (.int .i64 (b : Int)) := fun w' k =>
        ⟨k, ((hTA.own.blk.keeps k hng).cell a).trans HX.out.2.1, ((hE.keeps k hvne).cell 0).trans rfl, ((hE.keeps k hvne).cell 1).trans rfl⟩
      have hS1 := keepS _ ((Keeps.refl _ w6).drewN 1)
      have hn63 : nx.length + 1 ≤ maxLen := by unfold maxLen; omega
      have hn47 : (nx.length + 1) * 8 ≤ 140737488355328 := by omega
      have HT := Lib.hid (And.intro hTA hget)
      clear hTA rv hE hget hng hvne
      refine wp_walk_mt 13 (fun i => ([11] : List Nat).contains i) (fun i => ([0,1,2,12] : List Nat).contains i) [11] (by intro m h; simpa using h) (by kernel_rfl) (by kernel_rfl) (by kernel_rfl) (fun w w' => Below w.heap.size w w')  (fun w' => Keeps (fun k => (Value.slice VB2 nx.length cb).ownBlock = some k) w6 w' ∧ w'.cell? ⟨gN, a, none⟩ = some (.slice VB2 nx.length cb) ∧ w'.cell? ⟨wr.heap.size, 0, none⟩ = some (.int .i64 (a : Int)) ∧ w'.cell? ⟨wr.heap.size, 1, none⟩ = some (.int .i64 (b : Int))) (fun w' => Below w6.heap.size w6 w') hS1 (below_drew (Below.refl _ _)) (fun _ _ h h' => below_next h' h) ?_
      simp only [List.length_cons, List.length_nil, Nat.reduceAdd, Nat.reduceSub, List.take_succ_cons, List.take_zero, List.drop_succ_cons, List.drop_zero]
      repeat (first | (refine nsettle_skip (by rfl) (fun _ => by rfl) ?_; (simp only [Act.put, List.setIfInBounds_toArray, List.set_cons_zero, List.set_cons_succ])) | (refine' nsettle_run (by rfl) (fun _ _ => Below.refl _ _) (fun _ => by rfl) ?_ ?_; rotate_left; (focus (intro ρ w hS hF hP; (try dsimp only at hS); go_split_ands; go_simp; try with_reducible rfl)); (simp only [Act.put, List.setIfInBounds_toArray, List.set_cons_zero, List.set_cons_succ])))
      (refine nsettle_known (FSl 1 1 [.int .i64 (b : Int)]) (by rfl) (by rfl) (by rfl) (fun _ => by rfl)  ?_ ?_; (focus (intro ρ w hS hF hP K hK; (simp only [Act.put, List.setIfInBounds_toArray, List.set_cons_zero, List.set_cons_succ] at hK); go_simp; exact hK _ _ (SlV.lit w [.int .i64 (b : Int)] 3 1 1 rfl (by decide)) (keepS _ (hS.1.alloc _)) (below_alloc (Below.refl _ _) _))); (simp only [Act.put, List.setIfInBounds_toArray, List.set_cons_zero, List.set_cons_succ]))
      (refine nsettle_mark (FPush w6 (Q + 1) 3 1 (.slice VB2 nx.length cb) (nx.length + 1) (ilist nx ++ [.int .i64 (b : Int)])) (by rfl) (by rfl) (by rfl) (fun _ => by rfl) ?_ ?_; (focus (intro ρ w hS hF hP K hK; refine oper_append (.tmp 42) (.tmp 45) (Q + 1) _ _ _ _ _ Tryd.underlying32 info_int rfl (by decide) (hR w (hP (by rfl))).1 (hF.1 (by rfl)) (by simp [Value.oneCell']) hn63 hn47 (hR w (hP (by rfl))).2 rfl rfl rfl ?_; intro v' w' hown hg hv _; exact hK v' w' ⟨w, hP (by rfl), hg, hown, hv.imp id fun e => ⟨_, Nat.le_refl _, e⟩⟩ (keepS _ (hS.1.trans ((Keeps.of_grown hg).mono fun i hi => hi.symm))))); (simp only [Act.put, List.setIfInBounds_toArray, List.set_cons_zero, List.set_cons_succ]))
      repeat (first | (refine nsettle_skip (by rfl) (fun _ => by rfl) ?_; (simp only [Act.put, List.setIfInBounds_toArray, List.set_cons_zero, List.set_cons_succ])) | (refine' nsettle_run (by rfl) (fun _ _ => Below.refl _ _) (fun _ => by rfl) ?_ ?_; rotate_left; (focus (intro ρ w hS hF hP; (try dsimp only at hS); go_split_ands; go_simp; try with_reducible rfl)); (simp only [Act.put, List.setIfInBounds_toArray, List.set_cons_zero, List.set_cons_succ])))
      refine nsettle_nil ?_
      intro ρ w7 hS hF
      obtain ⟨wa, ha1, ha2, ha3, ha4⟩ := hF 46 (FPush w6 (Q + 1) 3 1 (.slice VB2 nx.length cb) (nx.length + 1) (ilist nx ++ [.int .i64 (b : Int)])) (by repeat (first | exact List.mem_cons_self | apply List.mem_cons_of_mem))
      clear hF hS hS1 keepS hR
      dsimp only
      generalize ρ 45 = v44
      generalize ρ 46 = v4 at ha3 ha4 ⊢
      have hx4 : wa.grownBy w7 (irw (.slice VB2 nx.length cb) nx).v.ownBlock := ha2
      have ho4 : w7.ownsRow (Q + 1) 3 1 v4 (nx ++ [b]).length (ilist (nx ++ [b])) := by simpa [ilist, ints] using ha3
      have hB4 := ((HT.out.1.own.later ha1).put (i := a + 1) HT.out.2 ho4 hx4 ha4).1
      have hend : ∀ w8, Blk w8 gN 32 (vs.set a v4) → w7.grownBy w8 (some gN) → OwnTo (Q + 1) w4 T0 w8 gN 32 (vs.set a v4) (nxR r0 (vs.set a v4) (Gr.nl N (es.take (k + 1)))) := fun w8 b8 g8 => by
        have := (HT.out.1.later ha1).step ((HT.out.1.own.later ha1).put_to (i := a + 1) HT.out.2 ho4 hx4 ha4 b8 g8)
        have e := nxR_i r0 vs (Gr.nl N (es.take k)) a v4 (nx ++ [b])
        rw [← HX.out.1] at e
        exact e ▸ this
      obtain ⟨V4, c4, rfl, -, -⟩ := own_slice ha3
      clear ha1 ha2 ha3 ha4 hx4 ho4
      have hva : a < vs.length := by omega
      refine wpl_set_blk hB4 a _ (by kernel_rfl) hva rfl rfl rfl rfl rfl rfl ?_
      intro w8 hB8 hg8
      have T8 := hend w8 hB8 hg8
      have HT8 := Lib.hid T8
      clear hB4 hB8 hg8 hend T8 HT
      go_wp2_with fail
      go_roundw
      case rel => exact ⟨k + 1, _, by omega, by go_num, by simpa using hvl, HT8.out⟩
      case measure => simp [intOf]; omega
    · obtain rfl : k = es.length := by omega
      rw [List.take_length] at hOk
      clear hA
      have hlr4 := HLR.out.1
      have hlrz : wr.ownsRow (Q + 1) 3 1 (.slice VB N cl) N (ilist (Gr.take N es)) := own_keeps hlr4 hOk.kp (fun k hk e => by have := hTb k e; have := HLR.out.2.2 k hk; omega)
      have r0z : wr.ownsRow (Q + 1) 3 1 (.slice (some ⟨gO, 0, none⟩) N N) N (ilist (List.replicate N 0)) := by
        have := hOk.own.row 0 rfl
        rw [HR0.out] at this
        have e : ilist (List.replicate N 0) = List.replicate N (.int .i64 0) := by simp [ilist, ints]
        rw [e]
        exact this
      obtain ⟨wz, rfl⟩ : ∃ wz : World, wz = wr := ⟨_, rfl⟩
      have hgz : gO < wz.heap.size := (r0z.lt _ rfl).2
      have hk2 : (∀ n, n < N → ∃ v, ∀ w', Keeps (fun k => k = gO) wz w' → w'.cell? ⟨gN, n, none⟩ = some v ∧ w'.ownsRow (Q + 1) 3 1 v (Gr.next es n).length (ilist (Gr.next es n))) ∧ ∀ w', Keeps (fun k => k = gO) wz w' → w'.ownsRow (Q + 1) 3 1 (.slice VB N cl) N (ilist (Gr.take N es)) ∧ Below Q w w' := by
        refine ⟨fun n hn => ?_, fun w' hk => ⟨own_keeps hlrz hk (fun k hk e => by have := HLR.out.2.2 k hk; omega), hbw.trans ((hk.below (B := Q) (by have := hbw.size; have := HQ.out; omega) (fun k hk => by omega)).mono (by have := HQ.out; omega))⟩⟩
        obtain ⟨v, hv⟩ : ∃ v, vs[n]? = some v := ⟨_, List.getElem?_eq_getElem (by omega)⟩
        have hget := nxR_get r0 vs (Gr.nl N es) n v _ hv (Gr.map_get _ _ _ hn)
        refine ⟨v, fun w' hk => ⟨((hOk.own.blk.keeps hk (by omega)).cell n).trans hv, own_keeps (hOk.own.row (n + 1) hget) hk (fun k hk e => ?_)⟩⟩
        refine hOk.own.ap (n + 1) 0 _ _ hget rfl (by omega) k hk ?_
        rw [HR0.out, e]
        rfl
      have HK2 := Lib.hid hk2
      clear hk2 hlr4 hlrz hOk hbw hOT c41 HKT HLR HR0 hTb hlt
      go_wp2_with fail
      go_loopw [51] (fun i wr => ∃ (k : Nat) (L : List Nat), k ≤ N ∧ i = .int .i64 (k : Int) ∧ wr.ownsRow (Q + 1) 3 1 (.slice (some ⟨gO, 0, none⟩) N N) N (ilist L) ∧ Gr.LvD N es ((Gr.take N es).take k) L ∧ Keeps (fun k => k = gO) wz wr) (fun i _ => N - (intOf i).toNat)
      case atStart => exact ⟨0, _, Nat.zero_le _, rfl, r0z, by rw [List.take_zero]; exact Gr.LvD.start N es, Keeps.refl _ _⟩
      case round =>
        obtain ⟨k, L, hk, rfl, hro, hL, hkz⟩ := hrel
        by_cases hlt : k < N
        · obtain ⟨hlr, -⟩ := HK2.out.2 _ hkz
          obtain ⟨n, hn⟩ : ∃ n, (Gr.take N es)[k]? = some n := ⟨_, List.getElem?_eq_getElem (by rw [HL.out]; exact hlt)⟩
          have hnN : n < N := (Gr.good_take N es).lt n (List.mem_of_getElem? hn)
          obtain ⟨gl, cl', e, -, -, -, -⟩ := own_addr hlr (by omega)
          injection e with e1 e2 e3
          subst e1 e3
          have c0 := own_cell hlr (ilist_get hn)
          obtain ⟨vn, hvk⟩ := HK2.out.1 n hnN
          obtain ⟨nx, hnxe⟩ : ∃ nx, nx = Gr.next es n := ⟨_, rfl⟩
          rw [← hnxe] at hvk
          obtain ⟨c1, hvr⟩ := hvk _ hkz
          obtain ⟨VN, cn, rfl, -, -⟩ := own_slice hvr
          have hnxl : nx.length ≤ 1099511627776 := by
            rw [hnxe]
            unfold Gr.next
            rw [List.length_map]
            exact Nat.le_trans (List.length_filter_le _ _) hle
          have hI := hL.begin (n := n)
          have HI := Lib.hid (And.intro hro (And.intro hI hkz))
          have HN := Lib.hid (And.intro hn (And.intro hnxe hvk))
          clear hlr hvr hL hro hkz hI hn hnxe r0z hvk
          go_wp2_with fail
          clear c0 c1
          go_loopw [60] (fun i wr => ∃ (j : Nat) (L : List Nat), j ≤ nx.length ∧ i = .int .i64 (j : Int) ∧ wr.ownsRow (Q + 1) 3 1 (.slice (some ⟨gO, 0, none⟩) N N) N (ilist L) ∧ Gr.LvI N es ((Gr.take N es).take k) n j L ∧ Keeps (fun k => k = gO) wz wr) (fun i _ => nx.length - (intOf i).toNat)
          case atStart => exact ⟨0, _, Nat.zero_le _, rfl, HI.out.1, HI.out.2.1, HI.out.2.2⟩
          case round =>
            clear HI
            obtain ⟨j, L, hj, rfl, hro, hI, hkz⟩ := hrel
            by_cases hjl : j < nx.length
            · obtain ⟨m, hm⟩ : ∃ m, nx[j]? = some m := ⟨_, List.getElem?_eq_getElem hjl⟩
              have hm' : (Gr.next es n)[j]? = some m := by rw [← HN.out.2.1]; exact hm
              have hmN : m < N := (HES.out _ (Gr.mem_next.1 (List.mem_of_getElem? hm'))).2
              have hmo := Gr.later_out (Gr.good_take N es) HN.out.1 (List.mem_of_getElem? hm')
              have hvr := (HN.out.2.2 _ hkz).2
              obtain ⟨gv, cv', e, -, -, -, -⟩ := own_addr hvr (by omega)
              injection e with e1 e2 e3
              subst e1 e3
              have c1 := own_cell hvr (ilist_get hm)
              have c2 := own_cell hro (ilist_get (Gr.lget_some (by rw [hI.len]; exact hmN)))
              have c3 := own_cell hro (ilist_get (Gr.lget_some (by rw [hI.len]; exact hnN)))
              have hI' := hI.tell hm' hmN hmo
              have hb1 := hI.top m
              have hb2 := hI.low
              have hkl : ((Gr.take N es).take k).length ≤ N := by rw [List.length_take]; omega
              obtain ⟨x, hx⟩ : ∃ x, x = Gr.lget L m := ⟨_, rfl⟩
              obtain ⟨y, hy⟩ : ∃ y, y = Gr.lget L n := ⟨_, rfl⟩
              rw [← hx] at c2 hb1 hI'
              rw [← hy] at c3 hb2 hI'
              have hx2 : x ≤ 1000 := by omega
              have hw : IntKind.i64.wrap ((y : Int) + 1) = (y : Int) + 1 := IntWalk.i64_in _ (by omega)
              have hy2 : y ≤ 1000 := by omega
              have HH := Lib.hid (And.intro hI' hkz)
              clear hm hm' hmo hvr hI hI' hkz hb1 hb2 hx hy hkl
              go_wp2_with fail
              (refine still_last (by kernel_rfl) (by kernel_rfl) ?_; simp only [List.length_cons, List.length_nil, Nat.reduceAdd, Nat.reduceSub, List.take_succ_cons, List.take_zero, List.drop_succ_cons, List.drop_zero]; repeat still_step; try refine wpStill_nil ?_)
              refine wpl_set_row (show (wr.drewN 1).ownsRow (Q + 1) 3 1 (.slice (some ⟨gO, 0, none⟩) N N) N (ilist L) from own_keeps hro ((Keeps.refl (fun _ => False) wr).drewN 1) (fun _ _ => id)) m (.int .i64 (max (x : Int) ((y : Int) + 1))) (by kernel_rfl) (by omega) (by rfl) (by rfl) (by rfl) (by rfl) (by rfl) (by rfl) ?_
              intro w3 hr3 hg3
              have hr3' : w3.ownsRow (Q + 1) 3 1 (.slice (some ⟨gO, 0, none⟩) N N) N (ilist (L.set m (max x (y + 1)))) := by
                have e : ilist (L.set m (max x (y + 1))) = (ilist L).set m (.int .i64 (max (x : Int) ((y : Int) + 1))) := by
                  unfold ilist
                  rw [List.map_set, ints_set]
                  congr 2
                  omega
                rw [e]
                exact hr3
              have hk3 := HH.out.2.trans (((Keeps.of_grown hg3).undrewN).mono fun i hi => by injection hi)
              have HF := Lib.hid (And.intro hr3' (And.intro HH.out.1 hk3))
              clear hr3 hg3 hr3' hk3 hro c1 c2 c3 HH
              go_wp2_with fail
              go_roundw
              case rel => exact ⟨j + 1, _, by omega, by go_num, HF.out.1, HF.out.2.1, HF.out.2.2⟩
              case measure => simp [intOf]; omega
            · obtain rfl : j = nx.length := by omega
              rw [HN.out.2.1] at hI
              have hD := hI.finish
              rw [← Gr.take_snoc HN.out.1] at hD
              have HF := Lib.hid (And.intro hro (And.intro hD hkz))
              clear hro hI hD hkz
              go_wp2_with fail
              go_roundw
              case rel => exact ⟨k + 1, _, by omega, by go_num, HF.out.1, HF.out.2.1, HF.out.2.2⟩
              case measure => simp [intOf]; omega
        · obtain rfl : N = k := by omega
          have hbf := (HK2.out.2 _ hkz).2
          rw [HQ.out] at hbf
          have hall : Gr.LvL N es L := by
            have hD := hL
            rw [List.take_of_length_le (by rw [HL.out]; exact Nat.le_refl _)] at hD
            exact hD.all (fun e he => (Gr.good_take N es).full HL.out _ (HES.out e he).1)
          have htop : ∀ m, Gr.lget L m ≤ N := fun m => Nat.le_trans (hL.top m) (by rw [List.length_take]; omega)
          have hro' := own_base hro (show w.heap.size ≤ Q + 1 by have := HQ.out; omega)
          have HF := Lib.hid (And.intro hro' (And.intro hall (And.intro htop hbf)))
          clear hro hL hkz hbf hall htop hro' r0z
          go_wp2_with fail
          go_ret2
          exact ⟨_, L, rfl, HF.out.1, HF.out.2.1, HF.out.2.2.1, HF.out.2.2.2⟩
end Go.Proofs.YtpimcghmpbbckaaDoor


namespace Go.Proofs.YtpimcghmpbbckaaDoor
set_option linter.unusedVariables false
set_option linter.unusedSimpArgs false
set_option maxRecDepth 100000
open Go.RowKit

set_option maxHeartbeats 4000000 in
theorem levels_any (n : Int) (es : List Gr.Er) (w : World) (A : Option Addr) (c : Nat) (hA : SlV w 2 (.slice A es.length c) es.length (ercs es)) (hle : es.length ≤ 1099511627776) (hT : Tab w) :
    Calls Tryd.prog 29 #[.agg #[.int .i64 n, .slice A es.length c]] w fun e w' => ∃ v L, e = .returned (.tuple #[v, .int .i64 (Gr.wrong n es)]) ∧ w'.ownsRow w.heap.size 3 1 v L.length (ilist L) ∧ (Gr.wrong n es ≠ 0 → L = []) ∧ (Gr.wrong n es = 0 → Gr.LvL n.toNat (Gr.nat es) L ∧ (∀ m, Gr.lget L m ≤ n.toNat)) ∧ Below w.heap.size w w' := by
  have hTb : ∀ w', Below w.heap.size w w' → Tab w' := fun w' hb j hj => (hb.cell (p := ⟨0, j, none⟩) hT.lt).trans (hT j hj)
  have hs : ∀ w', Below w.heap.size w w' → Calls Tryd.prog 25 #[.agg #[.int .i64 n, .slice A es.length c]] w' fun e w'' => ∃ v, e = .returned (.tuple #[v, .int .i64 (Gr.wrong n es)]) ∧ (Gr.wrong n es ≠ 0 → v = .slice none 0 0) ∧ (Gr.wrong n es = 0 → w''.ownsRow w'.heap.size 3 1 v (Gr.take n.toNat (Gr.nat es)).length (ilist (Gr.take n.toNat (Gr.nat es)))) ∧ Below w'.heap.size w' w'' := fun w' hb => sort_any n es w' A c (hA.below hb) hle (hTb w' hb)
  by_cases h0 : Gr.wrong n es = 0
  · obtain ⟨N, rfl, hN, hes, hln, hcs, hful⟩ := Gr.wrong_none h0
    have := levels_yes N (Gr.nat es) w A c hN hes hful (by rw [hln, ← hcs]; exact hA) (by omega) (fun w' hb => by
      rw [hln]
      refine (hs w' hb).mono ?_
      rintro e w'' ⟨v, he, -, hr, hb'⟩
      have hr := hr h0
      rw [Int.toNat_natCast, hful] at hr
      exact ⟨v, by rw [← h0]; exact he, hr, hb'⟩)
    rw [hln] at this
    refine this.mono ?_
    rintro e w' ⟨v, L, he, hr, hL, ht, hb⟩
    exact ⟨v, L, by rw [h0]; exact he, by rw [hL.len]; exact hr, fun h => absurd h0 h, fun _ => ⟨by rw [Int.toNat_natCast]; exact hL, by rw [Int.toNat_natCast]; exact ht⟩, hb⟩
  · have x0 := Blk.new w 24 [.int .i64 n, .slice A es.length c]
    have hb0 : Below w.heap.size w (w.alloc (.cells #[.int .i64 n, .slice A es.length c] 24)) := below_alloc (Below.refl _ _) _
    have hs0 := hs _ hb0
    obtain ⟨R, hR⟩ : ∃ R, R = Gr.wrong n es := ⟨_, rfl⟩
    rw [← hR] at hs0 h0 ⊢
    have g0 : (R != 0) = true := by simpa using h0
    have H0 := Lib.hid h0
    clear hR hA hTb hT hs h0
    go_enter Tryd.func29, Tryd.ntmps29
    go_upto_region 1 with (fail)
    generalize (w.alloc (.cells #[.int .i64 n, .slice A es.length c] 24)) = W0 at x0 hb0 hs0 ⊢
    have d0 : W0.cell? ⟨w.heap.size, 0, none⟩ = some (.int .i64 n) := (x0.cell 0).trans rfl
    have d1 : W0.cell? ⟨w.heap.size, 1, none⟩ = some (.slice A es.length c) := (x0.cell 1).trans rfl
    have HB := Lib.hid hb0
    clear hb0 x0
    go_wp2_with fail
    refine hs0.mono ?_
    rintro e w1 ⟨v, rfl, -, -, hb1⟩
    have HF := Lib.hid (below_next hb1 HB.out)
    clear hs0 hb1 d0 d1
    go_wp2_with fail
    go_ret2
    exact ⟨_, [], rfl, World.ownsRow_nil _ _ _ _, fun _ => rfl, fun h => absurd h H0.out, HF.out⟩

theorem max_any (v : Value) (L : List Nat) (w : World) (h : SlN w v L) (hne : L ≠ []) (hb : ∀ m, Gr.lget L m ≤ 1000000) :
    Calls Tryd.prog 39 #[v] w fun e w' => e = .returned (.int .i64 ((L.foldl max 0 : Nat) : Int)) ∧ w' = w := by
  obtain ⟨A, c, rfl, hle, hm⟩ := h.form
  unfold maxLen at hm
  have hpos : 0 < L.length := List.length_pos_iff.2 hne
  obtain ⟨g, o, rfl, hgl, c0⟩ := h.get (Gr.lget_some hpos)
  have hc : ∀ j, j < L.length → w.cell? ⟨g, o + j, none⟩ = some (.int .i64 (Gr.lget L j : Int)) := fun j hj => by
    obtain ⟨g', o', e, -, hcj⟩ := h.get (Gr.lget_some hj)
    injection e with e
    injection e with e1 e2
    subst e1 e2
    exact hcj
  obtain ⟨x, hx⟩ : ∃ x, x = Gr.lget L 0 := ⟨_, rfl⟩
  rw [← hx, Nat.add_zero] at c0
  have hx1 : (L.take 1).foldl max 0 = x := by
    rw [hx]
    rcases L with _ | ⟨y, L⟩
    · exact absurd rfl hne
    · simp [Gr.lget]
  have hxb : x ≤ 1000000 := by rw [hx]; exact hb 0
  have HC := Lib.hid (And.intro hc (And.intro hb hx1))
  clear h hne hc hb hx hx1
  go_enter Tryd.func39, Tryd.ntmps39
  go_wp2_with fail
  clear c0
  go_loopw [4, 3] (fun i m wr => ∃ (k : Nat) (y : Nat), 1 ≤ k ∧ k ≤ L.length ∧ i = .int .i64 (k : Int) ∧ m = .int .i64 (y : Int) ∧ y = (L.take k).foldl max 0 ∧ y ≤ 1000000 ∧ wr = w) (fun i _ _ => L.length - (intOf i).toNat)
  case atStart => exact ⟨1, x, Nat.le_refl _, hpos, rfl, rfl, HC.out.2.2.symm, hxb, rfl⟩
  case round =>
    obtain ⟨k, y, hk1, hk, rfl, rfl, hy, hyb, hwr⟩ := hrel
    obtain rfl : w = wr := hwr.symm
    by_cases hlt : k < L.length
    · have c1 := HC.out.1 k hlt
      have hzb := HC.out.2.1 k
      obtain ⟨z, hz⟩ : ∃ z, z = Gr.lget L k := ⟨_, rfl⟩
      rw [← hz] at c1 hzb
      have hst : max y z = (L.take (k + 1)).foldl max 0 := by rw [Gr.take_snoc (Gr.lget_some hlt), List.foldl_append, ← hy, ← hz]; rfl
      have HF := Lib.hid hst
      clear hst hy hz
      go_wp2_with fail
      go_roundw
      case rel => exact ⟨k + 1, max y z, by omega, by omega, by go_num, congrArg (Value.int .i64) (by omega), HF.out, by omega, by first | trivial | rfl⟩
      case measure => simp [intOf]; omega
    · obtain rfl : k = L.length := by omega
      rw [List.take_length] at hy
      have HF := Lib.hid hy
      clear hy
      go_wp2_with fail
      go_ret
      exact ⟨by rw [← HF.out]; rfl, rfl⟩

theorem hgt_le {L : List Nat} {N : Nat} (hl : L.length ≤ N) (h : ∀ m, Gr.lget L m ≤ N) : Gr.hgt L ≤ N + 1 := by
  unfold Gr.hgt
  split
  · omega
  · obtain ⟨-, -, h3⟩ := Gr.foldl_max L 0
    rcases h3 with h3 | h3
    · omega
    · obtain ⟨i, hi⟩ := List.getElem?_of_mem h3
      rw [Gr.lget_some (List.getElem?_eq_some_iff.1 hi).1] at hi
      injection hi with hi
      have := h i
      omega

set_option maxHeartbeats 4000000 in
theorem height_any (n : Int) (es : List Gr.Er) (w : World) (A : Option Addr) (c : Nat) (hA : SlV w 2 (.slice A es.length c) es.length (ercs es)) (hle : es.length ≤ 1099511627776) (hT : Tab w) :
    Calls Tryd.prog 15 #[.agg #[.int .i64 n, .slice A es.length c]] w fun e w' => ∃ h : Nat, e = .returned (.tuple #[.int .i64 (h : Int), .int .i64 (Gr.wrong n es)]) ∧ (Gr.wrong n es ≠ 0 → h = 0) ∧ (Gr.wrong n es = 0 → ∃ L, Gr.LvL n.toNat (Gr.nat es) L ∧ h = Gr.hgt L) ∧ h ≤ 201 ∧ Below w.heap.size w w' := by
  have hTb : ∀ w', Below w.heap.size w w' → Tab w' := fun w' hb j hj => (hb.cell (p := ⟨0, j, none⟩) hT.lt).trans (hT j hj)
  have x0 := Blk.new w 24 [.int .i64 n, .slice A es.length c]
  have hb0 : Below w.heap.size w (w.alloc (.cells #[.int .i64 n, .slice A es.length c] 24)) := below_alloc (Below.refl _ _) _
  have hs0 := levels_any n es _ A c (hA.below hb0) hle (hTb _ hb0)
  have hnN : Gr.wrong n es = 0 → n.toNat ≤ 200 := fun h => by
    obtain ⟨N, rfl, hN, -⟩ := Gr.wrong_none h
    rw [Int.toNat_natCast]
    exact hN
  obtain ⟨R, hR⟩ : ∃ R, R = Gr.wrong n es := ⟨_, rfl⟩
  rw [← hR] at hs0 hnN ⊢
  clear hR hA hTb hT
  go_enter Tryd.func15, Tryd.ntmps15
  go_upto_region 1 with (fail)
  generalize (w.alloc (.cells #[.int .i64 n, .slice A es.length c] 24)) = W0 at x0 hb0 hs0 ⊢
  have d0 : W0.cell? ⟨w.heap.size, 0, none⟩ = some (.int .i64 n) := (x0.cell 0).trans rfl
  have d1 : W0.cell? ⟨w.heap.size, 1, none⟩ = some (.slice A es.length c) := (x0.cell 1).trans rfl
  have HB := Lib.hid hb0
  clear hb0 x0
  go_wp2_with fail
  refine hs0.mono ?_
  rintro e w1 ⟨v, L, rfl, hr, h1, h2, hb1⟩
  have HF := Lib.hid (below_next hb1 HB.out)
  clear hs0 hb1 d0 d1
  obtain ⟨Av, cv, rfl, -, -⟩ := own_slice hr
  by_cases h0 : R = 0
  · subst h0
    obtain ⟨hL, htop⟩ := h2 rfl
    have hnN := hnN rfl
    have hll : L.length ≤ 200 := by rw [hL.len]; exact hnN
    by_cases hne : L = []
    · have hz : L.length = 0 := by rw [hne]; rfl
      have hh : Gr.hgt L = 0 := by unfold Gr.hgt; rw [if_pos hne]
      have HL := Lib.hid (And.intro hL hh)
      clear h1 h2 hL htop hr hne hh
      go_wp2_with fail
      go_ret2
      exact ⟨0, rfl, ⟨L, HL.out.1, HL.out.2.symm⟩, by omega, HF.out⟩
    · have hz : ((L.length : Int) == 0) = false := by
        have := List.length_pos_iff.2 hne
        simp
        omega
      have hmx := max_any _ L w1 (SlN.of_own hr) hne (fun m => Nat.le_trans (htop m) (by omega))
      have hle2 := hgt_le (L := L) (N := 200) hll (fun m => Nat.le_trans (htop m) hnN)
      have hh : Gr.hgt L = L.foldl max 0 + 1 := by unfold Gr.hgt; rw [if_neg hne]
      obtain ⟨M, hM⟩ : ∃ M, M = L.foldl max 0 := ⟨_, rfl⟩
      rw [← hM] at hmx hh
      rw [hh] at hle2
      have HL := Lib.hid (And.intro hL hh)
      clear h1 h2 hL htop hr hne hh hM
      go_wp2_with fail
      refine hmx.mono ?_
      rintro _ w2 ⟨rfl, rfl⟩
      clear hmx
      go_wp2_with fail
      go_ret2
      exact ⟨M + 1, by go_num, ⟨L, HL.out.1, HL.out.2.symm⟩, hle2, HF.out⟩
  · have g0 : (R != 0) = true := by simpa using h0
    have H0 := Lib.hid h0
    clear h1 h2 h0 hr
    go_wp2_with fail
    go_ret2
    exact ⟨0, rfl, fun _ => rfl, fun h => absurd h H0.out, by omega, HF.out⟩
end Go.Proofs.YtpimcghmpbbckaaDoor


namespace Go.Proofs.YtpimcghmpbbckaaDoor.Gr
set_option linter.unusedVariables false
set_option linter.unusedSimpArgs false
set_option maxRecDepth 100000
open Bs

/-- has j: the set of j alone is within -/
theorem win_one {N : Nat} {s : List Nat} (h : Gs N s) {j : Nat} (hj : j ≤ 65535) : win (of_ [(j : Int)]) s = bit s j := by
  have ho := of_facts [(j : Int)]
  have key : win (of_ [(j : Int)]) s = true ↔ bit s j = true := by
    rw [win_iff ho.1 h.ws]
    constructor
    · intro hs
      have hb : bit (of_ [(j : Int)]) j = true := by rw [of_one hj, bit_put]; simp
      exact hs _ _ hb
    · intro hb i k hik
      by_cases hk : k < 64
      · have h1 : bit (of_ [(j : Int)]) (64 * i + k) = true := by
          unfold bit
          rw [show (64 * i + k) / 64 = i by omega, show (64 * i + k) % 64 = k by omega]
          exact hik
        rw [of_one hj, bit_put, bit_nil, Bool.false_or, beq_iff_eq] at h1
        rw [← h1] at hb
        unfold bit at hb
        rw [show (64 * i + k) / 64 = i by omega, show (64 * i + k) % 64 = k by omega] at hb
        exact hb
      · rw [Nat.testBit_lt_two_pow (Nat.lt_of_lt_of_le (show Bs.at_ (of_ [(j : Int)]) i < 2 ^ 64 from ho.1.at_ i) (Nat.pow_le_pow_right (by decide) (by omega)))] at hik
        cases hik
  cases h1 : win (of_ [(j : Int)]) s <;> cases h2 : bit s j <;> simp_all
theorem win_sub {N : Nat} {s t : List Nat} (h : Gs N s) (k : Gs N t) (e : ∀ m, bit s m = true → bit t m = true) : win s t = true := by
  rw [win_iff h.ws k.ws]
  intro i j hij
  by_cases hj : j < 64
  · have := e (64 * i + j)
    unfold bit at this
    rw [show (64 * i + j) / 64 = i by omega, show (64 * i + j) % 64 = j by omega] at this
    exact this hij
  · rw [Nat.testBit_lt_two_pow (Nat.lt_of_lt_of_le (show Bs.at_ s i < 2 ^ 64 from h.ws.at_ i) (Nat.pow_le_pow_right (by decide) (by omega)))] at hij
    cases hij
theorem behW_at {N : Nat} {es : List Ed} (hes : ∀ e ∈ es, e.2 < N) (n : Nat) : Gs N ((behW N es).getD n []) := by
  by_cases hn : n < (behW N es).length
  · rw [List.getD_eq_getElem?_getD, List.getElem?_eq_getElem hn, Option.getD_some]
    exact behW_gs hes _ (List.getElem_mem hn)
  · rw [List.getD_eq_getElem?_getD, List.getElem?_eq_none (by omega), Option.getD_none]
    exact Gs.nil N
/-- what the law says -/
theorem behind_law {N : Nat} {es : List Ed} (hN : N ≤ 200) (hl : (take N es).length = N) (hes : ∀ e ∈ es, e.2 < N) {i j : Nat} (hi : i < N) (hj : j < N) :
    win (of_ [(i : Int)]) ((behW N es).getD i []) = false ∧ (win (of_ [(j : Int)]) ((behW N es).getD i []) = true → win ((behW N es).getD j []) ((behW N es).getD i []) = true ∧ win (of_ [(i : Int)]) ((behW N es).getD j []) = false) := by
  have hr := (good_take N es).not_round hl hes
  have key : ∀ a b, a < N → b < N → (win (of_ [(b : Int)]) ((behW N es).getD a []) = true ↔ Way es a b) := fun a b ha hb => by
    rw [win_one (behW_at hes a) (by omega), behW_is hl hes a ha]
  refine ⟨?_, fun h => ⟨?_, ?_⟩⟩
  · cases hc : win (of_ [(i : Int)]) ((behW N es).getD i []) with
    | false => rfl
    | true => exact absurd ((key i i hi hi).1 hc) (hr i)
  · exact win_sub (behW_at hes j) (behW_at hes i) fun m hm => (behW_is hl hes i hi m).2 (((key i j hi hj).1 h).trans ((behW_is hl hes j hj m).1 hm))
  · cases hc : win (of_ [(i : Int)]) ((behW N es).getD j []) with
    | false => rfl
    | true => exact absurd (((key i j hi hj).1 h).trans ((key j i hj hi).1 hc)) (hr i)
end Go.Proofs.YtpimcghmpbbckaaDoor.Gr


namespace Go.Proofs.YtpimcghmpbbckaaDoor.Gr
set_option linter.unusedVariables false
set_option linter.unusedSimpArgs false
set_option maxRecDepth 100000
open Bs
/-- the pairs of the first k -/
def edk (L : List (List Nat)) (k : Nat) : List Ed := (List.range k).flatMap fun i => (ls 0 (L.getD i [])).map fun j => (i, j)
def edW (L : List (List Nat)) : List Ed := edk L L.length
theorem edk_zero (L : List (List Nat)) : edk L 0 = [] := rfl
theorem edk_succ (L : List (List Nat)) (k : Nat) : edk L (k + 1) = edk L k ++ (ls 0 (L.getD k [])).map fun j => (k, j) := by
  unfold edk
  rw [List.range_succ, List.flatMap_append]
  simp
theorem getD_gs {N : Nat} {L : List (List Nat)} (h : ∀ s ∈ L, Gs N s) (k : Nat) : Gs N (L.getD k []) := by
  by_cases hk : k < L.length
  · rw [List.getD_eq_getElem?_getD, List.getElem?_eq_getElem hk, Option.getD_some]
    exact h _ (List.getElem_mem hk)
  · rw [List.getD_eq_getElem?_getD, List.getElem?_eq_none (by omega), Option.getD_none]
    exact Gs.nil N
theorem edk_mem {N : Nat} {L : List (List Nat)} (h : ∀ s ∈ L, Gs N s) (k : Nat) (e : Ed) : e ∈ edk L k ↔ e.1 < k ∧ bit (L.getD e.1 []) e.2 = true := by
  unfold edk
  rw [List.mem_flatMap]
  constructor
  · rintro ⟨i, hi, he⟩
    obtain ⟨j, hj, rfl⟩ := List.mem_map.1 he
    exact ⟨List.mem_range.1 hi, (mem_list (getD_gs h i).ws j).1 hj⟩
  · rintro ⟨h1, h2⟩
    exact ⟨e.1, List.mem_range.2 h1, List.mem_map.2 ⟨e.2, (mem_list (getD_gs h e.1).ws e.2).2 h2, rfl⟩⟩
theorem edW_mem {N : Nat} {L : List (List Nat)} (h : ∀ s ∈ L, Gs N s) (e : Ed) : e ∈ edW L ↔ e.1 < L.length ∧ bit (L.getD e.1 []) e.2 = true := edk_mem h _ e
theorem edW_lt {N : Nat} {L : List (List Nat)} (h : ∀ s ∈ L, Gs N s) (hL : L.length = N) : ∀ e ∈ edW L, e.1 < N ∧ e.2 < N := fun e he => by
  obtain ⟨h1, h2⟩ := (edW_mem h e).1 he
  exact ⟨by omega, (getD_gs h e.1).lt e.2 h2⟩
theorem ls_len {N : Nat} {s : List Nat} (h : Gs N s) : (ls 0 s).length ≤ N := by
  have hn : (ls 0 s).Nodup := (ls_rise s 0 h.ws).imp fun h => by omega
  have := hn.length_le_of_subset (l₂ := List.range N) (fun m hm => List.mem_range.2 (h.lt m ((mem_list h.ws m).1 hm)))
  simpa using this
theorem edk_len {N : Nat} {L : List (List Nat)} (h : ∀ s ∈ L, Gs N s) : ∀ k, (edk L k).length ≤ k * N
  | 0 => by simp [edk]
  | k + 1 => by
    rw [edk_succ, List.length_append, List.length_map, Nat.add_mul, Nat.one_mul]
    exact Nat.add_le_add (edk_len h k) (ls_len (getD_gs h k))
end Go.Proofs.YtpimcghmpbbckaaDoor.Gr


namespace Go.Proofs.YtpimcghmpbbckaaDoor.Gr
set_option linter.unusedVariables false
set_option linter.unusedSimpArgs false
set_option maxRecDepth 100000
open Bs
/-- the set of one node without what is behind the first ones in it -/
def cj (B : List (List Nat)) (s : List Nat) (pre : List Nat) : List Nat := pre.foldl (fun a m => op fless a (B.getD m [])) s
theorem cj_nil (B : List (List Nat)) (s : List Nat) : cj B s [] = s := rfl
theorem cj_snoc (B : List (List Nat)) (s : List Nat) (pre : List Nat) (m : Nat) : cj B s (pre ++ [m]) = op fless (cj B s pre) (B.getD m []) := by
  unfold cj
  rw [List.foldl_append]
  rfl
def core1 (B : List (List Nat)) (i : Nat) : List Nat := cj B (B.getD i []) (ls 0 (B.getD i []))
/-- the first k are done -/
def ck (B : List (List Nat)) (N k : Nat) : List (List Nat) := (List.range N).map fun i => if i < k then core1 B i else []
def coreW (B : List (List Nat)) : List (List Nat) := (List.range B.length).map (core1 B)
theorem ck_zero (B : List (List Nat)) (N : Nat) : ck B N 0 = List.replicate N [] := by
  unfold ck
  apply List.ext_getElem
  · simp
  · intro i h h'; simp
theorem ck_all (B : List (List Nat)) : ck B B.length B.length = coreW B := by
  unfold ck coreW
  refine List.map_congr_left fun i hi => ?_
  rw [if_pos (List.mem_range.1 hi)]
theorem ck_length (B : List (List Nat)) (N k : Nat) : (ck B N k).length = N := by simp [ck]
theorem ck_step (B : List (List Nat)) (N k : Nat) : (ck B N k).set k (core1 B k) = ck B N (k + 1) := by
  unfold ck
  rw [map_set]
  refine List.map_congr_left fun i _ => ?_
  by_cases e : i = k
  · rw [if_pos e, if_pos (by omega), e]
  · rw [if_neg e]
    by_cases h : i < k
    · rw [if_pos h, if_pos (by omega)]
    · rw [if_neg h, if_neg (by omega)]
theorem coreW_length (B : List (List Nat)) : (coreW B).length = B.length := by simp [coreW]
theorem cj_gs {N : Nat} {B : List (List Nat)} (h : ∀ s ∈ B, Gs N s) {s : List Nat} (hs : Gs N s) (pre : List Nat) : Gs N (cj B s pre) := by
  unfold cj
  induction pre generalizing s with
  | nil => exact hs
  | cons m l ih => exact ih (hs.less (getD_gs h m).ws)
theorem cj_bit {N : Nat} {B : List (List Nat)} (h : ∀ s ∈ B, Gs N s) (x : Nat) : ∀ (pre : List Nat) {s : List Nat}, Gs N s → (bit (cj B s pre) x = true ↔ bit s x = true ∧ ∀ m ∈ pre, bit (B.getD m []) x = false)
  | [], s, _ => by simp [cj]
  | m :: l, s, hs => by
    show bit (cj B (op fless s (B.getD m [])) l) x = true ↔ _
    rw [cj_bit h x l (hs.less (getD_gs h m).ws), bit_less hs.ws (getD_gs h m).ws, Bool.and_eq_true, Bool.not_eq_true']
    constructor
    · rintro ⟨⟨a, b⟩, c⟩
      exact ⟨a, fun m' hm => (List.mem_cons.1 hm).elim (fun e => e ▸ b) (c m')⟩
    · rintro ⟨a, b⟩
      exact ⟨⟨a, b m List.mem_cons_self⟩, fun m' hm => b m' (List.mem_cons_of_mem _ hm)⟩
theorem core1_gs {N : Nat} {B : List (List Nat)} (h : ∀ s ∈ B, Gs N s) (i : Nat) : Gs N (core1 B i) := cj_gs h (getD_gs h i) _
theorem coreW_gs {N : Nat} {B : List (List Nat)} (h : ∀ s ∈ B, Gs N s) : ∀ s ∈ coreW B, Gs N s := fun s hs => by
  obtain ⟨i, -, rfl⟩ := List.mem_map.1 hs
  exact core1_gs h i
theorem core1_bit {N : Nat} {B : List (List Nat)} (h : ∀ s ∈ B, Gs N s) (i x : Nat) : bit (core1 B i) x = true ↔ bit (B.getD i []) x = true ∧ ∀ m, bit (B.getD i []) m = true → bit (B.getD m []) x = false := by
  unfold core1
  rw [cj_bit h x _ (getD_gs h i)]
  refine and_congr Iff.rfl ⟨fun H m hm => H m ((mem_list (getD_gs h i).ws m).2 hm), fun H m hm => H m ((mem_list (getD_gs h i).ws m).1 hm)⟩
theorem coreW_getD (B : List (List Nat)) {i : Nat} (hi : i < B.length) : (coreW B).getD i [] = core1 B i := by
  unfold coreW
  rw [List.getD_eq_getElem?_getD, List.getElem?_map, List.getElem?_range hi]
  rfl
end Go.Proofs.YtpimcghmpbbckaaDoor.Gr


namespace Go.Proofs.YtpimcghmpbbckaaDoor.Gr
set_option linter.unusedVariables false
set_option linter.unusedSimpArgs false
set_option maxRecDepth 100000
open Bs

/-- where every edge goes along a way of a graph without rounds, all can be taken -/
theorem full_of_sub {N : Nat} {es es' : List Ed} (hl : (take N es).length = N) (hsub : ∀ e ∈ es', Way es e.1 e.2) (hlt : ∀ e ∈ es', e.1 < N ∧ e.2 < N) : (take N es').length = N := by
  have hg := good_take N es
  have hg' := good_take N es'
  have hst := take_stop N es'
  have key : ∀ (i m : Nat), (take N es)[i]? = some m → m ∈ take N es' := by
    intro i
    induction i using Nat.strongRecOn with
    | _ i ih =>
      intro m hm
      by_cases hc : m ∈ take N es'
      · exact hc
      · exfalso
        have hmN := hg.lt m (List.mem_of_getElem? hm)
        have hr := nxt_none hst m hmN
        have : ¬ rdy es' (take N es') m = true := by rw [hr]; simp
        rw [rdy_iff] at this
        apply this
        refine ⟨hc, fun e he em => ?_⟩
        have hw := hsub e he
        rw [em] at hw
        obtain ⟨j, hj, hje⟩ := hg.up hw i hm
        exact ih j hj _ hje
  have hall : ∀ m, m < N → m ∈ take N es' := fun m hm => by
    obtain ⟨i, hi⟩ := List.getElem?_of_mem (hg.full hl m hm)
    exact key i m hi
  have h1 := (List.nodup_range (n := N)).length_le_of_subset (l₂ := take N es') (fun m hm => hall m (List.mem_range.1 hm))
  have h2 := hg'.length
  rw [List.length_range] at h1
  omega
theorem way_sub {es es' : List Ed} (h : ∀ e ∈ es', Way es e.1 e.2) {a b : Nat} (hw : Way es' a b) : Way es a b := by
  induction hw with
  | one he => exact h _ he
  | on he _ ih => exact (h _ he).trans ih

set_option linter.unusedSectionVars false
section
variable {N : Nat} {es : List Ed} (hl : (take N es).length = N) (hes : ∀ e ∈ es, e.1 < N ∧ e.2 < N)
include hl hes
theorem way_lt {a b : Nat} (h : Way es a b) : a < N ∧ b < N := by
  constructor
  · obtain ⟨m, hm, -⟩ := h.head; exact (hes _ hm).1
  · obtain ⟨m, hm⟩ := h.last; exact (hes _ hm).2
theorem beh_bit {a b : Nat} (ha : a < N) : bit ((behW N es).getD a []) b = true ↔ Way es a b := behW_is hl (fun e he => (hes e he).2) a ha b
theorem beh_gs : ∀ s ∈ behW N es, Gs N s := behW_gs fun e he => (hes e he).2
/-- an edge of the closure is a way -/
theorem clo_edge (e : Ed) : e ∈ edW (behW N es) ↔ Way es e.1 e.2 := by
  rw [edW_mem (beh_gs hl hes), behW_length]
  constructor
  · rintro ⟨h1, h2⟩
    exact (beh_bit hl hes h1).1 h2
  · intro h
    have h1 := (way_lt hl hes h).1
    exact ⟨h1, (beh_bit hl hes h1).2 h⟩
/-- an edge of the core is a way that no two ways make -/
theorem core_edge (e : Ed) : e ∈ edW (coreW (behW N es)) ↔ Way es e.1 e.2 ∧ ∀ m, Way es e.1 m → ¬ Way es m e.2 := by
  rw [edW_mem (coreW_gs (beh_gs hl hes)), coreW_length, behW_length]
  constructor
  · rintro ⟨h1, h2⟩
    rw [coreW_getD _ (by rw [behW_length]; exact h1), core1_bit (beh_gs hl hes), beh_bit hl hes h1] at h2
    refine ⟨h2.1, fun m hm hc => ?_⟩
    have := h2.2 m ((beh_bit hl hes h1).2 hm)
    rw [(beh_bit hl hes (way_lt hl hes hc).1).2 hc] at this
    cases this
  · rintro ⟨h1, h2⟩
    have h0 := (way_lt hl hes h1).1
    refine ⟨h0, ?_⟩
    rw [coreW_getD _ (by rw [behW_length]; exact h0), core1_bit (beh_gs hl hes), beh_bit hl hes h0]
    refine ⟨h1, fun m hm => ?_⟩
    have hw := (beh_bit hl hes h0).1 hm
    cases hc : bit ((behW N es).getD m []) e.2 with
    | false => rfl
    | true => exact absurd ((beh_bit hl hes (way_lt hl hes hw).2).1 hc) (h2 m hw)
theorem core_way {a b : Nat} (h : Way es a b) : Way (edW (coreW (behW N es))) a b := by
  have hg := good_take N es
  obtain ⟨j, hj⟩ := List.getElem?_of_mem (hg.full hl b (way_lt hl hes h).2)
  obtain ⟨i, hi, hia⟩ := hg.up h j hj
  have key : ∀ (d i j a b : Nat), j - i = d → (take N es)[i]? = some a → (take N es)[j]? = some b → Way es a b → Way (edW (coreW (behW N es))) a b := by
    intro d
    induction d using Nat.strongRecOn with
    | _ d ih =>
      intro i j a b hd hia hjb hw
      by_cases hc : ∀ m, Way es a m → ¬ Way es m b
      · exact .one ((core_edge hl hes (a, b)).2 ⟨hw, hc⟩)
      · have : ∃ m, Way es a m ∧ Way es m b := by
          apply Classical.byContradiction
          intro h
          exact hc fun m h1 h2 => h ⟨m, h1, h2⟩
        obtain ⟨m, h1, h2⟩ := this
        obtain ⟨k, hk, hkm⟩ := hg.up h2 j hjb
        obtain ⟨i', hi', hia'⟩ := hg.up h1 k hkm
        have := hg.inj hia hia'
        subst this
        exact (ih (k - i) (by omega) i k a m rfl hia hkm h1).trans (ih (j - k) (by omega) k j m b rfl hkm hjb h2)
  exact key _ i j a b rfl hia hj h
/-- graphs with the same ways have the same sets -/
theorem beh_same {es' : List Ed} (hl' : (take N es').length = N) (hes' : ∀ e ∈ es', e.1 < N ∧ e.2 < N) (h : ∀ a b, Way es' a b ↔ Way es a b) : behW N es' = behW N es := by
  apply List.ext_getElem
  · rw [behW_length, behW_length]
  · intro i h1 h2
    rw [behW_length] at h1
    refine (beh_gs hl' hes' _ (List.getElem_mem (by rw [behW_length]; exact h1))).ext (beh_gs hl hes _ (List.getElem_mem h2)) fun m => ?_
    have e1 : bit ((behW N es').getD i []) m = bit ((behW N es).getD i []) m := by
      rw [Bool.eq_iff_iff, beh_bit hl' hes' h1, beh_bit hl hes h1, h]
    rw [List.getD_eq_getElem?_getD, List.getD_eq_getElem?_getD, List.getElem?_eq_getElem (by rw [behW_length]; exact h1), List.getElem?_eq_getElem h2] at e1
    exact e1
theorem clo_lt : ∀ e ∈ edW (behW N es), e.1 < N ∧ e.2 < N := edW_lt (beh_gs hl hes) (behW_length _ _)
theorem core_lt : ∀ e ∈ edW (coreW (behW N es)), e.1 < N ∧ e.2 < N := edW_lt (coreW_gs (beh_gs hl hes)) (by rw [coreW_length, behW_length])
theorem clo_full : (take N (edW (behW N es))).length = N := full_of_sub hl (fun e he => (clo_edge hl hes e).1 he) (clo_lt hl hes)
theorem core_full : (take N (edW (coreW (behW N es)))).length = N := full_of_sub hl (fun e he => ((core_edge hl hes e).1 he).1) (core_lt hl hes)
theorem clo_same : behW N (edW (behW N es)) = behW N es := beh_same hl hes (clo_full hl hes) (clo_lt hl hes) fun a b => ⟨way_sub fun e he => (clo_edge hl hes e).1 he, fun h => .one ((clo_edge hl hes (a, b)).2 h)⟩
theorem core_same : behW N (edW (coreW (behW N es))) = behW N es := beh_same hl hes (core_full hl hes) (core_lt hl hes) fun a b => ⟨way_sub fun e he => ((core_edge hl hes e).1 he).1, core_way hl hes⟩
theorem clo_has : ∀ e ∈ es, e ∈ edW (behW N es) := fun e he => (clo_edge hl hes e).2 (.one he)
/-- an edge of the core is one of the graph's -/
theorem core_in (e : Ed) (h : e ∈ edW (coreW (behW N es))) : e ∈ es := by
  obtain ⟨h1, h2⟩ := (core_edge hl hes e).1 h
  obtain ⟨m, hm, rfl | hw⟩ := h1.head
  · exact hm
  · exact absurd hw (h2 m (.one hm))
end
theorem ls_nodup {N : Nat} {s : List Nat} (h : Gs N s) : (ls 0 s).Nodup := (ls_rise s 0 h.ws).imp fun h => by omega
theorem edk_nodup {N : Nat} {L : List (List Nat)} (h : ∀ s ∈ L, Gs N s) : ∀ k, (edk L k).Nodup
  | 0 => by rw [edk_zero]; exact List.nodup_nil
  | k + 1 => by
    rw [edk_succ]
    refine List.nodup_append.2 ⟨edk_nodup h k, ?_, fun e he f hf heq => ?_⟩
    · exact List.pairwise_map.2 ((ls_nodup (getD_gs h k)).imp fun hab hc => hab (by injection hc))
    · obtain ⟨j, -, rfl⟩ := List.mem_map.1 hf
      have := ((edk_mem h k e).1 he).1
      rw [heq] at this
      exact absurd this (by simp)
/-- one edge of the core is left out: what it led to is not behind any more -/
theorem least_law {N : Nat} {es : List Ed} (hl : (take N es).length = N) (hes : ∀ e ∈ es, e.1 < N ∧ e.2 < N) {k : Nat} {e : Ed} (hk : (edW (coreW (behW N es)))[k]? = some e) :
    let less := (edW (coreW (behW N es))).take k ++ (edW (coreW (behW N es))).drop (k + 1)
    (take N less).length = N ∧ (∀ x ∈ less, x.1 < N ∧ x.2 < N) ∧ e.2 ∉ ls 0 ((behW N less).getD e.1 []) ∧ e.1 < N ∧ e ∈ es := by
  intro less
  have hsub : ∀ x ∈ less, x ∈ edW (coreW (behW N es)) := fun x hx => (List.mem_append.1 hx).elim (fun h => List.mem_of_mem_take h) (fun h => List.mem_of_mem_drop h)
  have hlt : ∀ x ∈ less, x.1 < N ∧ x.2 < N := fun x hx => core_lt hl hes x (hsub x hx)
  have hw : ∀ x ∈ less, Way es x.1 x.2 := fun x hx => ((core_edge hl hes x).1 (hsub x hx)).1
  have hf := full_of_sub hl hw hlt
  have he := List.mem_of_getElem? hk
  have hnd : (edW (coreW (behW N es))).Nodup := edk_nodup (coreW_gs (beh_gs hl hes)) _
  have hno : e ∉ less := fun hc => by
    rcases List.mem_append.1 hc with h | h
    · obtain ⟨i, hi⟩ := List.getElem?_of_mem h
      rw [List.getElem?_take] at hi
      split at hi
      · have := (List.getElem_inj hnd).1 ((List.getElem?_eq_some_iff.1 hi).2.trans (List.getElem?_eq_some_iff.1 hk).2.symm)
        omega
      · cases hi
    · obtain ⟨i, hi⟩ := List.getElem?_of_mem h
      rw [List.getElem?_drop] at hi
      have := (List.getElem_inj hnd).1 ((List.getElem?_eq_some_iff.1 hi).2.trans (List.getElem?_eq_some_iff.1 hk).2.symm)
      omega
  refine ⟨hf, hlt, fun hc => ?_, (core_lt hl hes e he).1, core_in hl hes e he⟩
  have h1 := (mem_list (getD_gs (beh_gs hf hlt) e.1).ws e.2).1 hc
  have h2 := (beh_bit hf hlt (core_lt hl hes e he).1).1 h1
  have h3 := ((core_edge hl hes e).1 he).2
  obtain ⟨m, hm, rfl | hmw⟩ := h2.head
  · exact hno hm
  · exact h3 m (hw _ hm) (way_sub hw hmw)
end Go.Proofs.YtpimcghmpbbckaaDoor.Gr


namespace Go.Proofs.YtpimcghmpbbckaaDoor
set_option linter.unusedVariables false
set_option linter.unusedSimpArgs false
set_option maxRecDepth 100000
open Go.RowKit

namespace Gr
def zed (es : List Ed) : List Er := es.map fun e => ((e.1 : Int), (e.2 : Int))
theorem nat_zed (es : List Ed) : nat (zed es) = es := by
  unfold nat zed
  rw [List.map_map]
  conv => rhs; rw [← List.map_id es]
  refine List.map_congr_left fun e _ => ?_
  simp
theorem zed_length (es : List Ed) : (zed es).length = es.length := by simp [zed]
theorem wrong_zed {N : Nat} {es : List Ed} (hN : N ≤ 200) (hes : ∀ e ∈ es, e.1 < N ∧ e.2 < N) (hful : (take N es).length = N) : wrong (N : Int) (zed es) = 0 := by
  have hok : okG (N : Int) (zed es) = true := okG_iff.2 ⟨by omega, by omega, fun e he => by
    obtain ⟨x, hx, rfl⟩ := List.mem_map.1 he
    have := hes x hx
    exact ⟨by show 0 ≤ (x.1 : Int); omega, by show 0 ≤ (x.2 : Int); omega, by show (x.1 : Int) < N; omega, by show (x.2 : Int) < N; omega⟩⟩
  unfold wrong
  rw [if_pos hok, Int.toNat_natCast, nat_zed, hful, if_neg (Nat.lt_irrefl _)]
theorem left_full {N : Nat} {es : List Ed} {D : List Nat} (hes : ∀ e ∈ es, e.1 < N ∧ e.2 < N) (hful : (take N es).length = N) : (take N (left es D)).length = N :=
  full_of_sub hful (fun e he => .one (mem_left.1 he).1) (fun e he => hes e (mem_left.1 he).1)
theorem left_snoc (es : List Ed) (D : List Nat) (k : Nat) (e : Ed) (h : es[k]? = some e) : left (es.take (k + 1)) D = left (es.take k) D ++ (if !D.contains e.1 && !D.contains e.2 then [e] else []) := by
  unfold left
  rw [take_snoc h, List.filter_append]
  congr 1
  simp only [List.filter_cons, List.filter_nil]
end Gr
theorem ercs_zed (es : List Gr.Ed) : ercs (Gr.zed es) = edcs es := by
  unfold ercs edcs Gr.zed
  rw [List.flatMap_map, List.flatMap_def, List.flatMap_def]
  congr 1

/-- the height of a graph that is right -/
theorem height_full (N : Nat) (es : List Gr.Ed) (w : World) (A : Option Addr) (c : Nat) (hN : N ≤ 200) (hes : ∀ e ∈ es, e.1 < N ∧ e.2 < N) (hful : (Gr.take N es).length = N) (hA : SlV w 2 (.slice A es.length c) es.length (edcs es)) (hle : es.length ≤ 1099511627776) (hT : Tab w) :
    Calls Tryd.prog 15 #[.agg #[.int .i64 (N : Int), .slice A es.length c]] w fun e w' => ∃ (h : Nat) (L : List Nat), e = .returned (.tuple #[.int .i64 (h : Int), .int .i64 0]) ∧ Gr.LvL N es L ∧ h = Gr.hgt L ∧ h ≤ 201 ∧ Below w.heap.size w w' := by
  have := height_any (N : Int) (Gr.zed es) w A c (by rw [Gr.zed_length, ercs_zed]; exact hA) (by rw [Gr.zed_length]; exact hle) hT
  rw [Gr.zed_length, Gr.wrong_zed hN hes hful, Gr.nat_zed, Int.toNat_natCast] at this
  refine this.mono ?_
  rintro e w' ⟨h, he, -, hL, hh, hb⟩
  obtain ⟨L, h1, h2⟩ := hL rfl
  exact ⟨h, L, he, h1, h2, hh, hb⟩
end Go.Proofs.YtpimcghmpbbckaaDoor


namespace Go.Proofs.YtpimcghmpbbckaaDoor
set_option linter.unusedVariables false
set_option linter.unusedSimpArgs false
set_option maxRecDepth 100000
open Go.RowKit

namespace Cn
def err (n : Int) (es : List Gr.Er) : Int := if Gr.wrong n es ≠ 0 then Gr.wrong n es else if 14 < n then 2 else 0
def res (n : Int) (es : List Gr.Er) : Nat := if err n es = 0 then ord n.toNat (okE (Gr.nat es)) (2 ^ n.toNat - 1) else 0
theorem err_zero {n : Int} {es : List Gr.Er} : err n es = 0 ↔ Gr.wrong n es = 0 ∧ n ≤ 14 := by
  unfold err
  by_cases h : Gr.wrong n es = 0
  · rw [if_neg (by simpa using h)]
    by_cases h2 : 14 < n
    · rw [if_pos h2]
      constructor
      · intro h; cases h
      · rintro ⟨-, a⟩; omega
    · rw [if_neg h2]
      exact ⟨fun _ => ⟨h, by omega⟩, fun _ => rfl⟩
  · rw [if_pos h]
    exact ⟨fun e => absurd e h, fun e => absurd e.1 h⟩
end Cn

set_option maxHeartbeats 4000000 in
theorem ocount_any (n : Int) (es : List Gr.Er) (w : World) (A : Option Addr) (c : Nat) (hA : SlV w 2 (.slice A es.length c) es.length (ercs es)) (hle : es.length ≤ 1099511627776) (hT : Tab w) :
    Calls Tryd.prog 18 #[.agg #[.int .i64 n, .slice A es.length c]] w fun e w' => e = .returned (.tuple #[.int .u64 ((Cn.res n es : Nat) : Int), .int .i64 (Cn.err n es)]) ∧ Below w.heap.size w w' := by
  have hwr : ∀ w', Below w.heap.size w w' → Calls Tryd.prog 14 #[.agg #[.int .i64 n, .slice A es.length c]] w' fun e w'' => e = .returned (.int .i64 (Gr.wrong n es)) ∧ Below w'.heap.size w' w'' := fun w' hb =>
    wrong_any n es w' A c (hA.below hb) hle (fun j hj => (hb.cell (p := ⟨0, j, none⟩) hT.lt).trans (hT j hj))
  by_cases he : Cn.err n es = 0
  · obtain ⟨h0, h14⟩ := Cn.err_zero.1 he
    obtain ⟨N, rfl, hN, hes, hln, hcs, -⟩ := Gr.wrong_none h0
    have := count_yes N (Gr.nat es) w A c (by omega) hes (by rw [hln, ← hcs]; exact hA) (by omega) (by rw [hln]; rw [h0] at hwr; exact hwr)
    rw [hln] at this
    unfold Cn.res
    rw [he, if_pos rfl, Int.toNat_natCast]
    exact this
  · have hres : Cn.res n es = 0 := by unfold Cn.res; rw [if_neg he]
    have x0 := Blk.new w 24 [.int .i64 n, .slice A es.length c]
    have hb0 : Below w.heap.size w (w.alloc (.cells #[.int .i64 n, .slice A es.length c] 24)) := below_alloc (Below.refl _ _) _
    have hwr1 := hwr _ hb0
    obtain ⟨E, hE⟩ : ∃ E, E = Cn.err n es := ⟨_, rfl⟩
    obtain ⟨R, hR⟩ : ∃ R, R = Gr.wrong n es := ⟨_, rfl⟩
    have hER : E = if R ≠ 0 then R else if 14 < n then 2 else 0 := by rw [hE, hR]; rfl
    rw [hres, ← hE]
    rw [← hR] at hwr1
    have he' : E ≠ 0 := by rw [hE]; exact he
    clear he hres hwr hE hR hA
    go_enter Tryd.func18, Tryd.ntmps18
    go_upto_region 1 with (fail)
    generalize (w.alloc (.cells #[.int .i64 n, .slice A es.length c] 24)) = V0 at x0 hb0 hwr1 ⊢
    have d0 : V0.cell? ⟨w.heap.size, 0, none⟩ = some (.int .i64 n) := (x0.cell 0).trans rfl
    have d1 : V0.cell? ⟨w.heap.size, 1, none⟩ = some (.slice A es.length c) := (x0.cell 1).trans rfl
    have HE := Lib.hid hER
    have HE' := Lib.hid he'
    clear hER he'
    go_wp2_with fail
    refine hwr1.mono ?_
    rintro _ W0 ⟨rfl, hbW⟩
    have x1 := x0.below hbW
    have c0 : W0.cell? ⟨w.heap.size, 0, none⟩ = some (.int .i64 n) := (x1.cell 0).trans rfl
    have HB := Lib.hid (below_next hbW hb0)
    clear hwr1 hb0 hbW x0 d0 d1 x1
    by_cases h0 : R = 0
    · subst h0
      have hE2 := HE.out
      rw [if_neg (by simp)] at hE2
      have hk : 14 < n := Decidable.byContradiction fun h => HE'.out (by rw [hE2, if_neg h])
      rw [if_pos hk] at hE2
      subst hE2
      clear HE
      have k2 : decide (14 < n) = true := decide_eq_true hk
      clear hk
      go_wp2_with fail
      go_ret2
      exact ⟨rfl, HB.out⟩
    · have g0 : (R != 0) = true := by simpa using h0
      have hE2 := HE.out
      rw [if_pos h0] at hE2
      subst hE2
      clear HE HE' h0 c0
      go_wp2_with fail
      go_ret2
      exact ⟨rfl, HB.out⟩
/-- of a graph that is right -/
theorem ocount_full (N : Nat) (es : List Gr.Ed) (w : World) (A : Option Addr) (c : Nat) (hN : N ≤ 14) (hes : ∀ e ∈ es, e.1 < N ∧ e.2 < N) (hful : (Gr.take N es).length = N) (hA : SlV w 2 (.slice A es.length c) es.length (edcs es)) (hle : es.length ≤ 1099511627776) (hT : Tab w) :
    Calls Tryd.prog 18 #[.agg #[.int .i64 (N : Int), .slice A es.length c]] w fun e w' => e = .returned (.tuple #[.int .u64 ((Cn.ord N (Cn.okE es) (2 ^ N - 1) : Nat) : Int), .int .i64 0]) ∧ Below w.heap.size w w' := by
  have := ocount_any (N : Int) (Gr.zed es) w A c (by rw [Gr.zed_length, ercs_zed]; exact hA) (by rw [Gr.zed_length]; exact hle) hT
  have he : Cn.err (N : Int) (Gr.zed es) = 0 := Cn.err_zero.2 ⟨Gr.wrong_zed (by omega) hes hful, by omega⟩
  unfold Cn.res at this
  rw [Gr.zed_length, he, if_pos rfl, Gr.nat_zed, Int.toNat_natCast] at this
  exact this
end Go.Proofs.YtpimcghmpbbckaaDoor


namespace Go.Proofs.YtpimcghmpbbckaaDoor.Sp
set_option linter.unusedVariables false
set_option linter.unusedSimpArgs false
set_option maxRecDepth 100000

inductive T where
  | nil
  | one (c : Int) (wr : Bool) (lb : Int)
  | two (par : Bool) (l r : T)

abbrev Acc := Int × Bool × Int

def T.leaves : T → List Acc
  | .nil => []
  | .one c b l => [(c, b, l)]
  | .two _ l r => l.leaves ++ r.leaves
def T.size (t : T) : Nat := t.leaves.length
def T.span : T → Nat
  | .nil => 0
  | .one _ _ _ => 1
  | .two par l r => if par then max l.span r.span else l.span + r.span
def T.width : T → Nat
  | .nil => 0
  | .one _ _ _ => 1
  | .two par l r => if par then l.width + r.width else max l.width r.width

theorem T.size_two (p : Bool) (l r : T) : (T.two p l r).size = l.size + r.size := by simp [T.size, T.leaves]
def T.cnt : T → Nat
  | .nil => 1
  | .one _ _ _ => 1
  | .two _ l r => 1 + l.cnt + r.cnt
theorem T.size_le_cnt (t : T) : t.size ≤ t.cnt := by
  induction t with
  | nil => exact Nat.zero_le _
  | one _ _ _ => exact Nat.le_refl _
  | two p l r ihl ihr => rw [T.size_two, T.cnt]; omega
theorem T.span_le (t : T) : t.span ≤ t.size := by
  induction t with
  | nil => exact Nat.le_refl _
  | one _ _ _ => exact Nat.le_refl _
  | two p l r ihl ihr =>
    rw [T.size_two]
    cases p <;> simp only [T.span] <;> simp <;> omega
theorem T.width_le (t : T) : t.width ≤ t.size := by
  induction t with
  | nil => exact Nat.le_refl _
  | one _ _ _ => exact Nat.le_refl _
  | two p l r ihl ihr =>
    rw [T.size_two]
    cases p <;> simp only [T.width] <;> simp <;> omega
theorem T.area (t : T) : t.size ≤ t.span * t.width := by
  induction t with
  | nil => exact Nat.le_refl _
  | one _ _ _ => exact Nat.le_refl _
  | two p l r ihl ihr =>
    rw [T.size_two]
    cases p
    · simp only [T.span, T.width, Bool.false_eq_true, if_false, Nat.add_mul]
      exact Nat.add_le_add (Nat.le_trans ihl (Nat.mul_le_mul_left _ (Nat.le_max_left _ _))) (Nat.le_trans ihr (Nat.mul_le_mul_left _ (Nat.le_max_right _ _)))
    · simp only [T.span, T.width, if_true, Nat.mul_add]
      exact Nat.add_le_add (Nat.le_trans ihl (Nat.mul_le_mul_right _ (Nat.le_max_left _ _))) (Nat.le_trans ihr (Nat.mul_le_mul_right _ (Nat.le_max_right _ _)))
theorem T.zero (t : T) : (t.size = 0 ↔ t.span = 0) ∧ (t.size = 0 ↔ t.width = 0) := by
  have h1 := t.span_le
  have h2 := t.width_le
  have h3 := t.area
  refine ⟨⟨fun h => by omega, fun h => ?_⟩, ⟨fun h => by omega, fun h => ?_⟩⟩
  · rw [h, Nat.zero_mul] at h3; omega
  · rw [h, Nat.mul_zero] at h3; omega
end Go.Proofs.YtpimcghmpbbckaaDoor.Sp


namespace Go.Proofs.YtpimcghmpbbckaaDoor.Sp
set_option linter.unusedVariables false
set_option linter.unusedSimpArgs false
set_option maxRecDepth 100000

def put {α : Type} (ps : List α) (a : Nat) (ms : List α) : List α := ps.take a ++ ms ++ ps.drop (a + ms.length)

theorem put_get {α : Type} (ps ms : List α) (a i : Nat) (h : a + ms.length ≤ ps.length) : (put ps a ms)[i]? = if i < a then ps[i]? else if i < a + ms.length then ms[i - a]? else ps[i]? := by
  unfold put
  have h1 : (ps.take a).length = a := by simp; omega
  by_cases h2 : i < a
  · rw [if_pos h2, List.append_assoc, List.getElem?_append_left (by omega), List.getElem?_take_of_lt h2]
  · rw [if_neg h2]
    by_cases h3 : i < a + ms.length
    · rw [if_pos h3, List.append_assoc, List.getElem?_append_right (by omega), h1, List.getElem?_append_left (by omega)]
    · rw [if_neg h3, List.getElem?_append_right (by simp; omega), List.getElem?_drop]
      congr 1; simp; omega
theorem put_length {α : Type} (ps ms : List α) (a : Nat) (h : a + ms.length ≤ ps.length) : (put ps a ms).length = ps.length := by
  unfold put; simp; omega
theorem put_nil {α : Type} (ps : List α) (a : Nat) : put ps a [] = ps := by simp [put]
theorem put_put {α : Type} (ps m1 m2 : List α) (a : Nat) (h : a + m1.length + m2.length ≤ ps.length) : put (put ps a m1) (a + m1.length) m2 = put ps a (m1 ++ m2) := by
  apply List.ext_getElem?
  intro i
  rw [put_get _ _ _ _ (by rw [put_length _ _ _ (by omega)]; omega), put_get _ _ _ _ (by omega), put_get _ _ _ _ (by simp; omega)]
  simp only [List.length_append]
  by_cases h1 : i < a
  · rw [if_pos h1, if_pos h1, if_pos (by omega)]
  · rw [if_neg h1, if_neg h1]
    by_cases h2 : i < a + m1.length
    · rw [if_pos h2, if_pos h2, if_pos (by omega), List.getElem?_append_left (by omega)]
    · rw [if_neg h2, if_neg h2]
      by_cases h3 : i < a + m1.length + m2.length
      · rw [if_pos h3, if_pos (by omega), List.getElem?_append_right (by omega)]
        congr 1; omega
      · rw [if_neg h3, if_neg (by omega)]
theorem put_back {α : Type} (ps m1 m2 : List α) (a : Nat) (h : a + m1.length + m2.length ≤ ps.length) : put (put ps (a + m1.length) m2) a m1 = put ps a (m1 ++ m2) := by
  apply List.ext_getElem?
  intro i
  rw [put_get _ _ _ _ (by rw [put_length _ _ _ (by omega)]; omega), put_get _ _ _ _ (by omega), put_get _ _ _ _ (by simp; omega)]
  simp only [List.length_append]
  by_cases h1 : i < a
  · rw [if_pos h1, if_pos h1, if_pos (by omega)]
  · rw [if_neg h1, if_neg h1]
    by_cases h2 : i < a + m1.length
    · rw [if_pos h2, if_pos (by omega), List.getElem?_append_left (by omega)]
    · rw [if_neg h2, if_neg h2]
      by_cases h3 : i < a + m1.length + m2.length
      · rw [if_pos h3, if_pos (by omega), List.getElem?_append_right (by omega)]
        congr 1; omega
      · rw [if_neg h3, if_neg (by omega)]
theorem put_all {α : Type} (ps ms : List α) (h : ms.length = ps.length) : put ps 0 ms = ms := by
  unfold put
  rw [List.take_zero, List.nil_append, List.drop_of_length_le (by omega), List.append_nil]
theorem put_one {α : Type} (ps : List α) (a : Nat) (x : α) (h : a < ps.length) : put ps a [x] = ps.set a x := by
  unfold put
  rw [List.set_eq_take_append_cons_drop, if_pos h]
  simp

def T.marks : T → Nat → Nat → List (Nat × Nat)
  | .nil, _, _ => []
  | .one _ _ _, a, j => [(a, j)]
  | .two par l r, a, j => l.marks a (if par then j + r.size else j) ++ r.marks (a + l.size) (if par then j else j + l.size)
theorem T.marks_length (t : T) : ∀ a j, (t.marks a j).length = t.size := by
  induction t with
  | nil => intro a j; rfl
  | one _ _ _ => intro a j; rfl
  | two p l r ihl ihr => intro a j; rw [T.size_two, T.marks, List.length_append, ihl, ihr]

/-- the place of leaf i in the second numbering -/
def T.rk : T → Nat → Nat
  | .nil, _ => 0
  | .one _ _ _, _ => 0
  | .two par l r, i => if i < l.size then l.rk i + (if par then r.size else 0) else r.rk (i - l.size) + (if par then 0 else l.size)
theorem T.rk_lt (t : T) : ∀ i, i < t.size → t.rk i < t.size := by
  induction t with
  | nil => intro i h; exact absurd h (Nat.not_lt_zero _)
  | one _ _ _ => intro i h; exact Nat.zero_lt_one
  | two p l r ihl ihr =>
    intro i h
    rw [T.size_two] at h ⊢
    unfold T.rk
    split
    · have := ihl i ‹_›; cases p <;> simp <;> omega
    · have := ihr (i - l.size) (by omega); cases p <;> simp <;> omega
theorem T.marks_get (t : T) : ∀ a j i, i < t.size → (t.marks a j)[i]? = some (a + i, j + t.rk i) := by
  induction t with
  | nil => intro a j i h; exact absurd h (Nat.not_lt_zero _)
  | one _ _ _ =>
    intro a j i h
    have : i = 0 := by have : i < 1 := h; omega
    subst this; rfl
  | two p l r ihl ihr =>
    intro a j i h
    rw [T.size_two] at h
    rw [T.marks, T.rk]
    by_cases h1 : i < l.size
    · rw [List.getElem?_append_left (by rw [T.marks_length]; exact h1), ihl _ _ _ h1, if_pos h1]
      cases p <;> simp <;> omega
    · rw [List.getElem?_append_right (by rw [T.marks_length]; omega), T.marks_length, ihr _ _ _ (by omega), if_neg h1]
      cases p <;> simp <;> omega
theorem T.rk_side (p : Bool) (l r : T) (i : Nat) (h : i < (T.two p l r).size) :
    (i < l.size ∧ (T.two p l r).rk i = l.rk i + (if p then r.size else 0) ∧ l.rk i < l.size) ∨ (l.size ≤ i ∧ i - l.size < r.size ∧ (T.two p l r).rk i = r.rk (i - l.size) + (if p then 0 else l.size) ∧ r.rk (i - l.size) < r.size) := by
  rw [T.size_two] at h
  by_cases h1 : i < l.size
  · exact .inl ⟨h1, by rw [T.rk, if_pos h1], l.rk_lt _ h1⟩
  · exact .inr ⟨by omega, by omega, by rw [T.rk, if_neg h1], r.rk_lt _ (by omega)⟩
theorem T.rk_inj (t : T) : ∀ i k, i < t.size → k < t.size → t.rk i = t.rk k → i = k := by
  induction t with
  | nil => intro i k h; exact absurd h (Nat.not_lt_zero _)
  | one _ _ _ => intro i k h h' _; have : i < 1 := h; have : k < 1 := h'; omega
  | two p l r ihl ihr =>
    intro i k h h' e
    rcases T.rk_side p l r i h with ⟨h1, h2, h3⟩ | ⟨h1, h0, h2, h3⟩ <;> rcases T.rk_side p l r k h' with ⟨k1, k2, k3⟩ | ⟨k1, k0, k2, k3⟩
    · exact ihl i k h1 k1 (by cases p <;> simp at h2 k2 <;> omega)
    · cases p <;> simp at h2 k2 <;> omega
    · cases p <;> simp at h2 k2 <;> omega
    · have := ihr _ _ h0 k0 (by cases p <;> simp at h2 k2 <;> omega)
      omega

/-- leaf i is ahead of leaf k -/
def T.bf (t : T) (i k : Nat) : Prop := i < k ∧ t.rk i < t.rk k
instance (t : T) (i k : Nat) : Decidable (t.bf i k) := inferInstanceAs (Decidable (_ ∧ _))
def T.apart (t : T) (i k : Nat) : Prop := i ≠ k ∧ ¬ t.bf i k ∧ ¬ t.bf k i
theorem T.no_n (t : T) : ∀ a b c d, a < t.size → b < t.size → c < t.size → d < t.size → t.bf a c → t.bf a d → t.bf b d → t.apart a b → t.apart c d → ¬ t.apart b c := by
  induction t with
  | nil => intro a b c d h; exact absurd h (Nat.not_lt_zero _)
  | one _ _ _ => intro a b c d h h1 h2 h3 h4; have : a < 1 := h; have : c < 1 := h2; have := h4.1; omega
  | two p l r ihl ihr =>
    intro a b c d ha hb hc hd h1 h2 h3 h4 h5 h6
    unfold T.apart T.bf at h4 h5 h6
    unfold T.bf at h1 h2 h3
    rcases T.rk_side p l r a ha with ⟨a1, a2, a3⟩ | ⟨a1, a0, a2, a3⟩ <;> rcases T.rk_side p l r b hb with ⟨b1, b2, b3⟩ | ⟨b1, b0, b2, b3⟩ <;>
    rcases T.rk_side p l r c hc with ⟨c1, c2, c3⟩ | ⟨c1, c0, c2, c3⟩ <;> rcases T.rk_side p l r d hd with ⟨d1, d2, d3⟩ | ⟨d1, d0, d2, d3⟩
    · exact ihl a b c d a1 b1 c1 d1 (by unfold T.bf; omega) (by unfold T.bf; omega) (by unfold T.bf; omega) (by unfold T.apart T.bf; omega) (by unfold T.apart T.bf; omega) (by unfold T.apart T.bf; omega)
    all_goals first
      | (exfalso; cases p <;> simp at a2 b2 c2 d2 <;> omega)
      | exact ihr (a - l.size) (b - l.size) (c - l.size) (d - l.size) a0 b0 c0 d0 (by unfold T.bf; omega) (by unfold T.bf; omega) (by unfold T.bf; omega) (by unfold T.apart T.bf; omega) (by unfold T.apart T.bf; omega) (by unfold T.apart T.bf; omega)

def T.before (t : T) (i j : Int) : Bool := decide ((0 ≤ i ∧ 0 ≤ j ∧ i < t.size ∧ j < t.size) ∧ t.bf i.toNat j.toNat)
theorem T.before_irr (t : T) (i : Int) : t.before i i = false := by
  unfold T.before T.bf; simp
theorem T.before_lt (t : T) (i j : Int) (h : t.before i j = true) : i < j := by
  unfold T.before T.bf at h; have := of_decide_eq_true h; omega
theorem T.before_trans (t : T) (i j k : Int) (h : t.before i j = true) (h' : t.before j k = true) : t.before i k = true := by
  unfold T.before T.bf at *
  have h1 := of_decide_eq_true h
  have h2 := of_decide_eq_true h'
  exact decide_eq_true (by omega)

/-! ### brackets -/
def T.same (s t : T) : Prop := s.leaves = t.leaves ∧ ∀ a j, s.marks a j = t.marks a j
theorem T.same_size {s t : T} (h : s.same t) : s.size = t.size := by unfold T.size; rw [h.1]
theorem T.same_rk {s t : T} (h : s.same t) (i : Nat) (hi : i < s.size) : s.rk i = t.rk i := by
  have h1 := s.marks_get 0 0 i hi
  rw [h.2, t.marks_get 0 0 i (by rw [← T.same_size h]; exact hi)] at h1
  injection h1 with h1
  injection h1 with _ h1
  omega
theorem T.same_before {s t : T} (h : s.same t) (i j : Int) : s.before i j = t.before i j := by
  have e := T.same_size h
  rw [Bool.eq_iff_iff]
  unfold T.before T.bf
  rw [decide_eq_true_iff, decide_eq_true_iff]
  constructor
  · rintro ⟨hb, h1, h2⟩
    rw [T.same_rk h _ (by omega), T.same_rk h _ (by omega)] at h2
    exact ⟨by omega, h1, h2⟩
  · rintro ⟨hb, h1, h2⟩
    rw [← T.same_rk h _ (by omega), ← T.same_rk h _ (by omega)] at h2
    exact ⟨by omega, h1, h2⟩
theorem T.same_joins (p : Bool) (a b c : T) : (T.two p (.two p a b) c).same (.two p a (.two p b c)) := by
  refine ⟨by simp [T.leaves], fun x j => ?_⟩
  simp only [T.marks, T.size_two]
  cases p <;> simp [Nat.add_assoc]
  rw [Nat.add_comm b.size]
theorem T.same_none (p : Bool) (a : T) : (T.two p (.two p .nil a) .nil).same a := by
  refine ⟨by simp [T.leaves], fun x j => ?_⟩
  simp only [T.marks, T.size_two]
  cases p <;> simp [T.size, T.leaves]

/-! ### orders -/
/-- in how many ways a things and b others are mixed -/
def ch : Nat → Nat → Nat
  | 0, _ => 1
  | _ + 1, 0 => 1
  | a + 1, b + 1 => ch a (b + 1) + ch (a + 1) b
def fac : Nat → Nat
  | 0 => 1
  | n + 1 => (n + 1) * fac n
theorem fac_pos : ∀ n, 0 < fac n
  | 0 => Nat.zero_lt_one
  | n + 1 => Nat.mul_pos (Nat.succ_pos _) (fac_pos n)
theorem ch_zero (a : Nat) : ch a 0 = 1 := by cases a <;> simp [ch]
theorem ch_fac : ∀ a b, ch a b * (fac a * fac b) = fac (a + b)
  | 0, b => by simp [ch, fac]
  | a + 1, 0 => by simp [ch, fac]
  | a + 1, b + 1 => by
    have h1 := ch_fac a (b + 1)
    have h2 := ch_fac (a + 1) b
    have e1 : a + (b + 1) = a + b + 1 := by omega
    have e2 : a + 1 + b = a + b + 1 := by omega
    have e3 : a + 1 + (b + 1) = a + b + 1 + 1 := by omega
    rw [e1] at h1
    rw [e2] at h2
    rw [ch, e3, Nat.add_mul]
    have i1 : ch a (b + 1) * (fac (a + 1) * fac (b + 1)) = (a + 1) * fac (a + b + 1) := by
      rw [← h1]; show _ * ((a + 1) * fac a * _) = _; simp only [Nat.mul_assoc, Nat.mul_left_comm, Nat.mul_comm]
    have i2 : ch (a + 1) b * (fac (a + 1) * fac (b + 1)) = (b + 1) * fac (a + b + 1) := by
      rw [← h2]; show _ * (_ * ((b + 1) * fac b)) = _; ac_rfl
    rw [i1, i2, ← Nat.add_mul]
    show _ = (a + b + 1 + 1) * fac (a + b + 1)
    congr 1 <;> omega
theorem ch_three (a b c : Nat) : ch (a + b) c * ch a b = ch a (b + c) * ch b c := by
  have h1 := ch_fac (a + b) c
  have h2 := ch_fac a b
  have h3 := ch_fac a (b + c)
  have h4 := ch_fac b c
  apply Nat.eq_of_mul_eq_mul_right (Nat.mul_pos (Nat.mul_pos (fac_pos a) (fac_pos b)) (fac_pos c))
  have i1 : ch (a + b) c * ch a b * (fac a * fac b * fac c) = fac (a + b + c) := by
    rw [← h1, ← h2]; ac_rfl
  have i2 : ch a (b + c) * ch b c * (fac a * fac b * fac c) = fac (a + b + c) := by
    rw [Nat.add_assoc, ← h3, ← h4]; ac_rfl
  rw [i1, i2]

def T.ways : T → Nat
  | .nil => 1
  | .one _ _ _ => 1
  | .two p l r => l.ways * r.ways * (if p then ch l.size r.size else 1)
theorem T.ways_joins (p : Bool) (a b c : T) : (T.two p (.two p a b) c).ways = (T.two p a (.two p b c)).ways := by
  simp only [T.ways, T.size_two]
  cases p
  · simp; ac_rfl
  · have := ch_three a.size b.size c.size
    simp only [if_true]
    calc _ = a.ways * b.ways * c.ways * (ch (a.size + b.size) c.size * ch a.size b.size) := by ac_rfl
      _ = _ := by rw [this]; ac_rfl
theorem T.ways_none (p : Bool) (a : T) : (T.two p (.two p .nil a) .nil).ways = a.ways := by
  have h0 : T.nil.size = 0 := rfl
  simp only [T.ways, T.size_two, h0]
  cases p <;> simp [ch_zero, ch]
end Go.Proofs.YtpimcghmpbbckaaDoor.Sp


namespace Go.Proofs.YtpimcghmpbbckaaDoor.Gr
set_option linter.unusedVariables false
set_option linter.unusedSimpArgs false
set_option maxRecDepth 100000
open Bs

/-- all that node i leads to, of the first j behind it -/
def rowJ (f : Nat → Nat) (i j : Nat) : List Ed := ((List.range j).filter fun m => decide (f i < f (i + 1 + m))).map fun m => (i, i + 1 + m)
def gEk (f : Nat → Nat) (n k : Nat) : List Ed := (List.range k).flatMap fun i => rowJ f i (n - (i + 1))
def gE (f : Nat → Nat) (n : Nat) : List Ed := gEk f n n
theorem rowJ_zero (f : Nat → Nat) (i : Nat) : rowJ f i 0 = [] := rfl
theorem rowJ_yes {f : Nat → Nat} {i j : Nat} (h : f i < f (i + 1 + j)) : rowJ f i (j + 1) = rowJ f i j ++ [(i, i + 1 + j)] := by
  unfold rowJ
  rw [List.range_succ, List.filter_append, List.map_append]
  simp [h]
theorem rowJ_no {f : Nat → Nat} {i j : Nat} (h : ¬ f i < f (i + 1 + j)) : rowJ f i (j + 1) = rowJ f i j := by
  unfold rowJ
  rw [List.range_succ, List.filter_append, List.map_append]
  simp [h]
theorem gEk_zero (f : Nat → Nat) (n : Nat) : gEk f n 0 = [] := rfl
theorem gEk_succ (f : Nat → Nat) (n k : Nat) : gEk f n (k + 1) = gEk f n k ++ rowJ f k (n - (k + 1)) := by
  unfold gEk
  rw [List.range_succ, List.flatMap_append]
  simp
theorem rowJ_len (f : Nat → Nat) (i j : Nat) : (rowJ f i j).length ≤ j := by
  unfold rowJ
  rw [List.length_map]
  exact Nat.le_trans (List.length_filter_le _ _) (by simp)
theorem gEk_len (f : Nat → Nat) (n : Nat) : ∀ k, (gEk f n k).length ≤ k * n
  | 0 => by simp [gEk]
  | k + 1 => by
    rw [gEk_succ, List.length_append, Nat.add_mul, Nat.one_mul]
    exact Nat.add_le_add (gEk_len f n k) (Nat.le_trans (rowJ_len f k _) (by omega))
theorem rowJ_mem {f : Nat → Nat} {i j : Nat} {e : Ed} : e ∈ rowJ f i j ↔ e.1 = i ∧ i < e.2 ∧ e.2 < i + 1 + j ∧ f i < f e.2 := by
  unfold rowJ
  rw [List.mem_map]
  constructor
  · rintro ⟨m, hm, rfl⟩
    rw [List.mem_filter, List.mem_range, decide_eq_true_eq] at hm
    exact ⟨rfl, by show i < i + 1 + m; omega, by show i + 1 + m < _; omega, hm.2⟩
  · rintro ⟨h1, h2, h3, h4⟩
    refine ⟨e.2 - (i + 1), ?_, ?_⟩
    · rw [List.mem_filter, List.mem_range, decide_eq_true_eq, show i + 1 + (e.2 - (i + 1)) = e.2 by omega]
      exact ⟨by omega, h4⟩
    · rw [← h1, show e.1 + 1 + (e.2 - (e.1 + 1)) = e.2 by omega]
theorem gE_mem {f : Nat → Nat} {n : Nat} {e : Ed} : e ∈ gE f n ↔ e.1 < e.2 ∧ e.2 < n ∧ f e.1 < f e.2 := by
  unfold gE gEk
  rw [List.mem_flatMap]
  constructor
  · rintro ⟨i, hi, he⟩
    have := List.mem_range.1 hi
    obtain ⟨h1, h2, h3, h4⟩ := rowJ_mem.1 he
    rw [h1]
    exact ⟨h2, by omega, h4⟩
  · rintro ⟨h1, h2, h3⟩
    exact ⟨e.1, List.mem_range.2 (by omega), rowJ_mem.2 ⟨rfl, h1, by omega, h3⟩⟩
theorem gE_lt {f : Nat → Nat} {n : Nat} : ∀ e ∈ gE f n, e.1 < n ∧ e.2 < n := fun e he => by
  obtain ⟨h1, h2, -⟩ := gE_mem.1 he
  exact ⟨by omega, h2⟩
/-- where every edge goes up, all can be taken -/
theorem full_up {N : Nat} {es : List Ed} (h : ∀ e ∈ es, e.1 < e.2 ∧ e.2 < N) : (take N es).length = N := by
  have hg := good_take N es
  have hst := take_stop N es
  have key : ∀ m, m < N → m ∈ take N es := by
    intro m
    induction m using Nat.strongRecOn with
    | _ m ih =>
      intro hm
      by_cases hc : m ∈ take N es
      · exact hc
      · exfalso
        have hr := nxt_none hst m hm
        have : ¬ rdy es (take N es) m = true := by rw [hr]; simp
        rw [rdy_iff] at this
        apply this
        refine ⟨hc, fun e he em => ?_⟩
        have := h e he
        exact ih e.1 (by omega) (by omega)
  have h1 := (List.nodup_range (n := N)).length_le_of_subset (l₂ := take N es) (fun m hm => key m (List.mem_range.1 hm))
  have h2 := hg.length
  rw [List.length_range] at h1
  omega
theorem gE_full (f : Nat → Nat) (n : Nat) : (take n (gE f n)).length = n := full_up fun e he => by
  obtain ⟨h1, h2, -⟩ := gE_mem.1 he
  exact ⟨h1, h2⟩
theorem gE_way {f : Nat → Nat} {n a b : Nat} (h : Way (gE f n) a b) : (a, b) ∈ gE f n := by
  induction h with
  | one h => exact h
  | on he _ ih =>
    obtain ⟨h1, h2, h3⟩ := gE_mem.1 he
    obtain ⟨k1, k2, k3⟩ := gE_mem.1 ih
    simp only at h1 h2 h3 k1 k2 k3
    exact gE_mem.2 ⟨by simp only; omega, k2, by simp only; omega⟩
/-- two lists that go up and have the same numbers -/
theorem rise_ext : ∀ {l m : List Nat}, l.Pairwise (· < ·) → m.Pairwise (· < ·) → (∀ x, x ∈ l ↔ x ∈ m) → l = m
  | [], [], _, _, _ => rfl
  | [], y :: m, _, _, h => by have := (h y).2 List.mem_cons_self; cases this
  | x :: l, [], _, _, h => by have := (h x).1 List.mem_cons_self; cases this
  | x :: l, y :: m, hl, hm, h => by
    have hl' := List.pairwise_cons.1 hl
    have hm' := List.pairwise_cons.1 hm
    have e : x = y := by
      rcases List.mem_cons.1 ((h x).1 List.mem_cons_self) with e | hx
      · exact e
      · rcases List.mem_cons.1 ((h y).2 List.mem_cons_self) with e | hy
        · exact e.symm
        · have := hm'.1 x hx
          have := hl'.1 y hy
          omega
    subst e
    congr 1
    refine rise_ext hl'.2 hm'.2 fun z => ⟨fun hz => ?_, fun hz => ?_⟩
    · rcases List.mem_cons.1 ((h z).1 (List.mem_cons_of_mem _ hz)) with e | h1
      · have := hl'.1 z hz; omega
      · exact h1
    · rcases List.mem_cons.1 ((h z).2 (List.mem_cons_of_mem _ hz)) with e | h1
      · have := hm'.1 z hz; omega
      · exact h1
/-- the closure has no edge more -/
theorem gE_closed (f : Nat → Nat) (n : Nat) : edW (behW n (gE f n)) = gE f n := by
  have hl := gE_full f n
  have hes := gE_lt (f := f) (n := n)
  have hbg := beh_gs hl hes
  unfold edW
  rw [behW_length]
  unfold gE gEk edk
  rw [List.flatMap_def, List.flatMap_def]
  congr 1
  refine List.map_congr_left fun i hi => ?_
  have hi := List.mem_range.1 hi
  have key : ls 0 ((behW n (gE f n)).getD i []) = ((List.range (n - (i + 1))).filter fun m => decide (f i < f (i + 1 + m))).map fun m => i + 1 + m := by
    refine rise_ext (ls_rise _ _ (getD_gs hbg i).ws) ?_ fun x => ?_
    · exact List.pairwise_map.2 (((List.pairwise_lt_range (n := n - (i + 1))).filter _).imp fun h => by omega)
    · rw [mem_list (getD_gs hbg i).ws, beh_bit hl hes hi]
      constructor
      · intro h
        obtain ⟨h1, h2, h3⟩ := gE_mem.1 (gE_way h)
        simp only at h1 h2 h3
        refine List.mem_map.2 ⟨x - (i + 1), ?_, by omega⟩
        rw [List.mem_filter, List.mem_range, decide_eq_true_eq, show i + 1 + (x - (i + 1)) = x by omega]
        exact ⟨by omega, h3⟩
      · intro h
        obtain ⟨m, hm, rfl⟩ := List.mem_map.1 h
        rw [List.mem_filter, List.mem_range, decide_eq_true_eq] at hm
        exact .one (gE_mem.2 ⟨by simp only; omega, by simp only; omega, hm.2⟩)
  have e : behW n (gEk f n n) = behW n (gE f n) := rfl
  show (ls 0 ((behW n (gE f n)).getD i [])).map _ = _
  rw [key, List.map_map]
  rfl
end Go.Proofs.YtpimcghmpbbckaaDoor.Gr


namespace Go.Proofs.YtpimcghmpbbckaaDoor.Sp
set_option linter.unusedVariables false
set_option linter.unusedSimpArgs false
set_option maxRecDepth 100000

def T.lvl : T → Nat → Nat
  | .nil, _ => 0
  | .one _ _ _, _ => 0
  | .two p l r, i => if i < l.size then l.lvl i else if p then r.lvl (i - l.size) else l.span + r.lvl (i - l.size)
theorem T.lvl_l {p : Bool} {l r : T} {i : Nat} (h : i < l.size) : (T.two p l r).lvl i = l.lvl i := by
  show (if i < l.size then _ else _) = _
  rw [if_pos h]
theorem T.lvl_r {p : Bool} {l r : T} {i : Nat} (h : ¬ i < l.size) : (T.two p l r).lvl i = (if p then 0 else l.span) + r.lvl (i - l.size) := by
  show (if i < l.size then _ else if p then r.lvl (i - l.size) else l.span + r.lvl (i - l.size)) = _
  rw [if_neg h]
  cases p <;> simp
theorem T.span_two (p : Bool) (l r : T) : (T.two p l r).span = if p then max l.span r.span else l.span + r.span := rfl
theorem T.bf_two (p : Bool) (l r : T) (i k : Nat) (hi : i < l.size + r.size) (hk : k < l.size + r.size) : (T.two p l r).bf i k ↔ (k < l.size ∧ l.bf i k) ∨ (l.size ≤ i ∧ r.bf (i - l.size) (k - l.size)) ∨ (p = false ∧ i < l.size ∧ l.size ≤ k) := by
  have h1 : ∀ x, x < l.size → l.rk x < l.size := fun x hx => l.rk_lt x hx
  have h2 : ∀ x, x < r.size → r.rk x < r.size := fun x hx => r.rk_lt x hx
  unfold T.bf
  rw [T.rk, T.rk]
  by_cases hil : i < l.size
  · rw [if_pos hil]
    by_cases hkl : k < l.size
    · rw [if_pos hkl]
      constructor
      · rintro ⟨a, b⟩; exact .inl ⟨hkl, a, by omega⟩
      · rintro (⟨a, b, c⟩ | ⟨a, b⟩ | ⟨a, b, c⟩)
        · exact ⟨b, by omega⟩
        · omega
        · omega
    · rw [if_neg hkl]
      have a1 := h1 i hil
      have a2 := h2 (k - l.size) (by omega)
      cases p
      · simp only [Bool.false_eq_true, if_false]
        exact ⟨fun _ => .inr (.inr ⟨by simp, hil, by omega⟩), fun _ => ⟨by omega, by omega⟩⟩
      · simp only [if_true]
        constructor
        · rintro ⟨a, b⟩; omega
        · rintro (⟨a, b, c⟩ | ⟨a, b⟩ | ⟨a, b, c⟩)
          · omega
          · omega
          · cases a
  · rw [if_neg hil]
    by_cases hkl : k < l.size
    · rw [if_pos hkl]
      constructor
      · rintro ⟨a, b⟩; omega
      · rintro (⟨a, b, c⟩ | ⟨a, b, c⟩ | ⟨a, b, c⟩)
        · omega
        · omega
        · omega
    · rw [if_neg hkl]
      constructor
      · rintro ⟨a, b⟩; exact .inr (.inl ⟨by omega, by omega, by omega⟩)
      · rintro (⟨a, b, c⟩ | ⟨a, b, c⟩ | ⟨a, b, c⟩)
        · omega
        · exact ⟨by omega, by omega⟩
        · omega
theorem T.lvl_lt (t : T) : ∀ i, i < t.size → t.lvl i < t.span := by
  induction t with
  | nil => intro i h; exact absurd h (Nat.not_lt_zero _)
  | one c b l => intro i _; show 0 < 1; omega
  | two p l r ihl ihr =>
    intro i hi
    rw [T.size_two] at hi
    rw [T.span_two]
    by_cases hil : i < l.size
    · have := ihl i hil
      rw [T.lvl_l hil]
      cases p <;> simp <;> omega
    · have := ihr (i - l.size) (by omega)
      rw [T.lvl_r hil]
      cases p <;> simp <;> omega
theorem T.lvl_up (t : T) : ∀ i k, i < t.size → k < t.size → t.bf i k → t.lvl i < t.lvl k := by
  induction t with
  | nil => intro i k h; exact absurd h (Nat.not_lt_zero _)
  | one c b l =>
    intro i k hi hk h
    have h1 : i < 1 := hi
    have h2 : k < 1 := hk
    have := h.1
    omega
  | two p l r ihl ihr =>
    intro i k hi hk h
    rw [T.size_two] at hi hk
    rcases (T.bf_two p l r i k hi hk).1 h with ⟨h1, h2⟩ | ⟨h1, h2⟩ | ⟨h1, h2, h3⟩
    · have hil : i < l.size := Nat.lt_trans h2.1 h1
      rw [T.lvl_l hil, T.lvl_l h1]
      exact ihl i k hil h1 h2
    · have hik := h.1
      rw [T.lvl_r (by omega), T.lvl_r (by omega)]
      have := ihr (i - l.size) (k - l.size) (by omega) (by omega) h2
      omega
    · rw [T.lvl_l h2, T.lvl_r (by omega), h1]
      have := l.lvl_lt i h2
      simp only [Bool.false_eq_true, if_false]
      omega
/-- one of the highest level -/
theorem T.lvl_hit (t : T) : 0 < t.span → ∃ i, i < t.size ∧ t.lvl i + 1 = t.span := by
  induction t with
  | nil => intro h; exact absurd h (Nat.not_lt_zero _)
  | one c b l => intro _; exact ⟨0, Nat.zero_lt_one, rfl⟩
  | two p l r ihl ihr =>
    intro h
    have hsz := T.size_two p l r
    have hl : 0 < l.span → ∃ i, i < (T.two p l r).size ∧ (T.two p l r).lvl i + 1 = l.span := fun h => by
      obtain ⟨i, h1, h2⟩ := ihl h
      exact ⟨i, by omega, by rw [T.lvl_l h1, h2]⟩
    have hr : 0 < r.span → ∃ i, i < (T.two p l r).size ∧ (T.two p l r).lvl i + 1 = (if p then 0 else l.span) + r.span := fun h => by
      obtain ⟨i, h1, h2⟩ := ihr h
      exact ⟨l.size + i, by omega, by rw [T.lvl_r (by omega), show l.size + i - l.size = i by omega, Nat.add_assoc, h2]⟩
    rw [T.span_two] at h ⊢
    generalize (T.two p l r).size = S at *
    generalize (T.two p l r).lvl = V at *
    cases p
    · simp only [Bool.false_eq_true, if_false] at h hr ⊢
      by_cases h0 : 0 < r.span
      · exact hr h0
      · obtain ⟨i, h1, h2⟩ := hl (by omega)
        exact ⟨i, h1, by omega⟩
    · simp only [if_true] at h hr ⊢
      by_cases hc : l.span ≤ r.span
      · rw [Nat.max_eq_right hc] at h ⊢
        obtain ⟨i, h1, h2⟩ := hr h
        exact ⟨i, h1, by rw [h2, Nat.zero_add]⟩
      · rw [Nat.max_eq_left (by omega)] at h ⊢
        exact hl h
theorem T.lvl_down (t : T) : ∀ k, k < t.size → 0 < t.lvl k → ∃ i, i < t.size ∧ t.bf i k ∧ t.lvl i + 1 = t.lvl k := by
  induction t with
  | nil => intro k h; exact absurd h (Nat.not_lt_zero _)
  | one c b l => intro k _ h; exact absurd h (Nat.not_lt_zero _)
  | two p l r ihl ihr =>
    intro k hk h0
    have hsz := T.size_two p l r
    rw [hsz] at hk
    by_cases hkl : k < l.size
    · rw [T.lvl_l hkl] at h0 ⊢
      obtain ⟨i, h1, h2, h3⟩ := ihl k hkl h0
      exact ⟨i, by omega, (T.bf_two p l r i k (by omega) hk).2 (.inl ⟨hkl, h2⟩), by rw [T.lvl_l h1, h3]⟩
    · rw [T.lvl_r hkl] at h0 ⊢
      by_cases hr0 : 0 < r.lvl (k - l.size)
      · obtain ⟨i, h1, h2, h3⟩ := ihr (k - l.size) (by omega) hr0
        refine ⟨l.size + i, by omega, (T.bf_two p l r _ k (by omega) hk).2 (.inr (.inl ⟨by omega, by rw [show l.size + i - l.size = i by omega]; exact h2⟩)), ?_⟩
        rw [T.lvl_r (by omega), show l.size + i - l.size = i by omega, Nat.add_assoc, h3]
      · cases p
        · simp only [Bool.false_eq_true, if_false] at h0 ⊢
          obtain ⟨i, h1, h2⟩ := l.lvl_hit (by omega)
          refine ⟨i, by omega, (T.bf_two false l r i k (by omega) hk).2 (.inr (.inr ⟨rfl, h1, by omega⟩)), ?_⟩
          rw [T.lvl_l h1]
          omega
        · simp only [if_true] at h0
          omega

/-- the rounds of a term's graph -/
theorem T.rounds (t : T) (v : Nat) : (v + 1) * (Gr.all t.size (Gr.gE t.rk t.size) (v + 1)).length ≤ t.size + v * t.span ∧ t.span ≤ (Gr.all t.size (Gr.gE t.rk t.size) (v + 1)).length := by
  have hes := Gr.gE_lt (f := t.rk) (n := t.size)
  have up : ∀ e ∈ Gr.gE t.rk t.size, t.lvl e.1 < t.lvl e.2 := fun e he => by
    obtain ⟨h1, h2, h3⟩ := Gr.gE_mem.1 he
    exact t.lvl_up _ _ (by omega) h2 ⟨h1, h3⟩
  refine ⟨Gr.brent (fun e he => (hes e he).1) up (fun m hm => t.lvl_lt m hm), ?_⟩
  by_cases h0 : 0 < t.span
  · refine Gr.rounds_high (lv := t.lvl) (by omega) (Gr.gE_full _ _) (fun m hm h => ?_) (fun e he => (hes e he).1) (t.lvl_hit h0)
    obtain ⟨i, h1, h2, h3⟩ := t.lvl_down m hm h
    exact ⟨(i, m), Gr.gE_mem.2 ⟨h2.1, hm, h2.2⟩, rfl, h3⟩
  · omega
theorem T.rounds_div (t : T) (v : Nat) : (Gr.all t.size (Gr.gE t.rk t.size) (v + 1)).length ≤ t.size / (v + 1) + t.span ∧ t.span ≤ (Gr.all t.size (Gr.gE t.rk t.size) (v + 1)).length := by
  obtain ⟨h1, h2⟩ := t.rounds v
  refine ⟨?_, h2⟩
  generalize (Gr.all t.size (Gr.gE t.rk t.size) (v + 1)).length = r at *
  have h3 : (v + 1) * (r - t.span) ≤ t.size := by
    rw [Nat.mul_sub]
    have : (v + 1) * t.span = v * t.span + t.span := by rw [Nat.add_mul, Nat.one_mul]
    omega
  have := (Nat.le_div_iff_mul_le (show 0 < v + 1 by omega)).2 (by rw [Nat.mul_comm]; exact h3)
  omega
end Go.Proofs.YtpimcghmpbbckaaDoor.Sp


namespace Go.Proofs.YtpimcghmpbbckaaDoor.Cn
set_option linter.unusedVariables false
set_option linter.unusedSimpArgs false
set_option maxRecDepth 100000
open Sp (T)

theorem mix_bit {la a b i : Nat} (ha : a < 2 ^ la) : bit (a + 2 ^ la * b) i = if i < la then bit a i else bit b (i - la) := by
  unfold bit
  rw [Nat.add_comm, Nat.testBit_two_pow_mul_add _ ha]
theorem mix_off_l {la a b n : Nat} (h : bit a n = true) : a + 2 ^ la * b - 2 ^ n = (a - 2 ^ n) + 2 ^ la * b := by
  have := bit_ge h
  omega
theorem mix_off_r {la a b m : Nat} (h : bit b m = true) : a + 2 ^ la * b - 2 ^ (la + m) = a + 2 ^ la * (b - 2 ^ m) := by
  have h1 := bit_ge h
  have h2 : 2 ^ la * 2 ^ m ≤ 2 ^ la * b := Nat.mul_le_mul_left _ h1
  rw [Nat.pow_add, Nat.mul_sub]
  omega
theorem mix_lt {la rb a b : Nat} (ha : a < 2 ^ la) (hb : b < 2 ^ rb) : a + 2 ^ la * b < 2 ^ (la + rb) := by
  have h1 : 2 ^ la * (b + 1) ≤ 2 ^ la * 2 ^ rb := Nat.mul_le_mul_left _ hb
  rw [Nat.mul_add, Nat.mul_one] at h1
  rw [Nat.pow_add]
  omega
theorem full_bit {la i : Nat} (h : i < la) : bit (2 ^ la - 1) i = true := by
  unfold bit
  rw [Nat.testBit_two_pow_sub_one]
  simpa using h
theorem full_iff {la a : Nat} (ha : a < 2 ^ la) : a = 2 ^ la - 1 ↔ ∀ i, i < la → bit a i = true := by
  constructor
  · rintro rfl i hi
    exact full_bit hi
  · intro h
    refine bit_ext fun i => ?_
    by_cases hi : i < la
    · rw [h i hi, full_bit hi]
    · have h1 : ∀ s, s < 2 ^ la → bit s i = false := fun s hs => by
        rcases e : bit s i with _ | _
        · rfl
        · exact absurd (bit_lt hs e) hi
      rw [h1 a ha, h1 _ (by have := Nat.two_pow_pos la; omega)]
theorem pop_full (la : Nat) : pop la (2 ^ la - 1) = la := by
  unfold pop
  rw [sg_congr (g := fun _ => 1) (fun n hn => by rw [full_bit hn]; rfl), sg_const, Nat.mul_one]

def okT (t : T) (n s : Nat) : Bool := okE (Gr.gE t.rk t.size) n s
theorem okT_iff {t : T} {n s : Nat} (hn : n < t.size) : okT t n s = true ↔ ∀ i, t.bf i n → bit s i = true := by
  unfold okT
  rw [okE_iff]
  constructor
  · intro h i hi
    exact h (i, n) (Gr.gE_mem.2 ⟨hi.1, hn, hi.2⟩) rfl
  · rintro h e he rfl
    obtain ⟨h1, h2, h3⟩ := Gr.gE_mem.1 he
    exact h e.1 ⟨h1, h3⟩
section
variable {p : Bool} {l r : T}
theorem okT_l {n a b : Nat} (ha : a < 2 ^ l.size) (hn : n < l.size) : okT (.two p l r) n (a + 2 ^ l.size * b) = okT l n a := by
  rw [Bool.eq_iff_iff, okT_iff (by rw [T.size_two]; omega), okT_iff hn]
  constructor
  · intro h i hi
    have hil : i < l.size := Nat.lt_trans hi.1 hn
    have := h i ((T.bf_two p l r i n (by omega) (by omega)).2 (.inl ⟨hn, hi⟩))
    rw [mix_bit ha, if_pos hil] at this
    exact this
  · intro h i hi
    have hin := hi.1
    rw [mix_bit ha, if_pos (by omega)]
    rcases (T.bf_two p l r i n (by omega) (by omega)).1 hi with ⟨-, h2⟩ | ⟨h1, -⟩ | ⟨-, -, h3⟩
    · exact h i h2
    · omega
    · omega
theorem okT_r {m a b : Nat} (ha : a < 2 ^ l.size) (hm : m < r.size) : okT (.two p l r) (l.size + m) (a + 2 ^ l.size * b) = (okT r m b && (p || decide (a = 2 ^ l.size - 1))) := by
  rw [Bool.eq_iff_iff, Bool.and_eq_true, Bool.or_eq_true, decide_eq_true_eq, full_iff ha, okT_iff (by rw [T.size_two]; omega), okT_iff hm]
  constructor
  · intro h
    refine ⟨fun i hi => ?_, ?_⟩
    · have him := hi.1
      have := h (l.size + i) ((T.bf_two p l r _ _ (by omega) (by omega)).2 (.inr (.inl ⟨by omega, by rw [show l.size + i - l.size = i by omega, show l.size + m - l.size = m by omega]; exact hi⟩)))
      rw [mix_bit ha, if_neg (by omega), show l.size + i - l.size = i by omega] at this
      exact this
    · cases p
      · right
        intro i hi
        have := h i ((T.bf_two false l r _ _ (by omega) (by omega)).2 (.inr (.inr ⟨rfl, hi, by omega⟩)))
        rw [mix_bit ha, if_pos hi] at this
        exact this
      · exact .inl rfl
  · rintro ⟨h1, h2⟩ i hi
    have him := hi.1
    rw [mix_bit ha]
    rcases (T.bf_two p l r i _ (by omega) (by omega)).1 hi with ⟨h3, -⟩ | ⟨h3, h4⟩ | ⟨h3, h4, -⟩
    · omega
    · rw [if_neg (by omega)]
      rw [show l.size + m - l.size = m by omega] at h4
      exact h1 _ h4
    · rw [if_pos h4]
      subst h3
      rcases h2 with h2 | h2
      · cases h2
      · exact h2 i h4
end
def ordT (t : T) (s : Nat) : Nat := ord t.size (okT t) s
/-- one more of the first, or of the second -/
theorem ordT_step {p : Bool} {l r : T} {a b : Nat} (ha : a < 2 ^ l.size) (hb : b < 2 ^ r.size) (h0 : a + 2 ^ l.size * b ≠ 0) :
    ordT (.two p l r) (a + 2 ^ l.size * b) = sg l.size (fun n => if bit a n && okT l n (a - 2 ^ n) then ordT (.two p l r) ((a - 2 ^ n) + 2 ^ l.size * b) else 0) +
      sg r.size (fun m => if bit b m && (okT r m (b - 2 ^ m) && (p || decide (a = 2 ^ l.size - 1))) then ordT (.two p l r) (a + 2 ^ l.size * (b - 2 ^ m)) else 0) := by
  have hsz := T.size_two p l r
  have hlt := mix_lt ha hb
  unfold ordT
  rw [hsz, ord_step hlt h0, sg_split]
  congr 1
  · refine sg_congr fun n hn => ?_
    rw [mix_bit ha, if_pos hn]
    by_cases hbn : bit a n = true
    · rw [mix_off_l hbn, okT_l (off_lt ha) hn]
    · simp [hbn]
  · refine sg_congr fun m hm => ?_
    have hx : bit (a + 2 ^ l.size * b) (l.size + m) = bit b m := by rw [mix_bit ha, if_neg (by omega), show l.size + m - l.size = m by omega]
    rw [hx]
    by_cases hbm : bit b m = true
    · rw [mix_off_r hbm, okT_r ha hm]
    · simp [hbm]
theorem sum_l {t : T} {a : Nat} (ha : a < 2 ^ t.size) (c : Nat) : sg t.size (fun n => if bit a n && okT t n (a - 2 ^ n) then c * ordT t (a - 2 ^ n) else 0) = if a = 0 then 0 else c * ordT t a := by
  by_cases h0 : a = 0
  · rw [if_pos h0, sg_congr (g := fun _ => 0) (fun n _ => by rw [h0, bit_zero]; rfl), sg_const, Nat.mul_zero]
  · rw [if_neg h0]
    unfold ordT
    rw [ord_step ha h0, ← sg_mul]
    refine sg_congr fun n _ => ?_
    split <;> simp
theorem ord_par {l r : T} : ∀ (k a b : Nat), a + 2 ^ l.size * b = k → a < 2 ^ l.size → b < 2 ^ r.size → ordT (.two true l r) (a + 2 ^ l.size * b) = Sp.ch (pop l.size a) (pop r.size b) * (ordT l a * ordT r b) := by
  intro k
  induction k using Nat.strongRecOn with
  | _ k ih =>
    intro a b hk ha hb
    by_cases h0 : a + 2 ^ l.size * b = 0
    · have ha0 : a = 0 := by omega
      have hb0 : b = 0 := by
        have : 2 ^ l.size * b = 0 := by omega
        rcases Nat.mul_eq_zero.1 this with h | h
        · have := Nat.two_pow_pos l.size; omega
        · exact h
      subst ha0 hb0
      rw [(pop_zero (N := l.size) (Nat.two_pow_pos _)).2 rfl]
      unfold ordT
      rw [show (0 + 2 ^ l.size * 0) = 0 by simp, ord_zero, ord_zero, ord_zero]
      simp [Sp.ch]
    · rw [ordT_step ha hb h0]
      have e1 : sg l.size (fun n => if bit a n && okT l n (a - 2 ^ n) then ordT (.two true l r) ((a - 2 ^ n) + 2 ^ l.size * b) else 0) = sg l.size (fun n => if bit a n && okT l n (a - 2 ^ n) then (Sp.ch (pop l.size a - 1) (pop r.size b) * ordT r b) * ordT l (a - 2 ^ n) else 0) := by
        refine sg_congr fun n hn => ?_
        by_cases hbn : bit a n = true
        · have h1 := bit_pos hbn
          have h2 := pop_off hn hbn
          rw [ih _ (by rw [← hk]; omega) (a - 2 ^ n) b rfl (off_lt ha) hb, show pop l.size (a - 2 ^ n) = pop l.size a - 1 by omega]
          rw [show Sp.ch (pop l.size a - 1) (pop r.size b) * (ordT l (a - 2 ^ n) * ordT r b) = Sp.ch (pop l.size a - 1) (pop r.size b) * ordT r b * ordT l (a - 2 ^ n) by ac_rfl]
        · simp [hbn]
      have e2 : sg r.size (fun m => if bit b m && (okT r m (b - 2 ^ m) && (true || decide (a = 2 ^ l.size - 1))) then ordT (.two true l r) (a + 2 ^ l.size * (b - 2 ^ m)) else 0) = sg r.size (fun m => if bit b m && okT r m (b - 2 ^ m) then (Sp.ch (pop l.size a) (pop r.size b - 1) * ordT l a) * ordT r (b - 2 ^ m) else 0) := by
        refine sg_congr fun m hm => ?_
        rw [Bool.true_or, Bool.and_true]
        by_cases hbm : bit b m = true
        · have h1 := bit_pos hbm
          have h2 := pop_off hm hbm
          have h3 : 2 ^ l.size * (b - 2 ^ m) < 2 ^ l.size * b := Nat.mul_lt_mul_of_pos_left h1 (Nat.two_pow_pos _)
          rw [ih _ (by rw [← hk]; omega) a (b - 2 ^ m) rfl ha (off_lt hb), show pop r.size (b - 2 ^ m) = pop r.size b - 1 by omega]
          rw [show Sp.ch (pop l.size a) (pop r.size b - 1) * (ordT l a * ordT r (b - 2 ^ m)) = Sp.ch (pop l.size a) (pop r.size b - 1) * ordT l a * ordT r (b - 2 ^ m) by ac_rfl]
        · simp [hbm]
      rw [e1, e2, sum_l ha, sum_l hb]
      have hpa := pop_zero ha
      have hpb := pop_zero hb
      by_cases ha0 : a = 0
      · have hb0 : b ≠ 0 := fun e => h0 (by rw [ha0, e]; simp)
        rw [if_pos ha0, if_neg hb0, hpa.2 ha0]
        obtain ⟨y, hy⟩ : ∃ y, pop r.size b = y + 1 := ⟨pop r.size b - 1, by have : pop r.size b ≠ 0 := fun e => hb0 (hpb.1 e); omega⟩
        rw [hy]
        simp [Sp.ch]
      · obtain ⟨x, hx⟩ : ∃ x, pop l.size a = x + 1 := ⟨pop l.size a - 1, by have : pop l.size a ≠ 0 := fun e => ha0 (hpa.1 e); omega⟩
        rw [if_neg ha0, hx]
        by_cases hb0 : b = 0
        · rw [if_pos hb0, hpb.2 hb0, Nat.add_sub_cancel, Sp.ch_zero, Sp.ch_zero, Nat.add_zero]
          ac_rfl
        · obtain ⟨y, hy⟩ : ∃ y, pop r.size b = y + 1 := ⟨pop r.size b - 1, by have : pop r.size b ≠ 0 := fun e => hb0 (hpb.1 e); omega⟩
          rw [if_neg hb0, hy, Nat.add_sub_cancel, Nat.add_sub_cancel, Sp.ch, Nat.add_mul]
          congr 1 <;> ac_rfl
theorem ord_seq {l r : T} : ∀ (k a b : Nat), a + 2 ^ l.size * b = k → a < 2 ^ l.size → b < 2 ^ r.size → ordT (.two false l r) (a + 2 ^ l.size * b) = if b = 0 then ordT l a else if a = 2 ^ l.size - 1 then ordT l a * ordT r b else 0 := by
  intro k
  induction k using Nat.strongRecOn with
  | _ k ih =>
    intro a b hk ha hb
    by_cases h0 : a + 2 ^ l.size * b = 0
    · have ha0 : a = 0 := by omega
      have hb0 : b = 0 := by
        have : 2 ^ l.size * b = 0 := by omega
        rcases Nat.mul_eq_zero.1 this with h | h
        · have := Nat.two_pow_pos l.size; omega
        · exact h
      subst ha0 hb0
      unfold ordT
      rw [show (0 + 2 ^ l.size * 0) = 0 by simp, ord_zero, if_pos rfl, ord_zero]
    · rw [ordT_step ha hb h0]
      by_cases hb0 : b = 0
      · have ha0 : a ≠ 0 := fun e => h0 (by rw [hb0, e]; simp)
        rw [if_pos hb0]
        have e1 : sg l.size (fun n => if bit a n && okT l n (a - 2 ^ n) then ordT (.two false l r) ((a - 2 ^ n) + 2 ^ l.size * b) else 0) = sg l.size (fun n => if bit a n && okT l n (a - 2 ^ n) then 1 * ordT l (a - 2 ^ n) else 0) := by
          refine sg_congr fun n hn => ?_
          by_cases hbn : bit a n = true
          · have h1 := bit_pos hbn
            rw [ih _ (by rw [← hk]; omega) (a - 2 ^ n) b rfl (off_lt ha) hb, if_pos hb0, Nat.one_mul]
          · simp [hbn]
        rw [e1, sum_l ha, if_neg ha0, Nat.one_mul, sg_congr (g := fun _ => 0) (fun m _ => by rw [hb0, bit_zero]; rfl), sg_const, Nat.mul_zero, Nat.add_zero]
      · rw [if_neg hb0]
        have e1 : sg l.size (fun n => if bit a n && okT l n (a - 2 ^ n) then ordT (.two false l r) ((a - 2 ^ n) + 2 ^ l.size * b) else 0) = sg l.size (fun _ => 0) := by
          refine sg_congr fun n hn => ?_
          by_cases hbn : bit a n = true
          · have h1 := bit_pos hbn
            have hv : ordT (.two false l r) ((a - 2 ^ n) + 2 ^ l.size * b) = 0 := by
              rw [ih _ (by rw [← hk]; omega) (a - 2 ^ n) b rfl (off_lt ha) hb, if_neg hb0, if_neg (by omega)]
            rw [hv]
            simp
          · simp [hbn]
        rw [e1, sg_const, Nat.mul_zero, Nat.zero_add]
        by_cases hf : a = 2 ^ l.size - 1
        · rw [if_pos hf]
          have e2 : sg r.size (fun m => if bit b m && (okT r m (b - 2 ^ m) && (false || decide (a = 2 ^ l.size - 1))) then ordT (.two false l r) (a + 2 ^ l.size * (b - 2 ^ m)) else 0) = sg r.size (fun m => if bit b m && okT r m (b - 2 ^ m) then ordT l a * ordT r (b - 2 ^ m) else 0) := by
            refine sg_congr fun m hm => ?_
            rw [decide_eq_true hf, Bool.or_true, Bool.and_true]
            by_cases hbm : bit b m = true
            · have h1 := bit_pos hbm
              have h3 : 2 ^ l.size * (b - 2 ^ m) < 2 ^ l.size * b := Nat.mul_lt_mul_of_pos_left h1 (Nat.two_pow_pos _)
              rw [ih _ (by rw [← hk]; omega) a (b - 2 ^ m) rfl ha (off_lt hb), if_pos hf]
              by_cases hz : b - 2 ^ m = 0
              · rw [if_pos hz, hz]
                unfold ordT
                rw [ord_zero (N := r.size), Nat.mul_one]
              · rw [if_neg hz]
            · simp [hbm]
          rw [e2, sum_l hb, if_neg hb0]
        · rw [if_neg hf, sg_congr (g := fun _ => 0) (fun m _ => by rw [decide_eq_false hf]; simp), sg_const, Nat.mul_zero]
/-- as many orders as the term has -/
theorem ord_ways (t : T) : ordT t (2 ^ t.size - 1) = t.ways := by
  induction t with
  | nil => rfl
  | one c b l =>
    have hok : okT (.one c b l) 0 (1 - 2 ^ 0) = true := (okT_iff (t := .one c b l) (show 0 < 1 by decide)).2 fun i hi => absurd hi.1 (Nat.not_lt_zero _)
    show ord 1 (okT (.one c b l)) 1 = 1
    rw [ord_step (by decide) (by decide), sg_succ, sg_zero, hok]
    rfl
  | two p l r ihl ihr =>
    have hla := Nat.two_pow_pos l.size
    have hrb := Nat.two_pow_pos r.size
    have e : 2 ^ (T.two p l r).size - 1 = (2 ^ l.size - 1) + 2 ^ l.size * (2 ^ r.size - 1) := by
      rw [T.size_two, Nat.pow_add, Nat.mul_sub, Nat.mul_one]
      have : 2 ^ l.size * 1 ≤ 2 ^ l.size * 2 ^ r.size := Nat.mul_le_mul_left _ hrb
      omega
    rw [e]
    cases p
    · rw [ord_seq _ _ _ rfl (by omega) (by omega), ihl, ihr, if_pos rfl]
      show _ = l.ways * r.ways * (if false = true then Sp.ch l.size r.size else 1)
      simp only [Bool.false_eq_true, if_false, Nat.mul_one]
      by_cases h0 : 2 ^ r.size - 1 = 0
      · rw [if_pos h0, ← ihr, h0]
        unfold ordT
        rw [ord_zero, Nat.mul_one]
      · rw [if_neg h0]
    · rw [ord_par _ _ _ rfl (by omega) (by omega), ihl, ihr, pop_full, pop_full]
      show _ = l.ways * r.ways * (if true = true then Sp.ch l.size r.size else 1)
      simp only [if_true]
      ac_rfl
end Go.Proofs.YtpimcghmpbbckaaDoor.Cn


namespace Go.Proofs.YtpimcghmpbbckaaDoor
set_option linter.unusedVariables false
set_option linter.unusedSimpArgs false
set_option maxRecDepth 100000
open Go.ChangeShapes Go.WideShapes Go.ChangeAt Go.RowKit Go.Deep

/-- every field is an int of one cell, and they lie one behind the other -/
def intFields (P : Program) (fs : Array Field) : Bool :=
  (List.range fs.size).all fun j => match fs[j]? with
    | some f => f.offset == j && P.cellsOf f.type == 1 && (match P.underlying f.type with | some (.int .i64) => true | _ => false)
    | none => false

theorem intFields_at {P : Program} {fs : Array Field} (h : intFields P fs = true) {j : Nat} (hj : j < fs.size) : ∃ f, fs[j]? = some f ∧ f.offset = j ∧ P.cellsOf f.type = 1 ∧ P.underlying f.type = some (.int .i64) := by
  have := List.all_eq_true.1 h j (by simpa using hj)
  rw [Array.getElem?_eq_getElem hj] at this
  simp only [Bool.and_eq_true, beq_iff_eq] at this
  refine ⟨fs[j], Array.getElem?_eq_getElem hj, this.1.1, this.1.2, ?_⟩
  have h3 := this.2
  split at h3
  · assumption
  · cases h3

def irow (r : List Int) : List Value := ints .i64 r

section
variable {H : Type} {enc : TypeId × Value → H} {P : Program} {w : World}

/-- one struct's cells are integers -/
theorem struct_ints {e : TypeId} {fs : Array Field} {n fuel : Nat} {cs : List Value} {x : DataW H × List MemPlace} (he : P.underlying e = some (.struct fs)) (hn : fs.size = n) (hC : P.cellsOf e = n) (hf : intFields P fs = true)
    (h : DataW.trod enc P w 0 (fun _ => true) true fuel e cs = some x) : ∃ r : List Int, r.length = n ∧ cs = irow r ∧ Wfs .i64 r := by
  obtain ⟨xs, m, _, _, hl, hxl, hfs⟩ := DataW.trod_struct he h
  rw [hC] at hl
  have each : ∀ j, j < n → ∃ k : Int, cs[j]? = some (.int .i64 k) ∧ (Lit.int .i64 k).wf = true := by
    intro j hj
    obtain ⟨f, hfj, ho, hc, hu⟩ := intFields_at hf (j := j) (by omega)
    have h1 := hfs j f hfj
    rw [ho, hc] at h1
    have hxj : xs[j]? = some xs[j] := List.getElem?_eq_getElem (by omega)
    rw [hxj] at h1
    obtain ⟨k, hk, _, hw⟩ := DataW.trod_int hu h1
    refine ⟨k, ?_, hw⟩
    have := congrArg (fun l => l[0]?) hk
    simp only [List.getElem?_cons_zero] at this
    rw [← this, List.getElem?_take, if_pos (by decide), List.getElem?_drop, Nat.add_zero]
  refine ⟨(List.range n).map fun j => intOf (cs.getD j undef), by simp, ?_, ?_⟩
  · apply List.ext_getElem?
    intro j
    by_cases hj : j < n
    · obtain ⟨k, hk, _⟩ := each j hj
      rw [hk]
      simp [irow, ints, hj, hk, List.getD, intOf]
    · rw [List.getElem?_eq_none (by omega), List.getElem?_eq_none (by simp [irow, ints]; omega)]
  · intro y hy
    obtain ⟨j, hj, rfl⟩ := List.mem_map.1 hy
    obtain ⟨k, hk, hw⟩ := each j (by simpa using hj)
    simp only [List.getD, hk, Option.getD_some, intOf]
    exact hw

/-- an argument that is a slice of structs of n integers -/
theorem open_rows {t e : TypeId} {fs : Array Field} {n : Nat} {v : Value} {d : DataW H} {ps : List MemPlace} (ht : P.underlying t = some (.slice e)) (he : P.underlying e = some (.struct fs)) (hn : fs.size = n) (hn0 : 0 < n) (hC : P.cellsOf e = n) (hf : intFields P fs = true)
    (hv : ∃ a len cap, v = .slice a len cap) (h : DataW.Trod enc P w 0 (fun _ => true) true t v d ps) (hlt : ∀ x ∈ ps, x.block < w.heap.size) :
    ∃ rs : List (List Int), (∀ r ∈ rs, r.length = n ∧ Wfs .i64 r) ∧ SlV w n v rs.length (rs.flatMap irow) ∧ ((d = .nil ∧ rs = []) ∨ ∃ (el sp : List (DataW H)), d = .slice el sp ∧ el.length = rs.length) := by
  obtain ⟨a0, len, cap, rfl⟩ := hv
  obtain ⟨fuel, hfu⟩ := h
  rcases open_slice ht hfu with ⟨hcs, hx⟩ | ⟨a, len', cap', m, k, D, Pl, hcs, _, hl, hm, hmm, hx, hi⟩
  · simp [Value.cells] at hcs
    obtain ⟨rfl, rfl, rfl⟩ := hcs
    simp only [Prod.mk.injEq] at hx
    exact ⟨[], by simp, SlV.nil _ _, .inl ⟨hx.1, rfl⟩⟩
  · simp [Value.cells] at hcs
    obtain ⟨rfl, rfl, rfl⟩ := hcs
    simp only [Prod.mk.injEq] at hx
    simp only [if_true] at hmm
    rw [hC] at hi hx
    have each : ∀ i, i < len → ∃ r : List Int, (r.length = n ∧ Wfs .i64 r) ∧ w.cells? 0 (a.add (i * n)) n = some (irow r) := by
      intro i hil
      obtain ⟨cs', hc, htr⟩ := hi i (by omega)
      obtain ⟨r, hr, hcr, hw⟩ := struct_ints he hn hC hf htr
      exact ⟨r, ⟨hr, hw⟩, by rw [hc, hcr]⟩
    obtain ⟨f, hff⟩ := choose_lt each
    have hlen : ∀ r ∈ (List.range len).map f, r.length = n ∧ Wfs .i64 r := by
      intro r hr
      obtain ⟨i, hi', rfl⟩ := List.mem_map.1 hr
      exact (hff i (by simpa using hi')).1
    have hflat : (((List.range len).map f).flatMap irow).length = len * n := by
      have : ∀ l : List (List Int), (∀ r ∈ l, r.length = n) → (l.flatMap irow).length = l.length * n := by
        intro l
        induction l with
        | nil => simp
        | cons r l ih =>
          intro hl'
          rw [List.flatMap_cons, List.length_append, ih (fun x hx => hl' x (by simp [hx])), List.length_cons, Nat.add_mul]
          have := hl' r (by simp)
          simp [irow, ints, this]
          omega
      rw [this _ fun r hr => (hlen r hr).1]
      simp
    refine ⟨(List.range len).map f, hlen, ⟨some a, cap, by simp, by simpa using hl, hm, by simpa using hflat, ?_⟩, .inr ⟨_, _, hx.1, by simp⟩⟩
    by_cases h0 : len = 0
    · subst h0
      exact Cells.nil _ _ _
    · obtain ⟨b, off, spot⟩ := a
      have hcell : ∀ i, i < len → ∀ j u, (irow (f i))[j]? = some u → w.cell? ((⟨b, off, spot⟩ : Addr).add (i * n + j)) = some u := by
        intro i hil j u hu
        have hj : j < n := by
          have := (List.getElem?_eq_some_iff.1 hu).1
          have h1 := (hff i hil).1.1
          simp [irow, ints, h1] at this
          exact this
        obtain ⟨_, _, hat⟩ := World.cells?_some (hff i hil).2
        have := hat j hj
        rw [Go.Deep.add_add] at this
        rw [this, hu]
      have hspot : spot = none := by
        have hr := (hff 0 (by omega)).1.1
        have hex : ∃ u, (irow (f 0))[0]? = some u := ⟨_, List.getElem?_eq_getElem (by simp [irow, ints]; omega)⟩
        obtain ⟨u, hu⟩ := hex
        have := hcell 0 (by omega) 0 u hu
        simpa [Addr.add] using World.cell?_spot this
      subst hspot
      refine ⟨b, off, fun _ => ⟨rfl, hlt (.cell b off) (by
        rw [hx.2]
        refine List.mem_append_left _ (MemPlace.mem_row.2 ⟨0, ?_, by simp⟩)
        exact Nat.mul_pos (by omega) hn0)⟩, fun j u hu => ?_⟩
      have hjl : j < len * n := by
        have := (List.getElem?_eq_some_iff.1 hu).1
        omega
      have hq : j / n < len := Nat.div_lt_of_lt_mul (by rw [Nat.mul_comm]; exact hjl)
      have hr : j % n < n := Nat.mod_lt _ hn0
      have hj : j = j / n * n + j % n := by have := Nat.div_add_mod j n; rw [Nat.mul_comm] at this; omega
      have hget : ((List.range len).map f)[j / n]? = some (f (j / n)) := by simp [hq]
      have key : ∀ (l : List (List Int)), (∀ r ∈ l, r.length = n) → ∀ (q s : Nat) (r : List Int), l[q]? = some r → s < n → (l.flatMap irow)[q * n + s]? = (irow r)[s]? := by
        intro l
        induction l with
        | nil => intro _ q s r h'; simp at h'
        | cons r0 l ih =>
          intro hl' q s r h' hs
          have h00 : (irow r0).length = n := by simp [irow, ints, hl' r0 (by simp)]
          rw [List.flatMap_cons]
          rcases q with _ | q
          · simp at h'
            subst h'
            rw [Nat.zero_mul, Nat.zero_add, List.getElem?_append_left (by omega)]
          · have e : (q + 1) * n + s = (irow r0).length + (q * n + s) := by rw [h00, Nat.add_mul]; omega
            rw [e, List.getElem?_append_right (by omega), Nat.add_sub_cancel_left]
            exact ih (fun x hx => hl' x (by simp [hx])) q s r (by simpa using h') hs
      rw [hj, key _ (fun r hr => (hlen r hr).1) _ _ _ hget hr] at hu
      have := hcell _ hq _ _ hu
      rw [← hj, Addr.add_lit] at this
      exact this
end
end Go.Proofs.YtpimcghmpbbckaaDoor


namespace Go.Proofs.YtpimcghmpbbckaaDoor
set_option linter.unusedVariables false
set_option linter.unusedSimpArgs false
set_option maxRecDepth 100000
open Go

def fieldsOf (P : Program) (t : TypeId) : Array Field := match P.underlying t with | some (.struct fs) => fs | _ => #[]
end Go.Proofs.YtpimcghmpbbckaaDoor
