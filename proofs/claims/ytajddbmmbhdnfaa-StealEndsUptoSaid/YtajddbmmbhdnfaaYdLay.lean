/-
  steal.lay, walked.
-/
import Derived.Test.YtajddbmmbhdnfaaYdPick4
import Derived.Test.YtajddbmmbhdnfaaTerm
namespace Go.Proofs.Ytajddbmmbhdnfaa
set_option linter.unusedVariables false
set_option linter.unusedSimpArgs false
set_option maxRecDepth 100000
open Go.RowKit

section
variable {w w' : World} {yb base lv : Nat} {y : Stl.Y} {P A Q D : Value} {gs : List Nat} {rs : List (Option Nat)}
/-- one more part is laid -/
theorem YA.laid {w'' : World} {P' : Value} {p : Stl.Part} (h : YA w yb base y lv P A Q D gs rs) (ho : w'.ownsRow base 100 7 P' (y.ps.length + 1) (partcs y.ps ++ partc p)) (hg : w.grownBy w' P.ownBlock) (hB : Blk w'' yb 74 [P', .int .i64 (lv : Int), A, Q, D]) (hg2 : w'.grownBy w'' (some yb)) : YA w'' yb base { y with ps := y.ps ++ [p] } lv P' A Q D gs rs := by
  have hyP : P.ownBlock ≠ some yb := own_blk_ne h.parts h.blk (by decide)
  have hB' : Blk w' yb 74 [P, .int .i64 (lv : Int), A, Q, D] := h.blk.grown hg (fun e => hyP e.symm)
  have k : Keeps (fun k => P.ownBlock = some k ∨ k = yb) w w'' := ((Keeps.of_grown hg).mono fun i e => .inl e.symm).trans ((Keeps.of_grown hg2).mono fun i e => .inr (by injection e))
  have hne : ∀ {e : TypeId} {size n : Nat} {v : Value} {xs : List Value}, w.ownsRow base e size v n xs → e ≠ 100 → e ≠ 74 → ∀ b, v.ownBlock = some b → ¬ (P.ownBlock = some b ∨ b = yb) := fun hr h1 h2 b e hs => by
    rcases hs with hs | hs
    · exact own_own_ne hr h.parts h1 e hs
    · exact own_blk_ne hr h.blk h2 (by rw [e, hs])
  refine ⟨hB, h.above, ?_, own_keeps h.ats k (hne h.ats (by decide) (by decide)), own_keeps h.qus k (hne h.qus (by decide) (by decide)), own_keeps h.log k (hne h.log (by decide) (by decide)), h.len1, h.len2, h.len3, fun i g r l a b c => ⟨(h.dq i g r l a b c).1.keeps k (fun e => ?_) (fun b' e hb' => ?_), (h.dq i g r l a b c).2⟩, h.gnd, h.apart, h.off⟩
  · have := own_keeps ho (Keeps.of_grown hg2) (fun b e e' => own_blk_ne ho hB' (by decide) (by rw [e, e']))
    simpa [partcs] using this
  · rcases e with e | e
    · exact (h.dq_ne a).2.1 e
    · exact (h.dq_ne a).1 e.symm
  · have hn := h.ring_ne (i := i) (b := b') (by rw [b, e])
    rcases hb' with e' | e'
    · exact hn.2.1 e'
    · exact hn.1 e'.symm
/-- the leaves are counted on -/
theorem YA.counted {lv' : Nat} (h : YA w yb base y lv P A Q D gs rs) (hB : Blk w' yb 74 [P, .int .i64 (lv' : Int), A, Q, D]) (hg2 : w.grownBy w' (some yb)) : YA w' yb base y lv' P A Q D gs rs := by
  have k : Keeps (fun k => k = yb) w w' := (Keeps.of_grown hg2).mono fun i e => by injection e
  have hne : ∀ {e : TypeId} {size n : Nat} {v : Value} {xs : List Value}, w.ownsRow base e size v n xs → e ≠ 74 → ∀ b, v.ownBlock = some b → ¬ b = yb := fun hr h2 b e hs => own_blk_ne hr h.blk h2 (by rw [e, hs])
  exact ⟨hB, h.above, own_keeps h.parts k (hne h.parts (by decide)), own_keeps h.ats k (hne h.ats (by decide)), own_keeps h.qus k (hne h.qus (by decide)), own_keeps h.log k (hne h.log (by decide)), h.len1, h.len2, h.len3, fun i g r l a b c => ⟨(h.dq i g r l a b c).1.keeps k (fun e => (h.dq_ne a).1 e.symm) (fun b' e hb' => (h.ring_ne (i := i) (b := b') (by rw [b, e])).1 hb'.symm), (h.dq i g r l a b c).2⟩, h.gnd, h.apart, h.off⟩
end

/-- what laying may turn -/
def LK (yb : Nat) (P : Value) (w w' : World) : Prop := Keeps (fun k => k = yb ∨ P.ownBlock = some k) w w'
def LayOK (t : Sp.T) : Prop := ∀ (w : World) (yb base lv B : Nat) (y : Stl.Y) (P A Q D : Value) (gs : List Nat) (rs : List (Option Nat)) (cs : List Value) (up : Int) (onR : Bool), YA w yb base y lv P A Q D gs rs → TmR B w cs t → B ≤ base → -1 ≤ up → up ≤ 4611686018427387904 → y.ps.length + Stl.sz t ≤ 274877906944 → lv + t.size ≤ 274877906944 →
  Calls Try.prog 27 #[.pointer (some ⟨yb, 0, none⟩), .agg cs.toArray, .int .i64 up, .bool onR] w fun e w' => e = .returned (.int .i64 (y.ps.length : Int)) ∧ ∃ P', YA w' yb base { y with ps := y.ps ++ Stl.partsOf t y.ps.length lv up onR } (lv + t.size) P' A Q D gs rs ∧ LK yb P w w' ∧ (∀ i, P'.ownBlock = some i → P.ownBlock = some i ∨ w.heap.size ≤ i)

theorem laid_ {w W w1 w2 : World} {yb base lv q5 : Nat} {y : Stl.Y} {P P1 A Q D : Value} {gs : List Nat} {rs : List (Option Nat)} {p : Stl.Part} {cs : List Value} (h : YA W yb base y lv P A Q D gs rs) (hB : Blk W q5 26 cs) (hk : Keeps (fun k => k = yb ∨ P.ownBlock = some k) w W) (ho : w1.ownsRow base 100 7 P1 (y.ps.length + 1) (partcs y.ps ++ partc p)) (hg : W.grownBy w1 P.ownBlock) (hv : P1.ownBlock = P.ownBlock ∨ P1.ownBlock = some (W.heap.size + 1)) (hY : Blk w2 yb 74 [P1, .int .i64 (lv : Int), A, Q, D]) (hg2 : w1.grownBy w2 (some yb)) :
    YA w2 yb base { y with ps := y.ps ++ [p] } lv P1 A Q D gs rs ∧ Blk w2 q5 26 cs ∧ LK yb P w w2 ∧ (∀ i, P1.ownBlock = some i → P.ownBlock = some i ∨ w.heap.size ≤ i) := by
  have k1 : Keeps (fun k => k = yb ∨ P.ownBlock = some k) W w2 := ((Keeps.of_grown hg).mono fun i e => .inr e.symm).trans ((Keeps.of_grown hg2).mono fun i e => .inl (by injection e))
  refine ⟨h.laid ho hg hY hg2, hB.keeps k1 (fun e => e.elim (fun e => Blk.type_ne h.blk hB (by decide) e.symm) (fun e => own_blk_ne h.parts hB (by decide) e)), hk.trans k1, fun i hi => ?_⟩
  rcases hv with e | e
  · exact .inl (by rw [← e, hi])
  · rw [e] at hi
    injection hi with hi
    have := hk.size
    exact .inr (by omega)


/-- a part is laid in its place -/
theorem put_ {w W w4 : World} {yb base lv N pg cap n : Nat} {y : Stl.Y} {P A Q D : Value} {gs : List Nat} {rs : List (Option Nat)} {p : Stl.Part} {ps : List Stl.Part} (h : YA W yb base y lv (.slice (some ⟨pg, 0, none⟩) N cap) A Q D gs rs) (hk : LK yb P w W) (hf : ∀ i, (Value.slice (some ⟨pg, 0, none⟩) N cap).ownBlock = some i → P.ownBlock = some i ∨ w.heap.size ≤ i) (hn : n < y.ps.length) (hps : y.ps.set n p = ps)
    (ho : w4.ownsRow base 100 7 (.slice (some ⟨pg, 0, none⟩) N cap) N ((partcs y.ps).take (n * 7) ++ partc p ++ (partcs y.ps).drop (n * 7 + 7))) (hg : W.grownBy w4 (some pg)) : YA w4 yb base { y with ps := ps } lv (.slice (some ⟨pg, 0, none⟩) N cap) A Q D gs rs ∧ LK yb P w w4 := by
  subst hps
  have hN : N = y.ps.length := own_len h.parts
  subst hN
  refine ⟨h.turned rfl (by simp) (by rw [← partcs_put _ _ _ hn]; exact ho) hg, hk.step (Keeps.of_grown hg) fun i hi hs => ?_⟩
  injection hs with hs
  rcases hf i (by rw [hs]; rfl) with e | e
  · exact .inr e
  · omega





set_option maxHeartbeats 4000000 in
theorem lay_nil : LayOK .nil := by
  intro w yb base lv B y P A Q D gs rs cs up onR h hT hB hu1 hu2 hs hl
  cases hT with
  | nil k c b l A0 m cap hm hcap hk1 hk2 =>
  unfold tcells
  unfold maxLen at hcap
  have e1 : (k == 1) = false := by simpa using hk1
  by_cases k2 : k = 2
  · subst k2
    have hm2 : ¬ 2 ≤ m := fun h => hk2 ⟨.inl rfl, h⟩
    clear hk2 hk1
    have hB5 := Blk.new w 26 [.int .i64 2, .int .i64 c, .bool b, .int .i64 l, .slice A0 m cap]
    have hb5 : Below w.heap.size w (w.alloc (.cells ([.int .i64 2, .int .i64 c, .bool b, .int .i64 l, .slice A0 m cap] : List Value).toArray 26)) := below_alloc (Below.refl _ _) _
    have h5 := h.below hb5
    have hkw : Keeps (fun k => k = yb ∨ P.ownBlock = some k) w (w.alloc (.cells ([.int .i64 2, .int .i64 c, .bool b, .int .i64 l, .slice A0 m cap] : List Value).toArray 26)) := (Keeps.refl _ w).alloc _
    obtain ⟨q5, hq5⟩ : ∃ q5, q5 = w.heap.size := ⟨_, rfl⟩
    have n63 : y.ps.length + 1 ≤ maxLen := by unfold maxLen; have := Stl.sz_pos .nil; omega
    have n47 : (y.ps.length + 1) * 48 ≤ 140737488355328 := by have := Stl.sz_pos .nil; omega
    obtain ⟨PA, pn, pc, hPe⟩ : ∃ PA pn pc, P = .slice PA pn pc := by
      obtain ⟨A', c', e, -, -⟩ := own_slice h.parts
      exact ⟨_, _, _, e⟩
    have hpn : pn = y.ps.length := by have := h.parts; rw [hPe] at this; exact own_len this
    subst hPe
    subst hpn
    go_enter Try.func27, Try.ntmps27
    go_upto_region 1 with (fail)
    rw [← hq5] at hB5 ⊢
    have HQ := Lib.hid hq5
    generalize (w.alloc (.cells ([.int .i64 2, .int .i64 c, .bool b, .int .i64 l, .slice A0 m cap] : List Value).toArray 26)) = W at hB5 hb5 h5 hkw ⊢
    clear hq5
    obtain ⟨c0, -, -, -, -⟩ := h5.heads
    have lyb := h5.lt
    have hwl := h5.base_le
    have HPW := Lib.hid (fun w1 (hg : W.grownBy w1 (Value.slice PA y.ps.length pc).ownBlock) => (h5.blk.grown hg (fun e => own_blk_ne h5.parts h5.blk (by decide) e.symm) : Blk w1 yb _ _))
    have H5 := Lib.hid (And.intro h5 (And.intro hB5 hkw))
    have hrow := h5.parts
    clear h5 hB5 hkw
    go_wp2_with (first
      | (at_builtin; refine wp_push W _ _ base _ _ _ _ _ Try.underlying70 info_part rfl (by decide) hrow (partc ⟨0, -1, 0, 0, up, onR, false⟩) rfl (partc_one _) n63 n47 hwl rfl rfl rfl rfl ?_; intro P1 w1 hown1 hg1 hv1 _; have hY1 := HPW.out w1 hg1; have hown1' := hown1; obtain ⟨pg, pb, rfl, hle1, hm1, hbp⟩ := own_addr hown1' (Nat.succ_pos _); clear hown1')
      | (refine wpl_set_blk hY1 0 _ (by kernel_rfl) (by simp) rfl rfl rfl rfl rfl rfl ?_; intro w2 hY2 hg2; simp only [List.set_cons_zero] at hY2; have h2 := laid_ H5.out.1 H5.out.2.1 H5.out.2.2 hown1 hg1 hv1 hY2 hg2; have t0 := (h2.2.1.cell 0).trans rfl; have t1 := (h2.2.1.cell 1).trans rfl; have t2 := (h2.2.1.cell 2).trans rfl; have t3 := (h2.2.1.cell 3).trans rfl; have t4 := (h2.2.1.cell 4).trans rfl; have lq := h2.2.1.lt; have ly2 := h2.1.lt; clear hown1 hg1 hv1 hY1 hY2 hg2 c0 hle1 hm1 hbp))
    obtain ⟨q10, hq10⟩ : ∃ q10, q10 = w2.heap.size := ⟨_, rfl⟩
    have B10 := Blk.new w2 100 [.int .i64 0, .int .i64 (-1), .int .i64 0, .int .i64 0, .int .i64 up, .bool onR, .bool false]
    have hW2 := (show LK yb _ w _ from h2.2.2.1.alloc (.cells ([.int .i64 0, .int .i64 (-1), .int .i64 0, .int .i64 0, .int .i64 up, .bool onR, .bool false] : List Value).toArray 100))
    have hY2 := h2.1.below (below_alloc (Below.refl _ _) (.cells ([.int .i64 0, .int .i64 (-1), .int .i64 0, .int .i64 0, .int .i64 up, .bool onR, .bool false] : List Value).toArray 100))
    have hb2 := below_alloc (Below.refl w2.heap.size w2) (.cells ([.int .i64 0, .int .i64 (-1), .int .i64 0, .int .i64 0, .int .i64 up, .bool onR, .bool false] : List Value).toArray 100)
    have hf2 := h2.2.2.2
    rw [← hq10] at B10 ⊢
    have HQ10 := Lib.hid hq10
    clear hq10
    generalize (w2.alloc (.cells ([.int .i64 0, .int .i64 (-1), .int .i64 0, .int .i64 0, .int .i64 up, .bool onR, .bool false] : List Value).toArray 100)) = W2 at B10 hb2 hW2 hY2 ⊢
    have g0 : W2.cell? ⟨q10, 0, none⟩ = some (.int .i64 (0)) := (B10.cell 0).trans rfl
    have g1 : W2.cell? ⟨q10, 1, none⟩ = some (.int .i64 (-1)) := (B10.cell 1).trans rfl
    have g2 : W2.cell? ⟨q10, 2, none⟩ = some (.int .i64 (0)) := (B10.cell 2).trans rfl
    have g3 : W2.cell? ⟨q10, 3, none⟩ = some (.int .i64 (0)) := (B10.cell 3).trans rfl
    have g4 : W2.cell? ⟨q10, 4, none⟩ = some (.int .i64 up) := (B10.cell 4).trans rfl
    have g5 : W2.cell? ⟨q10, 5, none⟩ = some (.bool onR) := (B10.cell 5).trans rfl
    have g6 : W2.cell? ⟨q10, 6, none⟩ = some (.bool false) := (B10.cell 6).trans rfl
    obtain ⟨N, hN⟩ : ∃ N, N = y.ps.length + 1 := ⟨_, rfl⟩
    have hnN : y.ps.length < N := by omega
    have hrow := hY2.parts
    simp only [List.length_append, List.length_cons, List.length_nil, Nat.zero_add] at hrow
    rw [← hN] at hY2 hf2 hrow
    have HNN := Lib.hid hN
    clear hN
    obtain ⟨c0, -, -, -, -⟩ := hY2.heads
    (refine still_last (by kernel_rfl) (by kernel_rfl) ?_; simp only [List.length_cons, List.length_nil, Nat.reduceAdd, Nat.reduceSub, List.take_succ_cons, List.take_zero, List.drop_succ_cons, List.drop_zero]; repeat still_step; try refine wpStill_nil ?_)
    refine wpl_put_row (hrow.drewN_ 1) (y.ps.length * 7) 7 (partc ⟨0, -1, 0, 0, up, onR, false⟩) (by kernel_rfl) rfl (by omega) (partc_one ⟨0, -1, 0, 0, up, onR, false⟩) (by rfl) (by rfl) (by rfl) (by rfl) ?_
    intro w4 hown4 hg4
    have hE := put_ (p := ⟨0, -1, 0, 0, up, onR, false⟩) (ps := y.ps ++ [⟨0, -1, 0, 0, up, onR, false⟩]) (hY2.below (below_drewN (Below.refl _ _) 1)) (hW2.drewN 1) hf2 (by have := own_len hrow; simp only [slLen] at this; simp) (by simp) hown4 hg4
    have HE := Lib.hid hE
    clear hE hown4 hg4 hrow hY2 hW2 B10 g0 g1 g2 g3 g4 g5 g6 c0
    go_wp2
    go_ret
    exact ⟨rfl, _, HE.out.1, HE.out.2, hf2⟩
  · have e2 : (k == 2) = false := by simpa using k2
    by_cases k3 : k = 3
    · subst k3
      have hm2 : ¬ 2 ≤ m := fun h => hk2 ⟨.inr rfl, h⟩
      clear hk2 hk1
      have hB5 := Blk.new w 26 [.int .i64 3, .int .i64 c, .bool b, .int .i64 l, .slice A0 m cap]
      have hb5 : Below w.heap.size w (w.alloc (.cells ([.int .i64 3, .int .i64 c, .bool b, .int .i64 l, .slice A0 m cap] : List Value).toArray 26)) := below_alloc (Below.refl _ _) _
      have h5 := h.below hb5
      have hkw : Keeps (fun k => k = yb ∨ P.ownBlock = some k) w (w.alloc (.cells ([.int .i64 3, .int .i64 c, .bool b, .int .i64 l, .slice A0 m cap] : List Value).toArray 26)) := (Keeps.refl _ w).alloc _
      obtain ⟨q5, hq5⟩ : ∃ q5, q5 = w.heap.size := ⟨_, rfl⟩
      have n63 : y.ps.length + 1 ≤ maxLen := by unfold maxLen; have := Stl.sz_pos .nil; omega
      have n47 : (y.ps.length + 1) * 48 ≤ 140737488355328 := by have := Stl.sz_pos .nil; omega
      obtain ⟨PA, pn, pc, hPe⟩ : ∃ PA pn pc, P = .slice PA pn pc := by
        obtain ⟨A', c', e, -, -⟩ := own_slice h.parts
        exact ⟨_, _, _, e⟩
      have hpn : pn = y.ps.length := by have := h.parts; rw [hPe] at this; exact own_len this
      subst hPe
      subst hpn
      go_enter Try.func27, Try.ntmps27
      go_upto_region 1 with (fail)
      rw [← hq5] at hB5 ⊢
      have HQ := Lib.hid hq5
      generalize (w.alloc (.cells ([.int .i64 3, .int .i64 c, .bool b, .int .i64 l, .slice A0 m cap] : List Value).toArray 26)) = W at hB5 hb5 h5 hkw ⊢
      clear hq5
      obtain ⟨c0, -, -, -, -⟩ := h5.heads
      have lyb := h5.lt
      have hwl := h5.base_le
      have HPW := Lib.hid (fun w1 (hg : W.grownBy w1 (Value.slice PA y.ps.length pc).ownBlock) => (h5.blk.grown hg (fun e => own_blk_ne h5.parts h5.blk (by decide) e.symm) : Blk w1 yb _ _))
      have H5 := Lib.hid (And.intro h5 (And.intro hB5 hkw))
      have hrow := h5.parts
      clear h5 hB5 hkw
      go_wp2_with (first
        | (at_builtin; refine wp_push W _ _ base _ _ _ _ _ Try.underlying70 info_part rfl (by decide) hrow (partc ⟨0, -1, 0, 0, up, onR, false⟩) rfl (partc_one _) n63 n47 hwl rfl rfl rfl rfl ?_; intro P1 w1 hown1 hg1 hv1 _; have hY1 := HPW.out w1 hg1; have hown1' := hown1; obtain ⟨pg, pb, rfl, hle1, hm1, hbp⟩ := own_addr hown1' (Nat.succ_pos _); clear hown1')
        | (refine wpl_set_blk hY1 0 _ (by kernel_rfl) (by simp) rfl rfl rfl rfl rfl rfl ?_; intro w2 hY2 hg2; simp only [List.set_cons_zero] at hY2; have h2 := laid_ H5.out.1 H5.out.2.1 H5.out.2.2 hown1 hg1 hv1 hY2 hg2; have t0 := (h2.2.1.cell 0).trans rfl; have t1 := (h2.2.1.cell 1).trans rfl; have t2 := (h2.2.1.cell 2).trans rfl; have t3 := (h2.2.1.cell 3).trans rfl; have t4 := (h2.2.1.cell 4).trans rfl; have lq := h2.2.1.lt; have ly2 := h2.1.lt; clear hown1 hg1 hv1 hY1 hY2 hg2 c0 hle1 hm1 hbp))
      obtain ⟨q10, hq10⟩ : ∃ q10, q10 = w2.heap.size := ⟨_, rfl⟩
      have B10 := Blk.new w2 100 [.int .i64 0, .int .i64 (-1), .int .i64 0, .int .i64 0, .int .i64 up, .bool onR, .bool false]
      have hW2 := (show LK yb _ w _ from h2.2.2.1.alloc (.cells ([.int .i64 0, .int .i64 (-1), .int .i64 0, .int .i64 0, .int .i64 up, .bool onR, .bool false] : List Value).toArray 100))
      have hY2 := h2.1.below (below_alloc (Below.refl _ _) (.cells ([.int .i64 0, .int .i64 (-1), .int .i64 0, .int .i64 0, .int .i64 up, .bool onR, .bool false] : List Value).toArray 100))
      have hb2 := below_alloc (Below.refl w2.heap.size w2) (.cells ([.int .i64 0, .int .i64 (-1), .int .i64 0, .int .i64 0, .int .i64 up, .bool onR, .bool false] : List Value).toArray 100)
      have hf2 := h2.2.2.2
      rw [← hq10] at B10 ⊢
      have HQ10 := Lib.hid hq10
      clear hq10
      generalize (w2.alloc (.cells ([.int .i64 0, .int .i64 (-1), .int .i64 0, .int .i64 0, .int .i64 up, .bool onR, .bool false] : List Value).toArray 100)) = W2 at B10 hb2 hW2 hY2 ⊢
      have g0 : W2.cell? ⟨q10, 0, none⟩ = some (.int .i64 (0)) := (B10.cell 0).trans rfl
      have g1 : W2.cell? ⟨q10, 1, none⟩ = some (.int .i64 (-1)) := (B10.cell 1).trans rfl
      have g2 : W2.cell? ⟨q10, 2, none⟩ = some (.int .i64 (0)) := (B10.cell 2).trans rfl
      have g3 : W2.cell? ⟨q10, 3, none⟩ = some (.int .i64 (0)) := (B10.cell 3).trans rfl
      have g4 : W2.cell? ⟨q10, 4, none⟩ = some (.int .i64 up) := (B10.cell 4).trans rfl
      have g5 : W2.cell? ⟨q10, 5, none⟩ = some (.bool onR) := (B10.cell 5).trans rfl
      have g6 : W2.cell? ⟨q10, 6, none⟩ = some (.bool false) := (B10.cell 6).trans rfl
      obtain ⟨N, hN⟩ : ∃ N, N = y.ps.length + 1 := ⟨_, rfl⟩
      have hnN : y.ps.length < N := by omega
      have hrow := hY2.parts
      simp only [List.length_append, List.length_cons, List.length_nil, Nat.zero_add] at hrow
      rw [← hN] at hY2 hf2 hrow
      have HNN := Lib.hid hN
      clear hN
      obtain ⟨c0, -, -, -, -⟩ := hY2.heads
      (refine still_last (by kernel_rfl) (by kernel_rfl) ?_; simp only [List.length_cons, List.length_nil, Nat.reduceAdd, Nat.reduceSub, List.take_succ_cons, List.take_zero, List.drop_succ_cons, List.drop_zero]; repeat still_step; try refine wpStill_nil ?_)
      refine wpl_put_row (hrow.drewN_ 1) (y.ps.length * 7) 7 (partc ⟨0, -1, 0, 0, up, onR, false⟩) (by kernel_rfl) rfl (by omega) (partc_one ⟨0, -1, 0, 0, up, onR, false⟩) (by rfl) (by rfl) (by rfl) (by rfl) ?_
      intro w4 hown4 hg4
      have hE := put_ (p := ⟨0, -1, 0, 0, up, onR, false⟩) (ps := y.ps ++ [⟨0, -1, 0, 0, up, onR, false⟩]) (hY2.below (below_drewN (Below.refl _ _) 1)) (hW2.drewN 1) hf2 (by have := own_len hrow; simp only [slLen] at this; simp) (by simp) hown4 hg4
      have HE := Lib.hid hE
      clear hE hown4 hg4 hrow hY2 hW2 B10 g0 g1 g2 g3 g4 g5 g6 c0
      go_wp2
      go_ret
      exact ⟨rfl, _, HE.out.1, HE.out.2, hf2⟩
    · have e3 : (k == 3) = false := by simpa using k3
      clear hk2 hk1
      have hB5 := Blk.new w 26 [.int .i64 k, .int .i64 c, .bool b, .int .i64 l, .slice A0 m cap]
      have hb5 : Below w.heap.size w (w.alloc (.cells ([.int .i64 k, .int .i64 c, .bool b, .int .i64 l, .slice A0 m cap] : List Value).toArray 26)) := below_alloc (Below.refl _ _) _
      have h5 := h.below hb5
      have hkw : Keeps (fun k => k = yb ∨ P.ownBlock = some k) w (w.alloc (.cells ([.int .i64 k, .int .i64 c, .bool b, .int .i64 l, .slice A0 m cap] : List Value).toArray 26)) := (Keeps.refl _ w).alloc _
      obtain ⟨q5, hq5⟩ : ∃ q5, q5 = w.heap.size := ⟨_, rfl⟩
      have n63 : y.ps.length + 1 ≤ maxLen := by unfold maxLen; have := Stl.sz_pos .nil; omega
      have n47 : (y.ps.length + 1) * 48 ≤ 140737488355328 := by have := Stl.sz_pos .nil; omega
      obtain ⟨PA, pn, pc, hPe⟩ : ∃ PA pn pc, P = .slice PA pn pc := by
        obtain ⟨A', c', e, -, -⟩ := own_slice h.parts
        exact ⟨_, _, _, e⟩
      have hpn : pn = y.ps.length := by have := h.parts; rw [hPe] at this; exact own_len this
      subst hPe
      subst hpn
      go_enter Try.func27, Try.ntmps27
      go_upto_region 1 with (fail)
      rw [← hq5] at hB5 ⊢
      have HQ := Lib.hid hq5
      generalize (w.alloc (.cells ([.int .i64 k, .int .i64 c, .bool b, .int .i64 l, .slice A0 m cap] : List Value).toArray 26)) = W at hB5 hb5 h5 hkw ⊢
      clear hq5
      obtain ⟨c0, -, -, -, -⟩ := h5.heads
      have lyb := h5.lt
      have hwl := h5.base_le
      have HPW := Lib.hid (fun w1 (hg : W.grownBy w1 (Value.slice PA y.ps.length pc).ownBlock) => (h5.blk.grown hg (fun e => own_blk_ne h5.parts h5.blk (by decide) e.symm) : Blk w1 yb _ _))
      have H5 := Lib.hid (And.intro h5 (And.intro hB5 hkw))
      have hrow := h5.parts
      clear h5 hB5 hkw
      go_wp2_with (first
        | (at_builtin; refine wp_push W _ _ base _ _ _ _ _ Try.underlying70 info_part rfl (by decide) hrow (partc ⟨0, -1, 0, 0, up, onR, false⟩) rfl (partc_one _) n63 n47 hwl rfl rfl rfl rfl ?_; intro P1 w1 hown1 hg1 hv1 _; have hY1 := HPW.out w1 hg1; have hown1' := hown1; obtain ⟨pg, pb, rfl, hle1, hm1, hbp⟩ := own_addr hown1' (Nat.succ_pos _); clear hown1')
        | (refine wpl_set_blk hY1 0 _ (by kernel_rfl) (by simp) rfl rfl rfl rfl rfl rfl ?_; intro w2 hY2 hg2; simp only [List.set_cons_zero] at hY2; have h2 := laid_ H5.out.1 H5.out.2.1 H5.out.2.2 hown1 hg1 hv1 hY2 hg2; have t0 := (h2.2.1.cell 0).trans rfl; have t1 := (h2.2.1.cell 1).trans rfl; have t2 := (h2.2.1.cell 2).trans rfl; have t3 := (h2.2.1.cell 3).trans rfl; have t4 := (h2.2.1.cell 4).trans rfl; have lq := h2.2.1.lt; have ly2 := h2.1.lt; clear hown1 hg1 hv1 hY1 hY2 hg2 c0 hle1 hm1 hbp))
      obtain ⟨q10, hq10⟩ : ∃ q10, q10 = w2.heap.size := ⟨_, rfl⟩
      have B10 := Blk.new w2 100 [.int .i64 0, .int .i64 (-1), .int .i64 0, .int .i64 0, .int .i64 up, .bool onR, .bool false]
      have hW2 := (show LK yb _ w _ from h2.2.2.1.alloc (.cells ([.int .i64 0, .int .i64 (-1), .int .i64 0, .int .i64 0, .int .i64 up, .bool onR, .bool false] : List Value).toArray 100))
      have hY2 := h2.1.below (below_alloc (Below.refl _ _) (.cells ([.int .i64 0, .int .i64 (-1), .int .i64 0, .int .i64 0, .int .i64 up, .bool onR, .bool false] : List Value).toArray 100))
      have hb2 := below_alloc (Below.refl w2.heap.size w2) (.cells ([.int .i64 0, .int .i64 (-1), .int .i64 0, .int .i64 0, .int .i64 up, .bool onR, .bool false] : List Value).toArray 100)
      have hf2 := h2.2.2.2
      rw [← hq10] at B10 ⊢
      have HQ10 := Lib.hid hq10
      clear hq10
      generalize (w2.alloc (.cells ([.int .i64 0, .int .i64 (-1), .int .i64 0, .int .i64 0, .int .i64 up, .bool onR, .bool false] : List Value).toArray 100)) = W2 at B10 hb2 hW2 hY2 ⊢
      have g0 : W2.cell? ⟨q10, 0, none⟩ = some (.int .i64 (0)) := (B10.cell 0).trans rfl
      have g1 : W2.cell? ⟨q10, 1, none⟩ = some (.int .i64 (-1)) := (B10.cell 1).trans rfl
      have g2 : W2.cell? ⟨q10, 2, none⟩ = some (.int .i64 (0)) := (B10.cell 2).trans rfl
      have g3 : W2.cell? ⟨q10, 3, none⟩ = some (.int .i64 (0)) := (B10.cell 3).trans rfl
      have g4 : W2.cell? ⟨q10, 4, none⟩ = some (.int .i64 up) := (B10.cell 4).trans rfl
      have g5 : W2.cell? ⟨q10, 5, none⟩ = some (.bool onR) := (B10.cell 5).trans rfl
      have g6 : W2.cell? ⟨q10, 6, none⟩ = some (.bool false) := (B10.cell 6).trans rfl
      obtain ⟨N, hN⟩ : ∃ N, N = y.ps.length + 1 := ⟨_, rfl⟩
      have hnN : y.ps.length < N := by omega
      have hrow := hY2.parts
      simp only [List.length_append, List.length_cons, List.length_nil, Nat.zero_add] at hrow
      rw [← hN] at hY2 hf2 hrow
      have HNN := Lib.hid hN
      clear hN
      obtain ⟨c0, -, -, -, -⟩ := hY2.heads
      (refine still_last (by kernel_rfl) (by kernel_rfl) ?_; simp only [List.length_cons, List.length_nil, Nat.reduceAdd, Nat.reduceSub, List.take_succ_cons, List.take_zero, List.drop_succ_cons, List.drop_zero]; repeat still_step; try refine wpStill_nil ?_)
      refine wpl_put_row (hrow.drewN_ 1) (y.ps.length * 7) 7 (partc ⟨0, -1, 0, 0, up, onR, false⟩) (by kernel_rfl) rfl (by omega) (partc_one ⟨0, -1, 0, 0, up, onR, false⟩) (by rfl) (by rfl) (by rfl) (by rfl) ?_
      intro w4 hown4 hg4
      have hE := put_ (p := ⟨0, -1, 0, 0, up, onR, false⟩) (ps := y.ps ++ [⟨0, -1, 0, 0, up, onR, false⟩]) (hY2.below (below_drewN (Below.refl _ _) 1)) (hW2.drewN 1) hf2 (by have := own_len hrow; simp only [slLen] at this; simp) (by simp) hown4 hg4
      have HE := Lib.hid hE
      clear hE hown4 hg4 hrow hY2 hW2 B10 g0 g1 g2 g3 g4 g5 g6 c0
      go_wp2
      go_ret
      exact ⟨rfl, _, HE.out.1, HE.out.2, hf2⟩

set_option maxHeartbeats 4000000 in
theorem lay_one (c : Int) (b : Bool) (l : Int) : LayOK (.one c b l) := by
  intro w yb base lv B y P A Q D gs rs cs up onR h hT hB hu1 hu2 hs hl
  have hl' : lv + 1 ≤ 274877906944 := hl
  cases hT with
  | one c b l A0 m cap hm hcap =>
  unfold tcells
  unfold maxLen at hcap
  have hB5 := Blk.new w 26 [.int .i64 1, .int .i64 c, .bool b, .int .i64 l, .slice A0 m cap]
  have hb5 : Below w.heap.size w (w.alloc (.cells ([.int .i64 1, .int .i64 c, .bool b, .int .i64 l, .slice A0 m cap] : List Value).toArray 26)) := below_alloc (Below.refl _ _) _
  have h5 := h.below hb5
  have hkw : Keeps (fun k => k = yb ∨ P.ownBlock = some k) w (w.alloc (.cells ([.int .i64 1, .int .i64 c, .bool b, .int .i64 l, .slice A0 m cap] : List Value).toArray 26)) := (Keeps.refl _ w).alloc _
  obtain ⟨q5, hq5⟩ : ∃ q5, q5 = w.heap.size := ⟨_, rfl⟩
  have n63 : y.ps.length + 1 ≤ maxLen := by unfold maxLen; have := Stl.sz_pos (Sp.T.one c b l); omega
  have n47 : (y.ps.length + 1) * 48 ≤ 140737488355328 := by have := Stl.sz_pos (Sp.T.one c b l); omega
  obtain ⟨PA, pn, pc, hPe⟩ : ∃ PA pn pc, P = .slice PA pn pc := by
    obtain ⟨A', c', e, -, -⟩ := own_slice h.parts
    exact ⟨_, _, _, e⟩
  have hpn : pn = y.ps.length := by have := h.parts; rw [hPe] at this; exact own_len this
  subst hPe
  subst hpn
  go_enter Try.func27, Try.ntmps27
  go_upto_region 1 with (fail)
  rw [← hq5] at hB5 ⊢
  have HQ := Lib.hid hq5
  generalize (w.alloc (.cells ([.int .i64 1, .int .i64 c, .bool b, .int .i64 l, .slice A0 m cap] : List Value).toArray 26)) = W at hB5 hb5 h5 hkw ⊢
  clear hq5
  obtain ⟨c0, -, -, -, -⟩ := h5.heads
  have lyb := h5.lt
  have hwl := h5.base_le
  have HPW := Lib.hid (fun w1 (hg : W.grownBy w1 (Value.slice PA y.ps.length pc).ownBlock) => (h5.blk.grown hg (fun e => own_blk_ne h5.parts h5.blk (by decide) e.symm) : Blk w1 yb _ _))
  have H5 := Lib.hid (And.intro h5 (And.intro hB5 hkw))
  have hrow := h5.parts
  clear h5 hB5 hkw
  go_wp2_with (first
    | (at_builtin; refine wp_push W _ _ base _ _ _ _ _ Try.underlying70 info_part rfl (by decide) hrow (partc ⟨0, -1, 0, 0, up, onR, false⟩) rfl (partc_one _) n63 n47 hwl rfl rfl rfl rfl ?_; intro P1 w1 hown1 hg1 hv1 _; have hY1 := HPW.out w1 hg1; have hown1' := hown1; obtain ⟨pg, pb, rfl, hle1, hm1, hbp⟩ := own_addr hown1' (Nat.succ_pos _); clear hown1')
    | (refine wpl_set_blk hY1 0 _ (by kernel_rfl) (by simp) rfl rfl rfl rfl rfl rfl ?_; intro w2 hY2 hg2; simp only [List.set_cons_zero] at hY2; have h2 := laid_ H5.out.1 H5.out.2.1 H5.out.2.2 hown1 hg1 hv1 hY2 hg2; have t0 := (h2.2.1.cell 0).trans rfl; have t1 := (h2.2.1.cell 1).trans rfl; have t2 := (h2.2.1.cell 2).trans rfl; have t3 := (h2.2.1.cell 3).trans rfl; have t4 := (h2.2.1.cell 4).trans rfl; have lq := h2.2.1.lt; have ly2 := h2.1.lt; clear hown1 hg1 hv1 hY1 hY2 hg2 c0 hle1 hm1 hbp))
  obtain ⟨q10, hq10⟩ : ∃ q10, q10 = w2.heap.size := ⟨_, rfl⟩
  have B10 := Blk.new w2 100 [.int .i64 0, .int .i64 (-1), .int .i64 0, .int .i64 0, .int .i64 up, .bool onR, .bool false]
  have hW2 := (show LK yb _ w _ from h2.2.2.1.alloc (.cells ([.int .i64 0, .int .i64 (-1), .int .i64 0, .int .i64 0, .int .i64 up, .bool onR, .bool false] : List Value).toArray 100))
  have hY2 := h2.1.below (below_alloc (Below.refl _ _) (.cells ([.int .i64 0, .int .i64 (-1), .int .i64 0, .int .i64 0, .int .i64 up, .bool onR, .bool false] : List Value).toArray 100))
  have hb2 := below_alloc (Below.refl w2.heap.size w2) (.cells ([.int .i64 0, .int .i64 (-1), .int .i64 0, .int .i64 0, .int .i64 up, .bool onR, .bool false] : List Value).toArray 100)
  have hf2 := h2.2.2.2
  rw [← hq10] at B10 ⊢
  have HQ10 := Lib.hid hq10
  clear hq10
  generalize (w2.alloc (.cells ([.int .i64 0, .int .i64 (-1), .int .i64 0, .int .i64 0, .int .i64 up, .bool onR, .bool false] : List Value).toArray 100)) = W2 at B10 hb2 hW2 hY2 ⊢
  have l10 : q10 = w2.heap.size := HQ10.out
  have ny : q10 ≠ yb := by omega
  have ny' : yb ≠ q10 := by omega
  have n5 : q10 ≠ q5 := by omega
  have n5' : q5 ≠ q10 := by omega
  have hl10 := B10.lt
  obtain ⟨-, a1, -, -, -⟩ := hY2.heads
  have g0 : W2.cell? ⟨q5, 0, none⟩ = some (.int .i64 1) := (((h2.2.1).below hb2).cell 0).trans rfl
  have f0 := B10.frozen 0
  have f1 := B10.frozen 1
  have k0 : W2.cell? ⟨q10, 0, none⟩ = some (.int .i64 0) := (B10.cell 0).trans rfl
  have k1 : W2.cell? ⟨q10, 1, none⟩ = some (.int .i64 (-1)) := (B10.cell 1).trans rfl
  have HH := Lib.hid (And.intro h2 (And.intro hb2 (And.intro hf2 (And.intro l10 B10))))
  clear h2 hb2 hf2 l10 B10 hY2 hW2 t0 t1 t2 t3 t4
  go_cut [] (fun wx => Below w2.heap.size w2 wx ∧ Blk wx q10 100 [.int .i64 1, .int .i64 (lv : Int), .int .i64 0, .int .i64 0, .int .i64 up, .bool onR, .bool false])
  case first =>
    go_region
    have hg1 := grown_setCell W2 q10 0 (.int .i64 1)
    have hg2 := grown_setCell (W2.setCell ⟨q10, 0, none⟩ (.int .i64 1)) q10 1 (.int .i64 (lv : Int))
    have hz1 := hg1.size
    have hz2 := HH.out.2.1.size
    have hz3 := HH.out.2.2.2.1
    have hbE := ((HH.out.2.1.trans (below_of_grown hg1 hz2 (by omega))).trans (below_of_grown hg2 (by omega) (by omega))).drew
    have BE := ((HH.out.2.2.2.2.set_ 0 (.int .i64 1)).set_ 1 (.int .i64 (lv : Int))).drew
    simp only [List.set_cons_zero, List.set_cons_succ] at BE
    go_wp2_with fail
    go_meet
    case rel => exact ⟨hbE, BE⟩
  case rest =>
    obtain ⟨hb3, B3⟩ := hcut
    have hY3 := HH.out.1.1.below hb3
    have hW3 := (show LK yb _ w _ from HH.out.1.2.2.1.trans (Keeps.of_below hb3 _))
    obtain ⟨-, a1, -, -, -⟩ := hY3.heads
    have hB := hY3.blk
    have hf3 := HH.out.2.2.1
    have HY3 := Lib.hid (And.intro hY3 (And.intro hW3 (And.intro B3 hf3)))
    have hn10 : yb ≠ q10 := ny'
    clear hY3 hW3 B3 hb3 hf3 HH
    go_wp2_with (refine wpl_set_blk hB 1 (.int .i64 ((lv + 1 : Nat) : Int)) (by kernel_rfl) (by simp) (by rfl) (by rfl) (by rfl) (by rfl) (by rfl) (by first | rfl | simp) ?_; intro wx hBx hgx)
    simp only [List.set_cons_zero, List.set_cons_succ] at hBx
    have hY2 := HY3.out.1.counted hBx hgx
    have hW2 := (show LK yb _ w _ from HY3.out.2.1.step (Keeps.of_grown hgx) (fun i _ hi => .inl (by injection hi)))
    have B10 := HY3.out.2.2.1.grown hgx (fun e => ny (by injection e))
    have hf2 := HY3.out.2.2.2
    clear hBx hgx hB a1
    have g0 : wx.cell? ⟨q10, 0, none⟩ = some (.int .i64 1) := (B10.cell 0).trans rfl
    have g1 : wx.cell? ⟨q10, 1, none⟩ = some (.int .i64 (lv : Int)) := (B10.cell 1).trans rfl
    have g2 : wx.cell? ⟨q10, 2, none⟩ = some (.int .i64 (0)) := (B10.cell 2).trans rfl
    have g3 : wx.cell? ⟨q10, 3, none⟩ = some (.int .i64 (0)) := (B10.cell 3).trans rfl
    have g4 : wx.cell? ⟨q10, 4, none⟩ = some (.int .i64 up) := (B10.cell 4).trans rfl
    have g5 : wx.cell? ⟨q10, 5, none⟩ = some (.bool onR) := (B10.cell 5).trans rfl
    have g6 : wx.cell? ⟨q10, 6, none⟩ = some (.bool false) := (B10.cell 6).trans rfl
    obtain ⟨N, hN⟩ : ∃ N, N = y.ps.length + 1 := ⟨_, rfl⟩
    have hnN : y.ps.length < N := by omega
    have hrow := hY2.parts
    simp only [List.length_append, List.length_cons, List.length_nil, Nat.zero_add, List.length_set] at hrow
    rw [← hN] at hY2 hf2 hrow
    have HNN := Lib.hid hN
    clear hN
    obtain ⟨c0, -, -, -, -⟩ := hY2.heads
    (refine still_last (by kernel_rfl) (by kernel_rfl) ?_; simp only [List.length_cons, List.length_nil, Nat.reduceAdd, Nat.reduceSub, List.take_succ_cons, List.take_zero, List.drop_succ_cons, List.drop_zero]; repeat still_step; try refine wpStill_nil ?_)
    refine wpl_put_row (hrow.drewN_ 1) (y.ps.length * 7) 7 (partc ⟨1, (lv : Int), 0, 0, up, onR, false⟩) (by kernel_rfl) rfl (by omega) (partc_one ⟨1, (lv : Int), 0, 0, up, onR, false⟩) (by rfl) (by rfl) (by rfl) (by rfl) ?_
    intro w4 hown4 hg4
    have hE := put_ (p := ⟨1, (lv : Int), 0, 0, up, onR, false⟩) (ps := y.ps ++ [⟨1, (lv : Int), 0, 0, up, onR, false⟩]) (hY2.below (below_drewN (Below.refl _ _) 1)) (hW2.drewN 1) hf2 (by have := own_len hrow; simp only [slLen] at this; simp) (by simp) hown4 hg4
    have HE := Lib.hid hE
    clear hE hown4 hg4 hrow hY2 hW2 B10 g0 g1 g2 g3 g4 g5 g6 c0
    go_wp2
    go_ret
    exact ⟨rfl, _, HE.out.1, HE.out.2, hf2⟩
end Go.Proofs.Ytajddbmmbhdnfaa
