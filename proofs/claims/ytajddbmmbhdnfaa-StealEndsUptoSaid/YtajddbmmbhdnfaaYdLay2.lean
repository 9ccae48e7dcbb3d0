/-
  steal.lay, walked: a part of two.
-/
import Derived.Test.YtajddbmmbhdnfaaYdLay
namespace Go.Proofs.Ytajddbmmbhdnfaa
set_option linter.unusedVariables false
set_option linter.unusedSimpArgs false
set_option maxRecDepth 100000
open Go.RowKit

/-- a part's box beside a yard is turned -/
theorem YA.beside {w w' : World} {yb base lv q : Nat} {y : Stl.Y} {P A Q D : Value} {gs : List Nat} {rs : List (Option Nat)} {cs : List Value} (h : YA w yb base y lv P A Q D gs rs) (B : Blk w q 100 cs) (hP : P.ownBlock ≠ some q) (k : Keeps (fun k => k = q) w w') : YA w' yb base y lv P A Q D gs rs :=
  h.keeps k (fun e => Blk.type_ne h.blk B (by decide) e) (fun b e e' => hP (by rw [e, e'])) (fun b e e' => own_blk_ne h.ats B (by decide) (by rw [e, e'])) (fun b e e' => own_blk_ne h.qus B (by decide) (by rw [e, e'])) (fun b e e' => own_blk_ne h.log B (by decide) (by rw [e, e']))
    (fun i g hg e => by
      obtain ⟨_, _, -, -, hd, -⟩ := h.of_g hg
      obtain ⟨ds, hc⟩ := hd.blk
      exact Blk.type_ne hc B (by decide) e)
    (fun i b hb e => by
      obtain ⟨_, _, -, -, hd⟩ := h.of_r hb
      obtain ⟨v, n, xs, hr, hv⟩ := hd.row
      exact own_blk_ne hr B (by decide) (by rw [hv, e]))
theorem LK.below {w w' : World} {yb base : Nat} {P : Value} {e : TypeId} {size n : Nat} {xs : List Value} (h : LK yb P w w') (hP : w.ownsRow base e size P n xs) (hb : base ≤ w.heap.size) (hy : base ≤ yb) : Below base w w' :=
  Keeps.below h hb fun i hi => hi.elim (fun e => by omega) (fun e => own_ge hP i e)

theorem YA.row_ {w : World} {yb base lv : Nat} {y : Stl.Y} {P A Q D : Value} {gs : List Nat} {rs : List (Option Nat)} (h : YA w yb base y lv P A Q D gs rs) : ∃ N, N = y.ps.length ∧ w.ownsRow base 100 7 P N (partcs y.ps) := ⟨_, rfl, h.parts⟩

theorem kid1 {w W w3 : World} {yb base lv q10 q5 : Nat} {y : Stl.Y} {P P1 P2 A Q D : Value} {gs : List Nat} {rs : List (Option Nat)} {cs c5 : List Value} (hk : LK yb P w W) (hf : ∀ i, P1.ownBlock = some i → P.ownBlock = some i ∨ w.heap.size ≤ i) (h : YA W yb base y lv P1 A Q D gs rs) (B10 : Blk W q10 100 cs) (hP1 : ∀ i, P1.ownBlock = some i → i ≠ q10) (B5 : Blk W q5 26 c5)
    (k3 : LK yb P1 W w3) (f3 : ∀ i, P2.ownBlock = some i → P1.ownBlock = some i ∨ W.heap.size ≤ i) :
    LK yb P w w3 ∧ (∀ i, P2.ownBlock = some i → P.ownBlock = some i ∨ w.heap.size ≤ i) ∧ Blk w3 q10 100 cs ∧ (∀ i, P2.ownBlock = some i → i ≠ q10) ∧ Blk w3 q5 26 c5 := by
  have hz := hk.size
  have hl := B10.lt
  refine ⟨hk.step k3 fun i hi hs => ?_, fun i hi => ?_, B10.keeps k3 fun e => ?_, fun i hi => ?_, B5.keeps k3 fun e => ?_⟩
  · rcases hs with e | e
    · exact .inl e
    · rcases hf i e with e | e
      · exact .inr e
      · omega
  · rcases f3 i hi with e | e
    · exact hf i e
    · exact .inr (by omega)
  · rcases e with e | e
    · exact Blk.type_ne h.blk B10 (by decide) e.symm
    · exact hP1 _ e rfl
  · rcases f3 i hi with e | e
    · exact hP1 i e
    · omega
  · rcases e with e | e
    · exact Blk.type_ne h.blk B5 (by decide) e.symm
    · exact own_blk_ne h.parts B5 (by decide) e

theorem kid2 {w w3 w4 : World} {yb base lv q10 q5 : Nat} {y : Stl.Y} {P P2 A Q D : Value} {gs : List Nat} {rs : List (Option Nat)} {cs c5 : List Value} (h : YA w3 yb base y lv P2 A Q D gs rs) (hk : LK yb P w w3) (B10 : Blk w3 q10 100 cs) (hP : ∀ i, P2.ownBlock = some i → i ≠ q10) (B5 : Blk w3 q5 26 c5) (hq : w.heap.size ≤ q10) (hg : w3.grownBy w4 (some q10)) :
    YA w4 yb base y lv P2 A Q D gs rs ∧ LK yb P w w4 ∧ Blk w4 q5 26 c5 := by
  have k : Keeps (fun k => k = q10) w3 w4 := (Keeps.of_grown hg).mono fun i hi => by injection hi
  refine ⟨h.beside B10 (fun e => hP _ e rfl) k, hk.step k fun i hi hs => ?_, B5.keeps k fun e => Blk.type_ne B5 B10 (by decide) e⟩
  omega






set_option maxHeartbeats 4000000 in
theorem lay_two (par : Bool) (tl tr : Sp.T) (ihl : LayOK tl) (ihr : LayOK tr) : LayOK (.two par tl tr) := by
  intro w yb base lv B y P A Q D gs rs cs up onR h hT hB hu1 hu2 hs hl
  cases hT with
  | two par c b l g o m cap cs0 cs1 t0 t1 hm hcap hm2 hgB k0 k1 i0 i1 =>
  obtain ⟨ka, ca, ba, la, Aa, na, capa, rfl, hna, hcapa⟩ := i0.form
  obtain ⟨kb, cb, bb, lb, Ab, nb, capb, rfl, hnb, hcapb⟩ := i1.form
  unfold tcells
  unfold maxLen at hcap
  have HK := Lib.hid (And.intro k0 (And.intro k1 (And.intro i0 i1)))
  clear k0 k1 i0 i1
  have HS := Lib.hid (And.intro hs hl)
  have HR := Lib.hid (And.intro h.parts (And.intro h.base_le h.above))
  rcases par with _ | _
  · rw [if_neg (by decide)]
    have hB5 := Blk.new w 26 [.int .i64 2, .int .i64 c, .bool b, .int .i64 l, .slice (some ⟨g, o, none⟩) m cap]
    have hb5 : Below w.heap.size w (w.alloc (.cells ([.int .i64 2, .int .i64 c, .bool b, .int .i64 l, .slice (some ⟨g, o, none⟩) m cap] : List Value).toArray 26)) := below_alloc (Below.refl _ _) _
    have h5 := h.below hb5
    have hkw : Keeps (fun k => k = yb ∨ P.ownBlock = some k) w (w.alloc (.cells ([.int .i64 2, .int .i64 c, .bool b, .int .i64 l, .slice (some ⟨g, o, none⟩) m cap] : List Value).toArray 26)) := (Keeps.refl _ w).alloc _
    obtain ⟨q5, hq5⟩ : ∃ q5, q5 = w.heap.size := ⟨_, rfl⟩
    have n63 : y.ps.length + 1 ≤ maxLen := by unfold maxLen; have := Stl.sz_pos (Sp.T.two false tl tr); omega
    have n47 : (y.ps.length + 1) * 48 ≤ 140737488355328 := by have := Stl.sz_pos (Sp.T.two false tl tr); omega
    obtain ⟨PA, pn, pc, hPe⟩ : ∃ PA pn pc, P = .slice PA pn pc := by
      obtain ⟨A', c', e, -, -⟩ := own_slice h.parts
      exact ⟨_, _, _, e⟩
    have hpn : pn = y.ps.length := by have := h.parts; rw [hPe] at this; exact own_len this
    subst hPe
    subst hpn
    go_enter Try.func27, Try.ntmps27
    go_upto_region 1 with (fail)
    rw [← hq5] at hB5 ⊢
    have HQ := Lib.hid hq5
    generalize (w.alloc (.cells ([.int .i64 2, .int .i64 c, .bool b, .int .i64 l, .slice (some ⟨g, o, none⟩) m cap] : List Value).toArray 26)) = W at hB5 hb5 h5 hkw ⊢
    clear hq5
    obtain ⟨c0, -, -, -, -⟩ := h5.heads
    have lyb := h5.lt
    have hwl := h5.base_le
    have HPW := Lib.hid (fun w1 (hg : W.grownBy w1 (Value.slice PA y.ps.length pc).ownBlock) => (h5.blk.grown hg (fun e => own_blk_ne h5.parts h5.blk (by decide) e.symm) : Blk w1 yb _ _))
    have H5 := Lib.hid (And.intro h5 (And.intro hB5 hkw))
    have hrow := h5.parts
    clear h5 hB5 hkw
    go_upto_region 9 with (first
      | (at_builtin; refine wp_push W _ _ base _ _ _ _ _ Try.underlying70 info_part rfl (by decide) hrow (partc ⟨0, -1, 0, 0, up, onR, false⟩) rfl (partc_one _) n63 n47 hwl rfl rfl rfl rfl ?_; intro P1 w1 hown1 hg1 hv1 _; have hY1 := HPW.out w1 hg1; have hown1' := hown1; obtain ⟨pg, pb, rfl, hle1, hm1, hbp⟩ := own_addr hown1' (Nat.succ_pos _); clear hown1')
      | (refine wpl_set_blk hY1 0 _ (by kernel_rfl) (by simp) rfl rfl rfl rfl rfl rfl ?_; intro w2 hY2 hg2; simp only [List.set_cons_zero] at hY2; have h2 := laid_ H5.out.1 H5.out.2.1 H5.out.2.2 hown1 hg1 hv1 hY2 hg2; have t0 := (h2.2.1.cell 0).trans rfl; have t1 := (h2.2.1.cell 1).trans rfl; have t2 := (h2.2.1.cell 2).trans rfl; have t3 := (h2.2.1.cell 3).trans rfl; have t4 := (h2.2.1.cell 4).trans rfl; have lq := h2.2.1.lt; have ly2 := h2.1.lt; clear hown1 hg1 hv1 hY1 hY2 hg2 c0 hle1 hm1 hbp))
    obtain ⟨q10, hq10⟩ : ∃ q10, q10 = w2.heap.size := ⟨_, rfl⟩
    have B10 := Blk.new w2 100 [.int .i64 2, .int .i64 (-1), .int .i64 0, .int .i64 0, .int .i64 up, .bool onR, .bool false]
    have hW2 := (show LK yb _ w _ from h2.2.2.1.alloc (.cells ([.int .i64 2, .int .i64 (-1), .int .i64 0, .int .i64 0, .int .i64 up, .bool onR, .bool false] : List Value).toArray 100))
    have hY2 := h2.1.below (below_alloc (Below.refl _ _) (.cells ([.int .i64 2, .int .i64 (-1), .int .i64 0, .int .i64 0, .int .i64 up, .bool onR, .bool false] : List Value).toArray 100))
    have hb2 := below_alloc (Below.refl w2.heap.size w2) (.cells ([.int .i64 2, .int .i64 (-1), .int .i64 0, .int .i64 0, .int .i64 up, .bool onR, .bool false] : List Value).toArray 100)
    have hf2 := h2.2.2.2
    rw [← hq10] at B10 ⊢
    have HQ10 := Lib.hid hq10
    clear hq10
    generalize (w2.alloc (.cells ([.int .i64 2, .int .i64 (-1), .int .i64 0, .int .i64 0, .int .i64 up, .bool onR, .bool false] : List Value).toArray 100)) = W2 at B10 hb2 hW2 hY2 ⊢
    have l10 : q10 = w2.heap.size := HQ10.out
    have hl10 := B10.lt
    have hbw := LK.below hW2 HR.out.1 HR.out.2.1 HR.out.2.2
    have gB : g < base := Nat.lt_of_lt_of_le hgB hB
    have t4 : W2.cell? ⟨q5, 4, none⟩ = some (.slice (some ⟨g, o, none⟩) m cap) := (((h2.2.1).below hb2).cell 4).trans rfl
    have a0 : W2.cell? ⟨g, o, none⟩ = some (.int .i64 ka) := (hbw.cell gB).trans (HK.out.1 0 _ rfl)
    have a1 : W2.cell? ⟨g, o + 1, none⟩ = some (.int .i64 ca) := (hbw.cell gB).trans (HK.out.1 1 _ rfl)
    have a2 : W2.cell? ⟨g, o + 2, none⟩ = some (.bool ba) := (hbw.cell gB).trans (HK.out.1 2 _ rfl)
    have a3 : W2.cell? ⟨g, o + 3, none⟩ = some (.int .i64 la) := (hbw.cell gB).trans (HK.out.1 3 _ rfl)
    have a4 : W2.cell? ⟨g, o + 4, none⟩ = some (.slice Aa na capa) := (hbw.cell gB).trans (HK.out.1 4 _ rfl)
    have hTl := HK.out.2.2.1.later (hbw.mono hB)
    have hsz : Stl.sz (Sp.T.two false tl tr) = 1 + Stl.sz tl + Stl.sz tr := rfl
    have hlz : (Sp.T.two false tl tr).size = tl.size + tr.size := by simp [Sp.T.size, Sp.T.leaves]
    have hP1 : ∀ i, (Value.slice (some ⟨pg, 0, none⟩) (y.ps.length + 1) pb).ownBlock = some i → i ≠ q10 := fun i hi => by have := (h2.1.parts.lt i hi).2; omega
    have HH := Lib.hid (And.intro hY2 (And.intro hW2 (And.intro hf2 (And.intro B10 (And.intro ((h2.2.1).below hb2) (And.intro hP1 (And.intro hTl (And.intro hsz hlz))))))))
    have HWQ := Lib.hid (show w.heap.size ≤ q10 by rw [l10]; exact h2.2.2.1.size)
    clear hY2 hW2 hf2 B10 h2 hb2 hbw hTl hsz hlz hP1 t0 t1 t2 t3 hs hl h l10 hl10 lq ly2 lyb
    go_wp2_with fail
    refine (ihl W2 yb base lv B { y with ps := y.ps ++ [⟨0, -1, 0, 0, up, onR, false⟩] } _ A Q D gs rs _ (y.ps.length : Int) false HH.out.1 HH.out.2.2.2.2.2.2.1 hB (by omega) (by have := HS.out.1; omega) (by have := HS.out.1; have := HH.out.2.2.2.2.2.2.2.1; simp only [List.length_append, List.length_cons, List.length_nil]; omega) (by have := HS.out.2; have := HH.out.2.2.2.2.2.2.2.2; omega)).mono ?_
    rintro e w3 ⟨he, P3, hY3, hk3, hf3⟩
    simp only [List.length_append, List.length_cons, List.length_nil, Nat.zero_add, List.append_assoc, List.cons_append, List.nil_append] at he hY3
    subst he
    obtain ⟨kW, kf, kB, kP, k5⟩ := kid1 HH.out.2.1 HH.out.2.2.1 HH.out.1 HH.out.2.2.2.1 HH.out.2.2.2.2.2.1 HH.out.2.2.2.2.1 hk3 hf3
    have HK3 := Lib.hid (And.intro hY3 (And.intro kW (And.intro kf (And.intro kP k5))))
    clear hY3 kW kf kP k5 hk3 hf3 a0 a1 a2 a3 a4 t4
    go_upto_region 10 with (refine wpl_set_blk kB 2 (.int .i64 ((y.ps.length + 1 : Nat) : Int)) (by kernel_rfl) (by simp) (by rfl) (by rfl) (by rfl) (by rfl) (by rfl) (by rfl) ?_; intro w4 B4 hg4)
    simp only [List.set_cons_zero, List.set_cons_succ] at B4
    obtain ⟨hY4, hW4, B5⟩ := kid2 HK3.out.1 HK3.out.2.1 kB HK3.out.2.2.2.1 HK3.out.2.2.2.2 HWQ.out hg4
    clear kB hg4
    have hbw := LK.below hW4 HR.out.1 HR.out.2.1 HR.out.2.2
    have gB : g < base := Nat.lt_of_lt_of_le hgB hB
    have t4 : w4.cell? ⟨q5, 4, none⟩ = some (.slice (some ⟨g, o, none⟩) m cap) := (B5.cell 4).trans rfl
    have a0 : w4.cell? ⟨g, o + 5, none⟩ = some (.int .i64 kb) := (hbw.cell gB).trans (HK.out.2.1 0 _ rfl)
    have a1 : w4.cell? ⟨g, o + 6, none⟩ = some (.int .i64 cb) := (hbw.cell gB).trans (HK.out.2.1 1 _ rfl)
    have a2 : w4.cell? ⟨g, o + 7, none⟩ = some (.bool bb) := (hbw.cell gB).trans (HK.out.2.1 2 _ rfl)
    have a3 : w4.cell? ⟨g, o + 8, none⟩ = some (.int .i64 lb) := (hbw.cell gB).trans (HK.out.2.1 3 _ rfl)
    have a4 : w4.cell? ⟨g, o + 9, none⟩ = some (.slice Ab nb capb) := (hbw.cell gB).trans (HK.out.2.1 4 _ rfl)
    have hTr := HK.out.2.2.2.later (hbw.mono hB)
    have hz := Stl.partsOf_length tl (y.ps.length + 1) lv y.ps.length false
    have HH4 := Lib.hid (And.intro hY4 (And.intro hW4 (And.intro B4 (And.intro B5 (And.intro hTr hz)))))
    clear hY4 hW4 B4 B5 hTr hz hbw
    go_wp2_with fail
    refine (ihr w4 yb base _ B _ _ A Q D gs rs _ (y.ps.length : Int) true HH4.out.1 HH4.out.2.2.2.2.1 hB (by omega) (by have := HS.out.1; omega) (by have := HS.out.1; have := HH.out.2.2.2.2.2.2.2.1; have := HH4.out.2.2.2.2.2; simp only [List.length_append, List.length_cons]; omega) (by have := HS.out.2; have := HH.out.2.2.2.2.2.2.2.2; omega)).mono ?_
    rintro e w5 ⟨he, P5, hY5, hk5, hf5⟩
    have hl5 : (y.ps ++ ⟨0, -1, 0, 0, up, onR, false⟩ :: Stl.partsOf tl (y.ps.length + 1) lv y.ps.length false).length = y.ps.length + 1 + Stl.sz tl := by have := HH4.out.2.2.2.2.2; simp only [List.length_append, List.length_cons]; omega
    rw [hl5] at he hY5
    subst he
    obtain ⟨kW, kf, kB, kP, k5⟩ := kid1 HH4.out.2.1 HK3.out.2.2.1 HH4.out.1 HH4.out.2.2.1 HK3.out.2.2.2.1 HH4.out.2.2.2.1 hk5 hf5
    have HK5 := Lib.hid (And.intro hY5 (And.intro kW (And.intro kf (And.intro kP k5))))
    clear hY5 kW kf kP k5 hk5 hf5 hl5 a0 a1 a2 a3 a4 t4
    go_upto_region 11 with (refine wpl_set_blk kB 3 (.int .i64 ((y.ps.length + 1 + Stl.sz tl : Nat) : Int)) (by kernel_rfl) (by simp) (by rfl) (by rfl) (by rfl) (by rfl) (by rfl) (by rfl) ?_; intro w6 B6 hg6)
    simp only [List.set_cons_zero, List.set_cons_succ] at B6
    obtain ⟨hY6, hW6, -⟩ := kid2 HK5.out.1 HK5.out.2.1 kB HK5.out.2.2.2.1 HK5.out.2.2.2.2 HWQ.out hg6
    have hf2 := HK5.out.2.2.1
    clear kB hg6
    obtain ⟨N, hN, hrow⟩ := hY6.row_
    dsimp only at hN hrow
    have hnN : y.ps.length < N := by rw [hN]; simp only [List.length_append, List.length_cons]; omega
    obtain ⟨pg5, pb5, rfl, -, -, -⟩ := own_addr hrow (by omega)
    have hps : ((y.ps ++ ⟨0, -1, 0, 0, up, onR, false⟩ :: Stl.partsOf tl (y.ps.length + 1) lv y.ps.length false) ++ Stl.partsOf tr (y.ps.length + 1 + Stl.sz tl) (lv + tl.size) y.ps.length true).set y.ps.length ⟨2, -1, y.ps.length + 1, y.ps.length + 1 + Stl.sz tl, up, onR, false⟩ = y.ps ++ Stl.partsOf (.two false tl tr) y.ps.length lv up onR := by
      simp [Stl.partsOf]
    have HN := Lib.hid (And.intro hN hps)
    clear hN hps
    have g0 : w6.cell? ⟨q10, 0, none⟩ = some (.int .i64 2) := (B6.cell 0).trans rfl
    have g1 : w6.cell? ⟨q10, 1, none⟩ = some (.int .i64 (-1)) := (B6.cell 1).trans rfl
    have g2 : w6.cell? ⟨q10, 2, none⟩ = some (.int .i64 ((y.ps.length + 1 : Nat) : Int)) := (B6.cell 2).trans rfl
    have g3 : w6.cell? ⟨q10, 3, none⟩ = some (.int .i64 ((y.ps.length + 1 + Stl.sz tl : Nat) : Int)) := (B6.cell 3).trans rfl
    have g4 : w6.cell? ⟨q10, 4, none⟩ = some (.int .i64 up) := (B6.cell 4).trans rfl
    have g5 : w6.cell? ⟨q10, 5, none⟩ = some (.bool onR) := (B6.cell 5).trans rfl
    have g6 : w6.cell? ⟨q10, 6, none⟩ = some (.bool false) := (B6.cell 6).trans rfl
    obtain ⟨c0, -, -, -, -⟩ := hY6.heads
    (refine still_last (by kernel_rfl) (by kernel_rfl) ?_; simp only [List.length_cons, List.length_nil, Nat.reduceAdd, Nat.reduceSub, List.take_succ_cons, List.take_zero, List.drop_succ_cons, List.drop_zero]; repeat still_step; try refine wpStill_nil ?_)
    refine wpl_put_row (hrow.drewN_ 1) (y.ps.length * 7) 7 (partc ⟨2, -1, y.ps.length + 1, y.ps.length + 1 + Stl.sz tl, up, onR, false⟩) (by kernel_rfl) rfl (by omega) (partc_one ⟨2, -1, y.ps.length + 1, y.ps.length + 1 + Stl.sz tl, up, onR, false⟩) (by rfl) (by rfl) (by rfl) (by rfl) ?_
    intro w8 hown8 hg8
    have hE := put_ (p := ⟨2, -1, y.ps.length + 1, y.ps.length + 1 + Stl.sz tl, up, onR, false⟩) (hY6.below (below_drewN (Below.refl _ _) 1)) (hW6.drewN 1) hf2 (by have := HN.out.1; rw [this] at hnN; exact hnN) HN.out.2 hown8 hg8
    have HE := Lib.hid hE
    clear hE hown8 hg8 hrow hY6 hW6 B6 g0 g1 g2 g3 g4 g5 g6 c0
    go_wp2
    go_ret
    exact ⟨rfl, _, by rw [HH.out.2.2.2.2.2.2.2.2, ← Nat.add_assoc]; exact HE.out.1, HE.out.2, hf2⟩
  · rw [if_pos rfl]
    have hB5 := Blk.new w 26 [.int .i64 3, .int .i64 c, .bool b, .int .i64 l, .slice (some ⟨g, o, none⟩) m cap]
    have hb5 : Below w.heap.size w (w.alloc (.cells ([.int .i64 3, .int .i64 c, .bool b, .int .i64 l, .slice (some ⟨g, o, none⟩) m cap] : List Value).toArray 26)) := below_alloc (Below.refl _ _) _
    have h5 := h.below hb5
    have hkw : Keeps (fun k => k = yb ∨ P.ownBlock = some k) w (w.alloc (.cells ([.int .i64 3, .int .i64 c, .bool b, .int .i64 l, .slice (some ⟨g, o, none⟩) m cap] : List Value).toArray 26)) := (Keeps.refl _ w).alloc _
    obtain ⟨q5, hq5⟩ : ∃ q5, q5 = w.heap.size := ⟨_, rfl⟩
    have n63 : y.ps.length + 1 ≤ maxLen := by unfold maxLen; have := Stl.sz_pos (Sp.T.two true tl tr); omega
    have n47 : (y.ps.length + 1) * 48 ≤ 140737488355328 := by have := Stl.sz_pos (Sp.T.two true tl tr); omega
    obtain ⟨PA, pn, pc, hPe⟩ : ∃ PA pn pc, P = .slice PA pn pc := by
      obtain ⟨A', c', e, -, -⟩ := own_slice h.parts
      exact ⟨_, _, _, e⟩
    have hpn : pn = y.ps.length := by have := h.parts; rw [hPe] at this; exact own_len this
    subst hPe
    subst hpn
    go_enter Try.func27, Try.ntmps27
    go_upto_region 1 with (fail)
    rw [← hq5] at hB5 ⊢
    have HQ := Lib.hid hq5
    generalize (w.alloc (.cells ([.int .i64 3, .int .i64 c, .bool b, .int .i64 l, .slice (some ⟨g, o, none⟩) m cap] : List Value).toArray 26)) = W at hB5 hb5 h5 hkw ⊢
    clear hq5
    obtain ⟨c0, -, -, -, -⟩ := h5.heads
    have lyb := h5.lt
    have hwl := h5.base_le
    have HPW := Lib.hid (fun w1 (hg : W.grownBy w1 (Value.slice PA y.ps.length pc).ownBlock) => (h5.blk.grown hg (fun e => own_blk_ne h5.parts h5.blk (by decide) e.symm) : Blk w1 yb _ _))
    have H5 := Lib.hid (And.intro h5 (And.intro hB5 hkw))
    have hrow := h5.parts
    clear h5 hB5 hkw
    go_upto_region 9 with (first
      | (at_builtin; refine wp_push W _ _ base _ _ _ _ _ Try.underlying70 info_part rfl (by decide) hrow (partc ⟨0, -1, 0, 0, up, onR, false⟩) rfl (partc_one _) n63 n47 hwl rfl rfl rfl rfl ?_; intro P1 w1 hown1 hg1 hv1 _; have hY1 := HPW.out w1 hg1; have hown1' := hown1; obtain ⟨pg, pb, rfl, hle1, hm1, hbp⟩ := own_addr hown1' (Nat.succ_pos _); clear hown1')
      | (refine wpl_set_blk hY1 0 _ (by kernel_rfl) (by simp) rfl rfl rfl rfl rfl rfl ?_; intro w2 hY2 hg2; simp only [List.set_cons_zero] at hY2; have h2 := laid_ H5.out.1 H5.out.2.1 H5.out.2.2 hown1 hg1 hv1 hY2 hg2; have t0 := (h2.2.1.cell 0).trans rfl; have t1 := (h2.2.1.cell 1).trans rfl; have t2 := (h2.2.1.cell 2).trans rfl; have t3 := (h2.2.1.cell 3).trans rfl; have t4 := (h2.2.1.cell 4).trans rfl; have lq := h2.2.1.lt; have ly2 := h2.1.lt; clear hown1 hg1 hv1 hY1 hY2 hg2 c0 hle1 hm1 hbp))
    obtain ⟨q10, hq10⟩ : ∃ q10, q10 = w2.heap.size := ⟨_, rfl⟩
    have B10 := Blk.new w2 100 [.int .i64 3, .int .i64 (-1), .int .i64 0, .int .i64 0, .int .i64 up, .bool onR, .bool false]
    have hW2 := (show LK yb _ w _ from h2.2.2.1.alloc (.cells ([.int .i64 3, .int .i64 (-1), .int .i64 0, .int .i64 0, .int .i64 up, .bool onR, .bool false] : List Value).toArray 100))
    have hY2 := h2.1.below (below_alloc (Below.refl _ _) (.cells ([.int .i64 3, .int .i64 (-1), .int .i64 0, .int .i64 0, .int .i64 up, .bool onR, .bool false] : List Value).toArray 100))
    have hb2 := below_alloc (Below.refl w2.heap.size w2) (.cells ([.int .i64 3, .int .i64 (-1), .int .i64 0, .int .i64 0, .int .i64 up, .bool onR, .bool false] : List Value).toArray 100)
    have hf2 := h2.2.2.2
    rw [← hq10] at B10 ⊢
    have HQ10 := Lib.hid hq10
    clear hq10
    generalize (w2.alloc (.cells ([.int .i64 3, .int .i64 (-1), .int .i64 0, .int .i64 0, .int .i64 up, .bool onR, .bool false] : List Value).toArray 100)) = W2 at B10 hb2 hW2 hY2 ⊢
    have l10 : q10 = w2.heap.size := HQ10.out
    have hl10 := B10.lt
    have hbw := LK.below hW2 HR.out.1 HR.out.2.1 HR.out.2.2
    have gB : g < base := Nat.lt_of_lt_of_le hgB hB
    have t4 : W2.cell? ⟨q5, 4, none⟩ = some (.slice (some ⟨g, o, none⟩) m cap) := (((h2.2.1).below hb2).cell 4).trans rfl
    have a0 : W2.cell? ⟨g, o, none⟩ = some (.int .i64 ka) := (hbw.cell gB).trans (HK.out.1 0 _ rfl)
    have a1 : W2.cell? ⟨g, o + 1, none⟩ = some (.int .i64 ca) := (hbw.cell gB).trans (HK.out.1 1 _ rfl)
    have a2 : W2.cell? ⟨g, o + 2, none⟩ = some (.bool ba) := (hbw.cell gB).trans (HK.out.1 2 _ rfl)
    have a3 : W2.cell? ⟨g, o + 3, none⟩ = some (.int .i64 la) := (hbw.cell gB).trans (HK.out.1 3 _ rfl)
    have a4 : W2.cell? ⟨g, o + 4, none⟩ = some (.slice Aa na capa) := (hbw.cell gB).trans (HK.out.1 4 _ rfl)
    have hTl := HK.out.2.2.1.later (hbw.mono hB)
    have hsz : Stl.sz (Sp.T.two true tl tr) = 1 + Stl.sz tl + Stl.sz tr := rfl
    have hlz : (Sp.T.two true tl tr).size = tl.size + tr.size := by simp [Sp.T.size, Sp.T.leaves]
    have hP1 : ∀ i, (Value.slice (some ⟨pg, 0, none⟩) (y.ps.length + 1) pb).ownBlock = some i → i ≠ q10 := fun i hi => by have := (h2.1.parts.lt i hi).2; omega
    have HH := Lib.hid (And.intro hY2 (And.intro hW2 (And.intro hf2 (And.intro B10 (And.intro ((h2.2.1).below hb2) (And.intro hP1 (And.intro hTl (And.intro hsz hlz))))))))
    have HWQ := Lib.hid (show w.heap.size ≤ q10 by rw [l10]; exact h2.2.2.1.size)
    clear hY2 hW2 hf2 B10 h2 hb2 hbw hTl hsz hlz hP1 t0 t1 t2 t3 hs hl h l10 hl10 lq ly2 lyb
    go_wp2_with fail
    refine (ihl W2 yb base lv B { y with ps := y.ps ++ [⟨0, -1, 0, 0, up, onR, false⟩] } _ A Q D gs rs _ (y.ps.length : Int) false HH.out.1 HH.out.2.2.2.2.2.2.1 hB (by omega) (by have := HS.out.1; omega) (by have := HS.out.1; have := HH.out.2.2.2.2.2.2.2.1; simp only [List.length_append, List.length_cons, List.length_nil]; omega) (by have := HS.out.2; have := HH.out.2.2.2.2.2.2.2.2; omega)).mono ?_
    rintro e w3 ⟨he, P3, hY3, hk3, hf3⟩
    simp only [List.length_append, List.length_cons, List.length_nil, Nat.zero_add, List.append_assoc, List.cons_append, List.nil_append] at he hY3
    subst he
    obtain ⟨kW, kf, kB, kP, k5⟩ := kid1 HH.out.2.1 HH.out.2.2.1 HH.out.1 HH.out.2.2.2.1 HH.out.2.2.2.2.2.1 HH.out.2.2.2.2.1 hk3 hf3
    have HK3 := Lib.hid (And.intro hY3 (And.intro kW (And.intro kf (And.intro kP k5))))
    clear hY3 kW kf kP k5 hk3 hf3 a0 a1 a2 a3 a4 t4
    go_upto_region 10 with (refine wpl_set_blk kB 2 (.int .i64 ((y.ps.length + 1 : Nat) : Int)) (by kernel_rfl) (by simp) (by rfl) (by rfl) (by rfl) (by rfl) (by rfl) (by rfl) ?_; intro w4 B4 hg4)
    simp only [List.set_cons_zero, List.set_cons_succ] at B4
    obtain ⟨hY4, hW4, B5⟩ := kid2 HK3.out.1 HK3.out.2.1 kB HK3.out.2.2.2.1 HK3.out.2.2.2.2 HWQ.out hg4
    clear kB hg4
    have hbw := LK.below hW4 HR.out.1 HR.out.2.1 HR.out.2.2
    have gB : g < base := Nat.lt_of_lt_of_le hgB hB
    have t4 : w4.cell? ⟨q5, 4, none⟩ = some (.slice (some ⟨g, o, none⟩) m cap) := (B5.cell 4).trans rfl
    have a0 : w4.cell? ⟨g, o + 5, none⟩ = some (.int .i64 kb) := (hbw.cell gB).trans (HK.out.2.1 0 _ rfl)
    have a1 : w4.cell? ⟨g, o + 6, none⟩ = some (.int .i64 cb) := (hbw.cell gB).trans (HK.out.2.1 1 _ rfl)
    have a2 : w4.cell? ⟨g, o + 7, none⟩ = some (.bool bb) := (hbw.cell gB).trans (HK.out.2.1 2 _ rfl)
    have a3 : w4.cell? ⟨g, o + 8, none⟩ = some (.int .i64 lb) := (hbw.cell gB).trans (HK.out.2.1 3 _ rfl)
    have a4 : w4.cell? ⟨g, o + 9, none⟩ = some (.slice Ab nb capb) := (hbw.cell gB).trans (HK.out.2.1 4 _ rfl)
    have hTr := HK.out.2.2.2.later (hbw.mono hB)
    have hz := Stl.partsOf_length tl (y.ps.length + 1) lv y.ps.length false
    have HH4 := Lib.hid (And.intro hY4 (And.intro hW4 (And.intro B4 (And.intro B5 (And.intro hTr hz)))))
    clear hY4 hW4 B4 B5 hTr hz hbw
    go_wp2_with fail
    refine (ihr w4 yb base _ B _ _ A Q D gs rs _ (y.ps.length : Int) true HH4.out.1 HH4.out.2.2.2.2.1 hB (by omega) (by have := HS.out.1; omega) (by have := HS.out.1; have := HH.out.2.2.2.2.2.2.2.1; have := HH4.out.2.2.2.2.2; simp only [List.length_append, List.length_cons]; omega) (by have := HS.out.2; have := HH.out.2.2.2.2.2.2.2.2; omega)).mono ?_
    rintro e w5 ⟨he, P5, hY5, hk5, hf5⟩
    have hl5 : (y.ps ++ ⟨0, -1, 0, 0, up, onR, false⟩ :: Stl.partsOf tl (y.ps.length + 1) lv y.ps.length false).length = y.ps.length + 1 + Stl.sz tl := by have := HH4.out.2.2.2.2.2; simp only [List.length_append, List.length_cons]; omega
    rw [hl5] at he hY5
    subst he
    obtain ⟨kW, kf, kB, kP, k5⟩ := kid1 HH4.out.2.1 HK3.out.2.2.1 HH4.out.1 HH4.out.2.2.1 HK3.out.2.2.2.1 HH4.out.2.2.2.1 hk5 hf5
    have HK5 := Lib.hid (And.intro hY5 (And.intro kW (And.intro kf (And.intro kP k5))))
    clear hY5 kW kf kP k5 hk5 hf5 hl5 a0 a1 a2 a3 a4 t4
    go_upto_region 11 with (refine wpl_set_blk kB 3 (.int .i64 ((y.ps.length + 1 + Stl.sz tl : Nat) : Int)) (by kernel_rfl) (by simp) (by rfl) (by rfl) (by rfl) (by rfl) (by rfl) (by rfl) ?_; intro w6 B6 hg6)
    simp only [List.set_cons_zero, List.set_cons_succ] at B6
    obtain ⟨hY6, hW6, -⟩ := kid2 HK5.out.1 HK5.out.2.1 kB HK5.out.2.2.2.1 HK5.out.2.2.2.2 HWQ.out hg6
    have hf2 := HK5.out.2.2.1
    clear kB hg6
    obtain ⟨N, hN, hrow⟩ := hY6.row_
    dsimp only at hN hrow
    have hnN : y.ps.length < N := by rw [hN]; simp only [List.length_append, List.length_cons]; omega
    obtain ⟨pg5, pb5, rfl, -, -, -⟩ := own_addr hrow (by omega)
    have hps : ((y.ps ++ ⟨0, -1, 0, 0, up, onR, false⟩ :: Stl.partsOf tl (y.ps.length + 1) lv y.ps.length false) ++ Stl.partsOf tr (y.ps.length + 1 + Stl.sz tl) (lv + tl.size) y.ps.length true).set y.ps.length ⟨3, -1, y.ps.length + 1, y.ps.length + 1 + Stl.sz tl, up, onR, false⟩ = y.ps ++ Stl.partsOf (.two true tl tr) y.ps.length lv up onR := by
      simp [Stl.partsOf]
    have HN := Lib.hid (And.intro hN hps)
    clear hN hps
    have g0 : w6.cell? ⟨q10, 0, none⟩ = some (.int .i64 3) := (B6.cell 0).trans rfl
    have g1 : w6.cell? ⟨q10, 1, none⟩ = some (.int .i64 (-1)) := (B6.cell 1).trans rfl
    have g2 : w6.cell? ⟨q10, 2, none⟩ = some (.int .i64 ((y.ps.length + 1 : Nat) : Int)) := (B6.cell 2).trans rfl
    have g3 : w6.cell? ⟨q10, 3, none⟩ = some (.int .i64 ((y.ps.length + 1 + Stl.sz tl : Nat) : Int)) := (B6.cell 3).trans rfl
    have g4 : w6.cell? ⟨q10, 4, none⟩ = some (.int .i64 up) := (B6.cell 4).trans rfl
    have g5 : w6.cell? ⟨q10, 5, none⟩ = some (.bool onR) := (B6.cell 5).trans rfl
    have g6 : w6.cell? ⟨q10, 6, none⟩ = some (.bool false) := (B6.cell 6).trans rfl
    obtain ⟨c0, -, -, -, -⟩ := hY6.heads
    (refine still_last (by kernel_rfl) (by kernel_rfl) ?_; simp only [List.length_cons, List.length_nil, Nat.reduceAdd, Nat.reduceSub, List.take_succ_cons, List.take_zero, List.drop_succ_cons, List.drop_zero]; repeat still_step; try refine wpStill_nil ?_)
    refine wpl_put_row (hrow.drewN_ 1) (y.ps.length * 7) 7 (partc ⟨3, -1, y.ps.length + 1, y.ps.length + 1 + Stl.sz tl, up, onR, false⟩) (by kernel_rfl) rfl (by omega) (partc_one ⟨3, -1, y.ps.length + 1, y.ps.length + 1 + Stl.sz tl, up, onR, false⟩) (by rfl) (by rfl) (by rfl) (by rfl) ?_
    intro w8 hown8 hg8
    have hE := put_ (p := ⟨3, -1, y.ps.length + 1, y.ps.length + 1 + Stl.sz tl, up, onR, false⟩) (hY6.below (below_drewN (Below.refl _ _) 1)) (hW6.drewN 1) hf2 (by have := HN.out.1; rw [this] at hnN; exact hnN) HN.out.2 hown8 hg8
    have HE := Lib.hid hE
    clear hE hown8 hg8 hrow hY6 hW6 B6 g0 g1 g2 g3 g4 g5 g6 c0
    go_wp2
    go_ret
    exact ⟨rfl, _, by rw [HH.out.2.2.2.2.2.2.2.2, ← Nat.add_assoc]; exact HE.out.1, HE.out.2, hf2⟩

theorem lay_any : ∀ t : Sp.T, LayOK t
  | .nil => lay_nil
  | .one c b l => lay_one c b l
  | .two par l r => lay_two par l r (lay_any l) (lay_any r)
end Go.Proofs.Ytajddbmmbhdnfaa
