/-
  A region with marks whose last operations wait for all of it, with what is known in each of its phases; what is known of a float outlives a mark. No program is named here.
-/
import Derived.Test.YtkjmddgnfgbioaaDoorUsP4
import Derived.Test.YtkjmddgnfgbioaaDoorUsP1
import Derived.Test.YtkjmddgnfgbioaaDoorUsP3

namespace Go.Proofs.YtkjmddgnfgbioaaDoor
set_option linter.unusedVariables false
set_option linter.unusedSimpArgs false
set_option maxRecDepth 100000
open Go.RowKit

theorem one_pr {B : Nat} {w : World} {kd : Int} {nm : ByteArray} {ca cb : List Value} {D : Option Addr} {dl dc : Nat} {E : Option Addr} {el ec : Nat} {ea eb : Ex.X} {body els : St.P} (t : TypeId) (hB : B ≤ w.heap.size)
    (xa : XR B w ca ea) (xb : XR B w cb eb) (pb : PR B w D dl body) (pe : PR B w E el els) (h : dl ≤ dc ∧ dc ≤ maxLen ∧ el ≤ ec ∧ ec ≤ maxLen) :
    PR (w.alloc (.cells (stcells kd nm ca cb D dl dc E el ec).toArray t)).heap.size (w.alloc (.cells (stcells kd nm ca cb D dl dc E el ec).toArray t)) (some ⟨w.heap.size, 0, none⟩) 1 (.cons kd nm.data.toList ea eb body els .nil) := by
  have hb : Below B w (w.alloc (.cells (stcells kd nm ca cb D dl dc E el ec).toArray t)) := (Below.refl _ _).alloc hB _
  have hz : B ≤ (w.alloc (.cells (stcells kd nm ca cb D dl dc E el ec).toArray t)).heap.size := by simp; omega
  refine .cons _ 0 0 kd nm ca cb ea eb D dl dc E el ec body els .nil (by simp) h.1 h.2.1 h.2.2.1 h.2.2.2 (fun j u hu => ?_) ((xa.later hb).up hz) ((xb.later hb).up hz) ((pb.later hb).up hz) ((pe.later hb).up hz) (.nil _)
  rw [Nat.zero_add, (Blk.new w t (stcells kd nm ca cb D dl dc E el ec)).cell, hu]
theorem labels_one (kd : Int) (nm : List UInt8) (ea eb : Ex.X) (body els : St.P) : St.labels (.cons kd nm ea eb body els .nil) = St.lab1 kd (St.labels body) (St.labels els) := by
  simp [St.labels]
theorem size_one (kd : Int) (nm : List UInt8) (ea eb : Ex.X) (body els : St.P) : (St.P.cons kd nm ea eb body els .nil).size = 1 + ea.leaves + eb.leaves + body.size + els.size := by
  simp [St.P.size]

/-- an access is kept, and something is worth so much -/
def FAcc (B : Nat) (w1 : World) (T : Nat → Prop) (g F : Nat) (m : Sr.M) (z : Value) : Fact (fun w w' => Below w.heap.size w w') :=
  ⟨fun v w => v = z ∧ ∃ vt, RuTo B w1 T w g F m vt, fun v w w' ⟨h1, vt, h2⟩ k => ⟨h1, vt, h2.later k⟩⟩
theorem Sr.rcells_put {F : Nat} {m : Sr.M} {vt : Value} (hl : m.heap.length = 8) (c : Nat) (hc : c < 8) (x : Int) : (Sr.rcells F m vt).set c (.int .i64 x) = Sr.rcells F (m.put c x) vt := by
  unfold Sr.rcells Sr.M.put
  rw [List.set_append_left _ _ (by rw [ints_length]; omega), ints_set]






set_option maxHeartbeats 8000000 in
theorem block_step (p : St.P) (ih : ∀ q : St.P, q.size < p.size → BlockOK q) : BlockOK p := by
  intro w B n c g F A vt ve m zs l hp hnc hcm hO hfit hF hv hzs hls
  obtain ⟨g0, o, hA, hpl⟩ := hp.place
  have hn63 : n ≤ 9223372036854775807 := by unfold maxLen at hcm; omega
  have hP0 : ∀ w' (A' : Option Addr) (m' : Nat) (q : St.P), Keeps (RuT g m vt) w w' → PR B w A' m' q → PR B w' A' m' q := fun w' A' m' q k h => h.later (hO.below k)
  have HP0 := Lib.hid hP0
  obtain ⟨R, hR⟩ : ∃ R, R = Sr.run p (Ex.bs zs) l m := ⟨_, rfl⟩
  rw [← hR]
  have HR := Lib.hid (And.intro hR hp.ok)
  clear hP0 hp hR
  go_enter Tryd.func104, Tryd.ntmps104
  go_wp2
  go_loopw [2, 3, 13] (fun ve lb i wr => ∃ (k : Nat) (q : St.P) (zj : List Ex.Bd) (lj : Nat) (mj : Sr.M) (vtj : Value), k ≤ n ∧ i = .int .i64 (k : Int) ∧ lb = .int .i64 (lj : Int) ∧ PR B w (some ⟨g0, o + k * 12, none⟩) (n - k) q ∧ RuTo B w (RuT g m vt) wr g F mj vtj ∧ EnvAt wr (RuT g mj vtj) ve zj ∧ Sr.Fit F mj ∧ Sr.run q (Ex.bs zj) lj mj = R ∧ q.size ≤ p.size ∧ zj.length + q.size ≤ zs.length + p.size ∧ lj + q.size ≤ l + p.size) (fun _ _ i _ => n - (intOf i).toNat)
  case atStart => exact ⟨0, p, zs, l, m, vt, Nat.zero_le _, rfl, rfl, hpl, OwnTo.start hO, hv, hfit, HR.out.1.symm, Nat.le_refl _, Nat.le_refl _, Nat.le_refl _⟩
  case round =>
    clear hO hpl hv hfit
    obtain ⟨k, q, zj, lj, mj, vtj, hk, rfl, rfl, hq0, hW, hvj, hfj, hrun, hqs, hqz, hql⟩ := hrel
    have hq := HP0.out wr _ _ _ hW.kp hq0
    by_cases hlt : k < n
    · obtain ⟨kd, nm, ak, an, bk, bn, sa, sb, aA, bA, al, ac, bl, bc, ea, eb, D, dl, dc, E, el, ec, body, els, rest, rfl, hg, ⟨hd1, hd2, he1, he2⟩, hcell, xa, xb, pb, pe, pr⟩ := hq.next (by omega)
      have pr0 := hq0.tail (by omega)
      have hAA := hA (by omega)
      subst hAA
      have c0 : wr.cell? ⟨g0, o + k * 12, none⟩ = some (.int .i64 kd) := hcell 0 _ rfl
      have c1 := hcell 1 _ rfl
      have c2 := hcell 2 _ rfl
      have c3 := hcell 3 _ rfl
      have c4 := hcell 4 _ rfl
      have c5 := hcell 5 _ rfl
      have c6 := hcell 6 _ rfl
      have c7 := hcell 7 _ rfl
      have c8 := hcell 8 _ rfl
      have c9 := hcell 9 _ rfl
      have c10 := hcell 10 _ rfl
      have c11 := hcell 11 _ rfl
      have hd := And.intro hd1 (And.intro hd2 (And.intro he1 he2))
      have hoka := xa.ok
      have hokb := xb.ok
      have hokp := pb.ok
      have hoke := pe.ok
      have hs : body.size < p.size ∧ els.size < p.size ∧ rest.size ≤ p.size ∧ zj.length + (1 + ea.leaves + eb.leaves + body.size + els.size + rest.size) ≤ zs.length + p.size ∧ lj + (1 + ea.leaves + eb.leaves + body.size + els.size + rest.size) ≤ l + p.size := by rw [St.P.size] at hqs hqz hql; omega
      obtain ⟨VE, ce, rfl, -⟩ := hvj.sl
      have hce := hvj.addr.2
      have hrg := hvj.rng
      obtain ⟨Q, hQq⟩ : ∃ Q, Q = wr.heap.size := ⟨_, rfl⟩
      have hbA : Below wr.heap.size wr (wr.alloc (.cells (stcells kd nm (xcells ak an sa aA al ac) (xcells bk bn sb bA bl bc) D dl dc E el ec).toArray 40)) := below_alloc (Below.refl _ _) _
      have hX : StBox B Q (wr.alloc (.cells (stcells kd nm (xcells ak an sa aA al ac) (xcells bk bn sb bA bl bc) D dl dc E el ec).toArray 40)) (RuT g mj vtj) kd nm ak an sa aA al ac bk bn sb bA bl bc D dl dc E el ec ea eb body els := by
        refine StBox.of (t := 40) hbA hW.own.base (fun i hi => hW.own.ge hi) (fun h => by have := hW.own.lt h; omega) ?_ xa xb pb pe
        rw [hQq]
        exact Blk.new _ _ _
      have T0 : RuTo B (wr.alloc (.cells (stcells kd nm (xcells ak an sa aA al ac) (xcells bk bn sb bA bl bc) D dl dc E el ec).toArray 40)) (RuT g mj vtj) (wr.alloc (.cells (stcells kd nm (xcells ak an sa aA al ac) (xcells bk bn sb bA bl bc) D dl dc E el ec).toArray 40)) g F mj vtj := OwnTo.start (hW.own.later hbA)
      have v0 := hvj.later hbA
      have hQQ := Lib.hid hQq
      have HQ := Lib.hid (And.intro hs (And.intro hqs (And.intro hqz (And.intro hql (And.intro (And.intro hzs hls) pr0)))))
      have HRN := Lib.hid hrun
      have HW := Lib.hid hW
      have HC := Lib.hid hce
      clear hQq hcell hq hq0 hrun hs hqs hqz hql hW xa xb pb pe pr pr0 hvj hce
      unfold stcells xcells at hbA hX T0 v0
      simp only [List.cons_append, List.nil_append] at hbA hX T0 v0
      rcases fr_kinds kd with rfl | rfl | rfl | rfl | rfl | rfl | rfl | ⟨k1, k2, k3, k4, k5, k6, k7⟩
      · obtain ⟨y, hy⟩ : ∃ y, y = Ex.evl (Ex.bs zj) ea := ⟨_, rfl⟩
        have hry : Ex.rng y := by rw [hy]; exact Ex.evl_rng _ hrg _ hoka
        have hrun : Sr.run rest (Ex.bs (zj ++ [(nm, y)])) (lj + St.lab1 1 (St.labels body) (St.labels els)) mj.step = R := by rw [bs_snoc, hy]; exact HRN.out
        have hon1 := Sr.run_on rest (Ex.bs (zj ++ [(nm, y)])) (lj + St.lab1 1 (St.labels body) (St.labels els)) mj.step
        rw [hrun] at hon1
        have hmore : mj.steps + 1 ≤ R.steps := hon1.steps
        have HYY := Lib.hid hy
        clear hy
        go_wp2_with fail
        generalize (wr.alloc (.cells #[.int .i64 1, .string nm, .int .i64 ak, .int .i64 an, .string sa, .slice aA al ac, .int .i64 bk, .int .i64 bn, .string sb, .slice bA bl bc, .slice D dl dc, .slice E el ec] 40)) = W0 at hbA hX T0 v0 ⊢
        rw [← hQQ.out]
        clear c0 c1 c2 c3 c4 c5 c6 c7 c8 c9 c10 c11
        by_cases hst : mj.steps = F
        · have hg := step_out B W0 g F mj vtj T0.own hfj.len hst
          have hend : ∀ w1, Below W0.heap.size W0 w1 → F < R.steps ∧ Keeps (RuT g m vt) w w1 := fun w1 hb1 => ⟨by have := hmore; omega, (HW.out.kp.trans (Keeps.of_below hbA _)).trans (Keeps.of_below hb1 _)⟩
          have HH := Lib.hid hend
          clear hend hX T0 v0 hbA hst hmore
          refine hg.mono ?_
          rintro e w1 ⟨rfl, hb1⟩
          obtain ⟨h1, h2⟩ := HH.out w1 hb1
          clear hg hb1
          go_wp2
          exact ⟨rfl, .inr ⟨h1, rfl, h2⟩⟩
        have hfs : Sr.Fit F mj.step := ⟨hfj.len, hfj.rg, by have := hfj.st; show mj.steps + 1 ≤ F; omega, by have := hfj.tr; show mj.trace.length ≤ mj.steps + 1; omega⟩
        refine (step_ok B W0 g F mj vtj T0.own hfj.len (by have := hfj.st; omega) hF).mono ?_
        rintro e w1 ⟨rfl, h1⟩
        have T1 := T0.step h1
        have v1 := v0.step T1.kp T1.nw
        clear h1 T0 v0 hst hmore
        have gE : ∀ (w' : World), Below w1.heap.size w1 w' → Calls Tryd.prog 112 #[.agg #[.int .i64 ak, .int .i64 an, .string sa, .slice aA al ac], .slice VE zj.length ce] w' fun r w'' => r = .returned (.int .i64 y) ∧ Below w'.heap.size w' w'' := fun w' hb => by
          rw [HYY.out]
          exact eval_ok (.slice VE zj.length ce) zj (by have := HQ.out; omega) ea w' _ ((hX.read w' (T1.later hb).kp).1.up (T1.later hb).own.base) (v1.later hb).sl
        have keepS : ∀ w', Below w1.heap.size w1 w' → (Below w1.heap.size w1 w' ∧ w'.cell? ⟨Q, 1, none⟩ = some (.string nm) ∧ w'.cell? ⟨Q, 2, none⟩ = some (.int .i64 ak) ∧ w'.cell? ⟨Q, 3, none⟩ = some (.int .i64 an) ∧ w'.cell? ⟨Q, 4, none⟩ = some (.string sa) ∧ w'.cell? ⟨Q, 5, none⟩ = some (.slice aA al ac)) := fun w' hb => by
          obtain ⟨c0, c1, c2, c3, c4, c5, c6, c7, c8, c9, c10, c11⟩ := hX.cells w' (T1.later hb).kp
          exact ⟨hb, c1, c2, c3, c4, c5⟩
        have gS : ∀ w', Below w1.heap.size w1 w' → SlV w' 2 (.slice VE zj.length zj.length) zj.length (Ex.bindcs zj) := fun w' hb => by
          obtain ⟨A', c', e', q1, q2, q3, q4⟩ := (v1.later hb).sl
          injection e' with e1 e2 e3
          subst e1
          exact ⟨VE, zj.length, rfl, Nat.le_refl _, by have := HC.out; omega, q3, q4⟩
        have hS0 := keepS _ (below_drew (Below.refl _ _))
        have hn63 : zj.length + 1 ≤ maxLen := by have := HQ.out; unfold maxLen; omega
        have hn47 : (zj.length + 1) * 24 ≤ 140737488355328 := by have := HQ.out; omega
        have hcl : ∀ w', Calls Tryd.prog 137 #[.slice VE zj.length ce] w' fun e w'' => e = .returned (.slice VE zj.length zj.length) ∧ w' = w'' := fun w' => clip_any w' VE zj.length ce HC.out.1 HC.out.2.1 HC.out.2.2
        have HT := Lib.hid (And.intro T1 (And.intro v1 hX))
        clear T1 v1 hX
        go_wp2_with fail
        refine wp_walk (by kernel_rfl) (by kernel_rfl) (fun w w' => Below w.heap.size w w') (fun w' => (Below w1.heap.size w1 w' ∧ w'.cell? ⟨Q, 1, none⟩ = some (.string nm) ∧ w'.cell? ⟨Q, 2, none⟩ = some (.int .i64 ak) ∧ w'.cell? ⟨Q, 3, none⟩ = some (.int .i64 an) ∧ w'.cell? ⟨Q, 4, none⟩ = some (.string sa) ∧ w'.cell? ⟨Q, 5, none⟩ = some (.slice aA al ac))) hS0 ?_
        repeat (first | (refine settle_skip (fun _ => by rfl) ?_; (simp only [Act.put, List.setIfInBounds_toArray, List.set_cons_zero, List.set_cons_succ])) | (refine' settle_run (fun _ _ => Below.refl _ _) (fun _ => by rfl) ?_ ?_; rotate_left; (focus (intro ρ w hS hF; (try dsimp only at hS); go_split_ands; go_simp; try with_reducible rfl)); (simp only [Act.put, List.setIfInBounds_toArray, List.set_cons_zero, List.set_cons_succ])))
        (refine' settle_step (fun _ => by rfl) ?_ ?_; rotate_left; (focus (intro ρ w hS hF K hK; (simp only [Act.put, List.setIfInBounds_toArray, List.set_cons_zero, List.set_cons_succ] at hK); go_simp; (refine (hcl _).mono ?_; rintro e w' ⟨rfl, rfl⟩; have hS' := hS; have hE' := Below.refl w.heap.size w); exact hK _ hS' hE')); (simp only [Act.put, List.setIfInBounds_toArray, List.set_cons_zero, List.set_cons_succ]))
        repeat (first | (refine settle_skip (fun _ => by rfl) ?_; (simp only [Act.put, List.setIfInBounds_toArray, List.set_cons_zero, List.set_cons_succ])) | (refine' settle_run (fun _ _ => Below.refl _ _) (fun _ => by rfl) ?_ ?_; rotate_left; (focus (intro ρ w hS hF; (try dsimp only at hS); go_split_ands; go_simp; try with_reducible rfl)); (simp only [Act.put, List.setIfInBounds_toArray, List.set_cons_zero, List.set_cons_succ])))
        (refine' settle_step (fun _ => by rfl) ?_ ?_; rotate_left; (focus (intro ρ w hS hF K hK; (simp only [Act.put, List.setIfInBounds_toArray, List.set_cons_zero, List.set_cons_succ] at hK); go_simp; (refine (gE _ hS.1).mono ?_; rintro e w' ⟨rfl, hb'⟩; have hS' := keepS _ (below_next hb' hS.1); have hE' := hb'); exact hK _ hS' hE')); (simp only [Act.put, List.setIfInBounds_toArray, List.set_cons_zero, List.set_cons_succ]))
        repeat (first | (refine settle_skip (fun _ => by rfl) ?_; (simp only [Act.put, List.setIfInBounds_toArray, List.set_cons_zero, List.set_cons_succ])) | (refine' settle_run (fun _ _ => Below.refl _ _) (fun _ => by rfl) ?_ ?_; rotate_left; (focus (intro ρ w hS hF; (try dsimp only at hS); go_split_ands; go_simp; try with_reducible rfl)); (simp only [Act.put, List.setIfInBounds_toArray, List.set_cons_zero, List.set_cons_succ])))
        (refine settle_known (FSl 2 1 [.string nm, .int .i64 y]) (by rfl) (fun _ => by rfl)  ?_ ?_; (focus (intro ρ w hS hF K hK; (simp only [Act.put, List.setIfInBounds_toArray, List.set_cons_zero, List.set_cons_succ] at hK); go_simp; exact hK _ _ (SlV.lit w [.string nm, .int .i64 y] 203 2 1 rfl (by decide)) (keepS _ (below_alloc hS.1 _)) (below_alloc (Below.refl _ _) _))); (simp only [Act.put, List.setIfInBounds_toArray, List.set_cons_zero, List.set_cons_succ]))
        (refine settle_known (FRow w1.heap.size 203 2 (zj.length + 1) (Ex.bindcs zj ++ ([.string nm, .int .i64 y] : List Value))) (by rfl) (fun _ => by rfl) ?_ ?_; (focus (intro ρ w hS hF K hK; refine oper_full (.tmp 24) (.tmp 32) _ _ _ _ _ Tryd.underlying162 info_bnd rfl (by decide) (gS w hS.1) (hF.1 (by rfl)) (bindc_one (nm, y)) (by decide) hn63 hn47 rfl rfl rfl ?_; intro v' w' hown hb; exact hK v' w' (own_base hown hS.1.size) (keepS _ (below_next hb hS.1)) hb)); (simp only [Act.put, List.setIfInBounds_toArray, List.set_cons_zero, List.set_cons_succ]))
        (refine settle_known (FRow w1.heap.size 203 2 (zj.length + 1) (Ex.bindcs zj ++ ([.string nm, .int .i64 y] : List Value))) (by rfl) (fun _ => by rfl)  ?_ ?_; (focus (intro ρ w hS hF K hK; (simp only [Act.put, List.setIfInBounds_toArray, List.set_cons_zero, List.set_cons_succ] at hK); go_simp; exact hK _ _ (hF.1 (by rfl)) hS (Below.refl _ _))); (simp only [Act.put, List.setIfInBounds_toArray, List.set_cons_zero, List.set_cons_succ]))
        refine settle_nil ?_
        intro ρ w4 hS hF
        have hrow : w4.ownsRow w1.heap.size 203 2 (ρ 2) (zj.length + 1) (Ex.bindcs zj ++ Ex.bindc (nm, y)) := hF 2 (FRow w1.heap.size 203 2 (zj.length + 1) (Ex.bindcs zj ++ ([.string nm, .int .i64 y] : List Value))) (by repeat (first | exact List.mem_cons_self | apply List.mem_cons_of_mem))
        have hb4 := hS.1
        clear hF hS hS0 keepS gS hcl gE
        dsimp only
        generalize ρ 33 = v33
        generalize ρ 32 = v32
        generalize ρ 2 = v4 at hrow ⊢
        obtain ⟨T1, v1, hX⟩ := HT.out
        have T4 := T1.later hb4
        have v4e : EnvAt w4 (RuT g mj.step vtj) v4 (zj ++ [(nm, y)]) := v1.grown hry (fun k hk => T1.own.lt hk) hrow
        obtain ⟨V4, c4', rfl, -, -⟩ := own_slice hrow
        clear HT T1 v1 hb4 hrow
        have HZ := Lib.hid (And.intro T4 (And.intro v4e hfs))
        obtain ⟨c0, c1, c2, c3, c4, c5, c6, c7, c8, c9, c10, c11⟩ := hX.cells _ T4.kp
        obtain ⟨xa, xb, pb, pe⟩ := hX.read _ T4.kp
        have hlab := labels_any (.cons 1 nm.data.toList ea eb body els .nil) _ _ 1 1 _ (Nat.le_refl _) (one_pr 40 T4.own.base xa xb pb pe hd) (Nat.le_refl _) (by decide) (by rw [size_one]; have := HQ.out; omega)
        have hlo := T4.own.base
        unfold stcells xcells at hlab
        rw [labels_one] at hlab
        have hlb := St.lab1_le 1 (St.labels body) (St.labels els)
        have hlb1 := St.labels_le body
        have hlb2 := St.labels_le els
        have hlz : lj + (1 + St.labels body + St.labels els) ≤ 576460752303423488 := by have := HQ.out; omega
        have HL := Lib.hid (And.intro hlb (And.intro hlb1 (And.intro hlb2 hlz)))
        clear T4 v4e hfs xa xb pb pe hlb hlb1 hlb2 hlz hX
        try go_wp2_with fail
        refine hlab.mono ?_
        rintro e wl ⟨rfl, hbl⟩
        have hbl2 := below_next hbl (below_alloc (Below.refl _ _) _)
        have TE := ((HW.out.later hbA).step HZ.out.1).later hbl2
        have vE := HZ.out.2.1.later hbl2
        have HE := Lib.hid (And.intro TE vE)
        clear hlab hbl hbl2 TE vE hbA c0 c1 c2 c3 c4 c5 c6 c7 c8 c9 c10 c11
        go_wp2_with fail
        go_roundw
        case rel => exact ⟨k + 1, rest, _, lj + St.lab1 1 (St.labels body) (St.labels els), _, _, by omega, by go_num, by rw [i64_add _ _ (by have := HL.out; omega)], by rw [show n - (k + 1) = n - k - 1 by omega]; exact HQ.out.2.2.2.2.2, HE.out.1, HE.out.2, HZ.out.2.2, hrun, by have := HQ.out; omega, by have := HQ.out; first | omega | (simp only [List.length_append, List.length_singleton]; omega), by have := HQ.out; have := HL.out; omega⟩
        case measure => simp [intOf]; omega
      · obtain ⟨y, hy⟩ : ∃ y, y = Ex.evl (Ex.bs zj) ea := ⟨_, rfl⟩
        obtain ⟨c, hc⟩ : ∃ c, c = Sr.cell y := ⟨_, rfl⟩
        obtain ⟨x, hx⟩ : ∃ x, x = mj.heap.getD c 0 := ⟨_, rfl⟩
        have hc8 : c < 8 := by rw [hc]; exact Sr.cell_lt y
        have hrx : Ex.rng x := by rw [hx]; exact Sr.getD_rng hfj.rg c
        have hc8i : (c : Int) < 8 := by omega
        have hrun : Sr.run rest (Ex.bs (zj ++ [(nm, x)])) (lj + St.lab1 2 (St.labels body) (St.labels els)) (mj.step.acc c false lj) = R := by rw [bs_snoc, hx, hc, hy]; exact HRN.out
        have hon1 := Sr.run_on rest (Ex.bs (zj ++ [(nm, x)])) (lj + St.lab1 2 (St.labels body) (St.labels els)) (mj.step.acc c false lj)
        rw [hrun] at hon1
        have hmore : mj.steps + 1 ≤ R.steps := hon1.steps
        have f3 : mj.steps + 1 ≤ F → Sr.Fit F (mj.step.acc c false lj) := fun hs => ⟨hfj.len, hfj.rg, hs, by have := hfj.tr; show (mj.trace ++ [_]).length ≤ mj.steps + 1; simp; omega⟩
        have HYY := Lib.hid (And.intro hy (And.intro hc hx))
        clear hy hx
        go_wp2_with fail
        generalize (wr.alloc (.cells #[.int .i64 2, .string nm, .int .i64 ak, .int .i64 an, .string sa, .slice aA al ac, .int .i64 bk, .int .i64 bn, .string sb, .slice bA bl bc, .slice D dl dc, .slice E el ec] 40)) = W0 at hbA hX T0 v0 ⊢
        rw [← hQQ.out]
        clear c0 c1 c2 c3 c4 c5 c6 c7 c8 c9 c10 c11
        by_cases hst : mj.steps = F
        · have hg := step_out B W0 g F mj vtj T0.own hfj.len hst
          have hend : ∀ w1, Below W0.heap.size W0 w1 → F < R.steps ∧ Keeps (RuT g m vt) w w1 := fun w1 hb1 => ⟨by have := hmore; omega, (HW.out.kp.trans (Keeps.of_below hbA _)).trans (Keeps.of_below hb1 _)⟩
          have HH := Lib.hid hend
          clear hend hX T0 v0 hbA hst hmore
          refine hg.mono ?_
          rintro e w1 ⟨rfl, hb1⟩
          obtain ⟨h1, h2⟩ := HH.out w1 hb1
          clear hg hb1
          go_wp2
          exact ⟨rfl, .inr ⟨h1, rfl, h2⟩⟩
        have hfs : Sr.Fit F mj.step := ⟨hfj.len, hfj.rg, by have := hfj.st; show mj.steps + 1 ≤ F; omega, by have := hfj.tr; show mj.trace.length ≤ mj.steps + 1; omega⟩
        refine (step_ok B W0 g F mj vtj T0.own hfj.len (by have := hfj.st; omega) hF).mono ?_
        rintro e w1 ⟨rfl, h1⟩
        have T1 := T0.step h1
        have v1 := v0.step T1.kp T1.nw
        clear h1 T0 v0 hst hmore
        have f3 := f3 hfs.st
        obtain ⟨c0, c1, c2, c3, c4, c5, c6, c7, c8, c9, c10, c11⟩ := hX.cells _ T1.kp
        obtain ⟨xa, xb, pb, pe⟩ := hX.read _ T1.kp
        have gE : Calls Tryd.prog 112 #[.agg #[.int .i64 ak, .int .i64 an, .string sa, .slice aA al ac], .slice VE zj.length ce] w1 fun r w'' => r = .returned (.int .i64 y) ∧ Below w1.heap.size w1 w'' := by
          rw [HYY.out.1]
          exact eval_ok (.slice VE zj.length ce) zj (by have := HQ.out; omega) ea w1 _ (xa.up T1.own.base) v1.sl
        clear c0 c1 xa xb pb pe
        go_wp2_with fail
        refine gE.mono ?_
        rintro e w2 ⟨rfl, hb2⟩
        have T2 := T1.later hb2
        have v2 := v1.later hb2
        have hacc := access_any B w2 g F mj.step vtj y false lj T2.own hfs.len (by have := hfs.st; have := hfs.tr; omega)
        rw [← hc] at hacc
        clear gE T1 v1 c2 c3 c4 c5 c6 c7 c8 c9 c10 c11 hb2 hc
        go_wp2_with fail
        refine hacc.mono ?_
        rintro e w3 ⟨rfl, vt3, h3⟩
        have T3 := T2.step h3
        have v3 := v2.step h3.kp h3.nw
        have keepS : ∀ w', Below w3.heap.size w3 w' → (Below w3.heap.size w3 w' ∧ w'.cell? ⟨Q, 1, none⟩ = some (.string nm) ∧ w'.cell? ⟨g, c, none⟩ = some (.int .i64 x)) := fun w' hb => by
          obtain ⟨c0, c1, -⟩ := hX.cells w' (T3.later hb).kp
          exact ⟨hb, c1, by rw [HYY.out.2.2]; exact ((T3.later hb).own.blk.cell c).trans ((Sr.rcells_get f3.len).1 c hc8)⟩
        have gS : ∀ w', Below w3.heap.size w3 w' → SlV w' 2 (.slice VE zj.length zj.length) zj.length (Ex.bindcs zj) := fun w' hb => by
          obtain ⟨A', c', e', q1, q2, q3, q4⟩ := (v3.later hb).sl
          injection e' with e1 e2 e3
          subst e1
          exact ⟨VE, zj.length, rfl, Nat.le_refl _, by have := HC.out; omega, q3, q4⟩
        have hS0 := keepS _ (below_drew (Below.refl _ _))
        have hn63 : zj.length + 1 ≤ maxLen := by have := HQ.out; unfold maxLen; omega
        have hn47 : (zj.length + 1) * 24 ≤ 140737488355328 := by have := HQ.out; omega
        have hcl : ∀ w', Calls Tryd.prog 137 #[.slice VE zj.length ce] w' fun e w'' => e = .returned (.slice VE zj.length zj.length) ∧ w' = w'' := fun w' => clip_any w' VE zj.length ce HC.out.1 HC.out.2.1 HC.out.2.2
        have HT := Lib.hid (And.intro T3 (And.intro v3 hX))
        clear T3 v3 hX h3 hacc T2 v2
        go_wp2_with fail
        refine wp_walk (by kernel_rfl) (by kernel_rfl) (fun w w' => Below w.heap.size w w') (fun w' => (Below w3.heap.size w3 w' ∧ w'.cell? ⟨Q, 1, none⟩ = some (.string nm) ∧ w'.cell? ⟨g, c, none⟩ = some (.int .i64 x))) hS0 ?_
        repeat (first | (refine settle_skip (fun _ => by rfl) ?_; (simp only [Act.put, List.setIfInBounds_toArray, List.set_cons_zero, List.set_cons_succ])) | (refine' settle_run (fun _ _ => Below.refl _ _) (fun _ => by rfl) ?_ ?_; rotate_left; (focus (intro ρ w hS hF; (try dsimp only at hS); go_split_ands; go_simp; try with_reducible rfl)); (simp only [Act.put, List.setIfInBounds_toArray, List.set_cons_zero, List.set_cons_succ])))
        (refine' settle_step (fun _ => by rfl) ?_ ?_; rotate_left; (focus (intro ρ w hS hF K hK; (simp only [Act.put, List.setIfInBounds_toArray, List.set_cons_zero, List.set_cons_succ] at hK); go_simp; (refine (hcl _).mono ?_; rintro e w' ⟨rfl, rfl⟩; have hS' := hS; have hE' := Below.refl w.heap.size w); exact hK _ hS' hE')); (simp only [Act.put, List.setIfInBounds_toArray, List.set_cons_zero, List.set_cons_succ]))
        repeat (first | (refine settle_skip (fun _ => by rfl) ?_; (simp only [Act.put, List.setIfInBounds_toArray, List.set_cons_zero, List.set_cons_succ])) | (refine' settle_run (fun _ _ => Below.refl _ _) (fun _ => by rfl) ?_ ?_; rotate_left; (focus (intro ρ w hS hF; (try dsimp only at hS); go_split_ands; go_simp; try with_reducible rfl)); (simp only [Act.put, List.setIfInBounds_toArray, List.set_cons_zero, List.set_cons_succ])))
        (refine settle_known (FSl 2 1 [.string nm, .int .i64 x]) (by rfl) (fun _ => by rfl)  ?_ ?_; (focus (intro ρ w hS hF K hK; (simp only [Act.put, List.setIfInBounds_toArray, List.set_cons_zero, List.set_cons_succ] at hK); go_simp; exact hK _ _ (SlV.lit w [.string nm, .int .i64 x] 203 2 1 rfl (by decide)) (keepS _ (below_alloc hS.1 _)) (below_alloc (Below.refl _ _) _))); (simp only [Act.put, List.setIfInBounds_toArray, List.set_cons_zero, List.set_cons_succ]))
        (refine settle_known (FRow w3.heap.size 203 2 (zj.length + 1) (Ex.bindcs zj ++ ([.string nm, .int .i64 x] : List Value))) (by rfl) (fun _ => by rfl) ?_ ?_; (focus (intro ρ w hS hF K hK; refine oper_full (.tmp 46) (.tmp 56) _ _ _ _ _ Tryd.underlying162 info_bnd rfl (by decide) (gS w hS.1) (hF.1 (by rfl)) (bindc_one (nm, x)) (by decide) hn63 hn47 rfl rfl rfl ?_; intro v' w' hown hb; exact hK v' w' (own_base hown hS.1.size) (keepS _ (below_next hb hS.1)) hb)); (simp only [Act.put, List.setIfInBounds_toArray, List.set_cons_zero, List.set_cons_succ]))
        (refine settle_known (FRow w3.heap.size 203 2 (zj.length + 1) (Ex.bindcs zj ++ ([.string nm, .int .i64 x] : List Value))) (by rfl) (fun _ => by rfl)  ?_ ?_; (focus (intro ρ w hS hF K hK; (simp only [Act.put, List.setIfInBounds_toArray, List.set_cons_zero, List.set_cons_succ] at hK); go_simp; exact hK _ _ (hF.1 (by rfl)) hS (Below.refl _ _))); (simp only [Act.put, List.setIfInBounds_toArray, List.set_cons_zero, List.set_cons_succ]))
        refine settle_nil ?_
        intro ρ w4 hS hF
        have hrow : w4.ownsRow w3.heap.size 203 2 (ρ 2) (zj.length + 1) (Ex.bindcs zj ++ Ex.bindc (nm, x)) := hF 2 (FRow w3.heap.size 203 2 (zj.length + 1) (Ex.bindcs zj ++ ([.string nm, .int .i64 x] : List Value))) (by repeat (first | exact List.mem_cons_self | apply List.mem_cons_of_mem))
        have hb4 := hS.1
        clear hF hS hS0 keepS gS hcl
        dsimp only
        generalize ρ 57 = v57
        generalize ρ 56 = v56
        generalize ρ 2 = v4 at hrow ⊢
        obtain ⟨T3, v3, hX⟩ := HT.out
        have T4 := T3.later hb4
        have v4e : EnvAt w4 (RuT g (mj.step.acc c false lj) vt3) v4 (zj ++ [(nm, x)]) := v3.grown hrx (fun k hk => T3.own.lt hk) hrow
        obtain ⟨V4, c4', rfl, -, -⟩ := own_slice hrow
        clear HT T3 v3 hb4 hrow hc8
        have HZ := Lib.hid (And.intro T4 (And.intro v4e f3))
        obtain ⟨c0, c1, c2, c3, c4, c5, c6, c7, c8, c9, c10, c11⟩ := hX.cells _ T4.kp
        obtain ⟨xa, xb, pb, pe⟩ := hX.read _ T4.kp
        have hlab := labels_any (.cons 2 nm.data.toList ea eb body els .nil) _ _ 1 1 _ (Nat.le_refl _) (one_pr 40 T4.own.base xa xb pb pe hd) (Nat.le_refl _) (by decide) (by rw [size_one]; have := HQ.out; omega)
        have hlo := T4.own.base
        unfold stcells xcells at hlab
        rw [labels_one] at hlab
        have hlb := St.lab1_le 2 (St.labels body) (St.labels els)
        have hlb1 := St.labels_le body
        have hlb2 := St.labels_le els
        have hlz : lj + (1 + St.labels body + St.labels els) ≤ 576460752303423488 := by have := HQ.out; omega
        have HL := Lib.hid (And.intro hlb (And.intro hlb1 (And.intro hlb2 hlz)))
        clear T4 v4e f3 xa xb pb pe hlb hlb1 hlb2 hlz hX
        try go_wp2_with fail
        refine hlab.mono ?_
        rintro e wl ⟨rfl, hbl⟩
        have hbl2 := below_next hbl (below_alloc (Below.refl _ _) _)
        have TE := ((HW.out.later hbA).step HZ.out.1).later hbl2
        have vE := HZ.out.2.1.later hbl2
        have HE := Lib.hid (And.intro TE vE)
        clear hlab hbl hbl2 TE vE hbA c0 c1 c2 c3 c4 c5 c6 c7 c8 c9 c10 c11
        go_wp2_with fail
        go_roundw
        case rel => exact ⟨k + 1, rest, _, lj + St.lab1 2 (St.labels body) (St.labels els), _, _, by omega, by go_num, by rw [i64_add _ _ (by have := HL.out; omega)], by rw [show n - (k + 1) = n - k - 1 by omega]; exact HQ.out.2.2.2.2.2, HE.out.1, HE.out.2, HZ.out.2.2, hrun, by have := HQ.out; omega, by have := HQ.out; first | omega | (simp only [List.length_append, List.length_singleton]; omega), by have := HQ.out; have := HL.out; omega⟩
        case measure => simp [intOf]; omega
      · obtain ⟨y, hy⟩ : ∃ y, y = Ex.evl (Ex.bs zj) ea := ⟨_, rfl⟩
        obtain ⟨c, hc⟩ : ∃ c, c = Sr.cell y := ⟨_, rfl⟩
        obtain ⟨x, hx⟩ : ∃ x, x = Ex.evl (Ex.bs zj) eb := ⟨_, rfl⟩
        have hc8 : c < 8 := by rw [hc]; exact Sr.cell_lt y
        have hc8i : (c : Int) < 8 := by omega
        have hrx : Ex.rng x := by rw [hx]; exact Ex.evl_rng _ hrg _ hokb
        have hrun : Sr.run rest (Ex.bs zj) (lj + St.lab1 3 (St.labels body) (St.labels els)) ((mj.step.acc c true lj).put c x) = R := by rw [hx, hc, hy]; exact HRN.out
        have hon1 := Sr.run_on rest (Ex.bs zj) (lj + St.lab1 3 (St.labels body) (St.labels els)) ((mj.step.acc c true lj).put c x)
        rw [hrun] at hon1
        have hmore : mj.steps + 1 ≤ R.steps := hon1.steps
        have f3 : mj.steps + 1 ≤ F → Sr.Fit F (mj.step.acc c true lj) := fun hs => ⟨hfj.len, hfj.rg, hs, by have := hfj.tr; show (mj.trace ++ [_]).length ≤ mj.steps + 1; simp; omega⟩
        have f4 : mj.steps + 1 ≤ F → Sr.Fit F ((mj.step.acc c true lj).put c x) := fun hs => ⟨by show (mj.heap.set c x).length = 8; simp [hfj.len], fun z hz => by
          rcases List.mem_or_eq_of_mem_set (show z ∈ mj.heap.set c x from hz) with hz | rfl
          · exact hfj.rg z hz
          · exact hrx, hs, (f3 hs).tr⟩
        have HYY := Lib.hid (And.intro hy (And.intro hc hx))
        clear hy hx hc
        go_wp2_with fail
        generalize (wr.alloc (.cells #[.int .i64 3, .string nm, .int .i64 ak, .int .i64 an, .string sa, .slice aA al ac, .int .i64 bk, .int .i64 bn, .string sb, .slice bA bl bc, .slice D dl dc, .slice E el ec] 40)) = W0 at hbA hX T0 v0 ⊢
        rw [← hQQ.out]
        clear c0 c1 c2 c3 c4 c5 c6 c7 c8 c9 c10 c11
        by_cases hst : mj.steps = F
        · have hg := step_out B W0 g F mj vtj T0.own hfj.len hst
          have hend : ∀ w1, Below W0.heap.size W0 w1 → F < R.steps ∧ Keeps (RuT g m vt) w w1 := fun w1 hb1 => ⟨by have := hmore; omega, (HW.out.kp.trans (Keeps.of_below hbA _)).trans (Keeps.of_below hb1 _)⟩
          have HH := Lib.hid hend
          clear hend hX T0 v0 hbA hst hmore
          refine hg.mono ?_
          rintro e w1 ⟨rfl, hb1⟩
          obtain ⟨h1, h2⟩ := HH.out w1 hb1
          clear hg hb1
          go_wp2
          exact ⟨rfl, .inr ⟨h1, rfl, h2⟩⟩
        have hfs : Sr.Fit F mj.step := ⟨hfj.len, hfj.rg, by have := hfj.st; show mj.steps + 1 ≤ F; omega, by have := hfj.tr; show mj.trace.length ≤ mj.steps + 1; omega⟩
        refine (step_ok B W0 g F mj vtj T0.own hfj.len (by have := hfj.st; omega) hF).mono ?_
        rintro e w1 ⟨rfl, h1⟩
        have T1 := T0.step h1
        have v1 := v0.step T1.kp T1.nw
        clear h1 T0 v0 hst hmore
        have f3 := f3 hfs.st
        have f4 := f4 hfs.st
        have hkk : ∀ w', Keeps (RuT g mj.step vtj) w1 w' → Keeps (RuT g mj vtj) W0 w' := fun w' k => T1.kp.step k (fun i hi ht => (T1.nw i ht).resolve_right (by omega))
        have keepS : ∀ w', Keeps (RuT g mj.step vtj) w1 w' → (Keeps (RuT g mj.step vtj) w1 w' ∧ w'.cell? ⟨Q, 2, none⟩ = some (.int .i64 ak) ∧ w'.cell? ⟨Q, 3, none⟩ = some (.int .i64 an) ∧ w'.cell? ⟨Q, 4, none⟩ = some (.string sa) ∧ w'.cell? ⟨Q, 5, none⟩ = some (.slice aA al ac) ∧
          w'.cell? ⟨Q, 6, none⟩ = some (.int .i64 bk) ∧ w'.cell? ⟨Q, 7, none⟩ = some (.int .i64 bn) ∧ w'.cell? ⟨Q, 8, none⟩ = some (.string sb) ∧ w'.cell? ⟨Q, 9, none⟩ = some (.slice bA bl bc)) := fun w' hb => by
          obtain ⟨c0, c1, c2, c3, c4, c5, c6, c7, c8, c9, c10, c11⟩ := hX.cells w' (hkk w' hb)
          exact ⟨hb, c2, c3, c4, c5, c6, c7, c8, c9⟩
        have gE : ∀ (w' : World) (ck cn : Int) (sc : ByteArray) (cA : Option Addr) (cl cc : Nat) (e : Ex.X) (z : Int), z = Ex.evl (Ex.bs zj) e → Keeps (RuT g mj.step vtj) w1 w' → XR B w' (xcells ck cn sc cA cl cc) e → Calls Tryd.prog 112 #[.agg #[.int .i64 ck, .int .i64 cn, .string sc, .slice cA cl cc], .slice VE zj.length ce] w' fun r w'' => r = .returned (.int .i64 z) ∧ Below w'.heap.size w' w'' := fun w' ck cn sc cA cl cc e z hz hb hx => by
          rw [hz]
          exact eval_ok (.slice VE zj.length ce) zj (by have := HQ.out; omega) e w' _ (hx.up (Nat.le_trans T1.own.base hb.size)) (v1.step hb (fun i h => .inl h)).sl
        have gX : ∀ w', Keeps (RuT g mj.step vtj) w1 w' → XR B w' (xcells ak an sa aA al ac) ea ∧ XR B w' (xcells bk bn sb bA bl bc) eb := fun w' hb => ⟨(hX.read w' (hkk w' hb)).1, (hX.read w' (hkk w' hb)).2.1⟩
        have gA : ∀ w', Below w1.heap.size w1 w' → Calls Tryd.prog 138 #[.pointer (some ⟨g, 0, none⟩), .int .i64 y, .bool true, .int .i64 (lj : Int)] w' fun e w'' => e = .returned (.int .i64 (c : Int)) ∧ ∃ vt', RuTo B w1 (RuT g mj.step vtj) w'' g F (mj.step.acc c true lj) vt' := fun w' hb => by
          have h := access_any B w' g F mj.step vtj y true lj (T1.own.later hb) hfs.len (by have := hfs.st; have := hfs.tr; omega)
          rw [← HYY.out.2.1] at h
          exact h.mono fun e w'' ⟨h1, vt', h2⟩ => ⟨h1, vt', h2.since hb⟩
        have hS1 := keepS _ ((Keeps.refl _ w1).drewN 1)
        have HT := Lib.hid (And.intro T1 (And.intro v1 (And.intro hX (And.intro f3 f4))))
        clear T1 v1 hX hkk f3 f4
        go_wp2_with fail
        refine wp_walk_mt 15 (fun i => ([7] : List Nat).contains i) (fun i => ([0,8,9,10,12,13] : List Nat).contains i) [7] (by intro m h; simpa using h) (by kernel_rfl) (by kernel_rfl) (by kernel_rfl) (fun w w' => Below w.heap.size w w')  (fun w' => (Keeps (RuT g mj.step vtj) w1 w' ∧ w'.cell? ⟨Q, 2, none⟩ = some (.int .i64 ak) ∧ w'.cell? ⟨Q, 3, none⟩ = some (.int .i64 an) ∧ w'.cell? ⟨Q, 4, none⟩ = some (.string sa) ∧ w'.cell? ⟨Q, 5, none⟩ = some (.slice aA al ac) ∧ w'.cell? ⟨Q, 6, none⟩ = some (.int .i64 bk) ∧ w'.cell? ⟨Q, 7, none⟩ = some (.int .i64 bn) ∧ w'.cell? ⟨Q, 8, none⟩ = some (.string sb) ∧ w'.cell? ⟨Q, 9, none⟩ = some (.slice bA bl bc))) (fun w' => Below w1.heap.size w1 w') hS1 (below_drew (Below.refl _ _)) (fun _ _ h h' => below_next h' h) ?_
        simp only [List.length_cons, List.length_nil, Nat.reduceAdd, Nat.reduceSub, List.take_succ_cons, List.take_zero, List.drop_succ_cons, List.drop_zero]
        repeat (first | (refine nsettle_skip (by rfl) (fun _ => by rfl) ?_; (simp only [Act.put, List.setIfInBounds_toArray, List.set_cons_zero, List.set_cons_succ])) | (refine' nsettle_run (by rfl) (fun _ _ => Below.refl _ _) (fun _ => by rfl) ?_ ?_; rotate_left; (focus (intro ρ w hS hF hP; (try dsimp only at hS); go_split_ands; go_simp; try with_reducible rfl)); (simp only [Act.put, List.setIfInBounds_toArray, List.set_cons_zero, List.set_cons_succ])))
        (refine' nsettle_step (by rfl) (fun _ => by rfl) ?_ ?_; rotate_left; (focus (intro ρ w hS hF hP K hK; (simp only [Act.put, List.setIfInBounds_toArray, List.set_cons_zero, List.set_cons_succ] at hK); go_simp; (refine (gE _ _ _ _ _ _ _ _ y HYY.out.1 hS.1 (gX _ hS.1).1).mono ?_; rintro e w' ⟨rfl, hb'⟩; have hS' := keepS _ (hS.1.trans (Keeps.of_below hb' _)); have hE' := hb'); exact hK _ hS' hE')); (simp only [Act.put, List.setIfInBounds_toArray, List.set_cons_zero, List.set_cons_succ]))
        repeat (first | (refine nsettle_skip (by rfl) (fun _ => by rfl) ?_; (simp only [Act.put, List.setIfInBounds_toArray, List.set_cons_zero, List.set_cons_succ])) | (refine' nsettle_run (by rfl) (fun _ _ => Below.refl _ _) (fun _ => by rfl) ?_ ?_; rotate_left; (focus (intro ρ w hS hF hP; (try dsimp only at hS); go_split_ands; go_simp; try with_reducible rfl)); (simp only [Act.put, List.setIfInBounds_toArray, List.set_cons_zero, List.set_cons_succ])))
        (refine nsettle_mark (FAcc B w1 (RuT g mj.step vtj) g F (mj.step.acc c true lj) (.int .i64 (c : Int))) (by rfl) (by rfl) (by rfl) (fun _ => by rfl) ?_ ?_; (focus (intro ρ w hS hF hP K hK; (simp only [Act.put, List.setIfInBounds_toArray, List.set_cons_zero, List.set_cons_succ] at hK); go_simp; (refine (gA _ (hP (by rfl))).mono ?_; rintro e w' ⟨rfl, vt', h'⟩; exact hK _ _ ⟨rfl, vt', h'⟩ (keepS _ h'.kp)))); (simp only [Act.put, List.setIfInBounds_toArray, List.set_cons_zero, List.set_cons_succ]))
        repeat (first | (refine nsettle_skip (by rfl) (fun _ => by rfl) ?_; (simp only [Act.put, List.setIfInBounds_toArray, List.set_cons_zero, List.set_cons_succ])) | (refine' nsettle_run (by rfl) (fun _ _ => Below.refl _ _) (fun _ => by rfl) ?_ ?_; rotate_left; (focus (intro ρ w hS hF hP; (try dsimp only at hS); go_split_ands; go_simp; try with_reducible rfl)); (simp only [Act.put, List.setIfInBounds_toArray, List.set_cons_zero, List.set_cons_succ])))
        (refine' nsettle_step (by rfl) (fun _ => by rfl) ?_ ?_; rotate_left; (focus (intro ρ w hS hF hP K hK; (simp only [Act.put, List.setIfInBounds_toArray, List.set_cons_zero, List.set_cons_succ] at hK); go_simp; (refine (gE _ _ _ _ _ _ _ _ x HYY.out.2.2 hS.1 (gX _ hS.1).2).mono ?_; rintro e w' ⟨rfl, hb'⟩; have hS' := keepS _ (hS.1.trans (Keeps.of_below hb' _)); have hE' := hb'); exact hK _ hS' hE')); (simp only [Act.put, List.setIfInBounds_toArray, List.set_cons_zero, List.set_cons_succ]))
        repeat (first | (refine nsettle_skip (by rfl) (fun _ => by rfl) ?_; (simp only [Act.put, List.setIfInBounds_toArray, List.set_cons_zero, List.set_cons_succ])) | (refine' nsettle_run (by rfl) (fun _ _ => Below.refl _ _) (fun _ => by rfl) ?_ ?_; rotate_left; (focus (intro ρ w hS hF hP; (try dsimp only at hS); go_split_ands; go_simp; try with_reducible rfl)); (simp only [Act.put, List.setIfInBounds_toArray, List.set_cons_zero, List.set_cons_succ])))
        (refine nsettle_known (FAcc B w1 (RuT g mj.step vtj) g F (mj.step.acc c true lj) (.pointer (some ⟨g, c, none⟩))) (by rfl) (by rfl) (by rfl) (fun _ => by rfl)  ?_ ?_; (focus (intro ρ w hS hF hP K hK; (simp only [Act.put, List.setIfInBounds_toArray, List.set_cons_zero, List.set_cons_succ] at hK); go_simp; (obtain ⟨hv, vt', h'⟩ := hF.1 (by rfl); rw [hv] at hK ⊢; go_simp; exact hK _ _ ⟨rfl, vt', h'⟩ hS (Below.refl _ _)))); (simp only [Act.put, List.setIfInBounds_toArray, List.set_cons_zero, List.set_cons_succ]))
        refine nsettle_nil ?_
        intro ρ w4 hS hF
        obtain ⟨hv76, vt4, h4⟩ := hF 76 (FAcc B w1 (RuT g mj.step vtj) g F (mj.step.acc c true lj) (.pointer (some ⟨g, c, none⟩))) (by repeat (first | exact List.mem_cons_self | apply List.mem_cons_of_mem))
        obtain ⟨T1, v1, hX, f3, f4⟩ := HT.out
        have v4 := v1.step h4.kp h4.nw
        have T4 := T1.step h4
        have hB4 := h4.own.blk
        have hend : ∀ w5, Blk w5 g 116 ((Sr.rcells F (mj.step.acc c true lj) vt4).set c (.int .i64 x)) → w4.grownBy w5 (some g) → RuTo B W0 (RuT g mj vtj) w5 g F ((mj.step.acc c true lj).put c x) vt4 ∧ EnvAt w5 (RuT g ((mj.step.acc c true lj).put c x) vt4) (.slice VE zj.length ce) zj := fun w5 b5 g5 => by
          have h5 := h4.own.cells_to b5 g5
          rw [Sr.rcells_put f3.len c hc8] at h5
          exact ⟨T4.step h5, v4.step h5.kp h5.nw⟩
        have hcl8 : c < (Sr.rcells F (mj.step.acc c true lj) vt4).length := by unfold Sr.rcells; rw [List.length_append, ints_length, f3.len]; simp; omega
        have HE4 := Lib.hid hend
        clear hend hF hS hS1 keepS gE gX gA HT T1 v1 v4 T4 h4 f3
        dsimp only
        rw [hv76]
        generalize ρ 69 = v69
        clear hv76
        go_wp2_with (first | (refine wpl_set_blk hB4 c (.int .i64 x) (by kernel_rfl) hcl8 rfl rfl rfl rfl rfl rfl ?_; intro w5 hB5 hg5; obtain ⟨T5, v5⟩ := HE4.out w5 hB5 hg5; obtain ⟨c0, c1, c2, c3, c4, c5, c6, c7, c8, c9, c10, c11⟩ := hX.cells _ T5.kp; clear hB4 hB5 hg5 HE4 hcl8) | fail)
        clear c0 c1 c2 c3 c4 c5 c6 c7 c8 c9 c10 c11
        clear hc8 hc8i
        have HZ := Lib.hid (And.intro T5 (And.intro v5 f4))
        obtain ⟨c0, c1, c2, c3, c4, c5, c6, c7, c8, c9, c10, c11⟩ := hX.cells _ T5.kp
        obtain ⟨xa, xb, pb, pe⟩ := hX.read _ T5.kp
        have hlab := labels_any (.cons 3 nm.data.toList ea eb body els .nil) _ _ 1 1 _ (Nat.le_refl _) (one_pr 40 T5.own.base xa xb pb pe hd) (Nat.le_refl _) (by decide) (by rw [size_one]; have := HQ.out; omega)
        have hlo := T5.own.base
        unfold stcells xcells at hlab
        rw [labels_one] at hlab
        have hlb := St.lab1_le 3 (St.labels body) (St.labels els)
        have hlb1 := St.labels_le body
        have hlb2 := St.labels_le els
        have hlz : lj + (1 + St.labels body + St.labels els) ≤ 576460752303423488 := by have := HQ.out; omega
        have HL := Lib.hid (And.intro hlb (And.intro hlb1 (And.intro hlb2 hlz)))
        clear T5 v5 f4 xa xb pb pe hlb hlb1 hlb2 hlz hX
        try go_wp2_with fail
        refine hlab.mono ?_
        rintro e wl ⟨rfl, hbl⟩
        have hbl2 := below_next hbl (below_alloc (Below.refl _ _) _)
        have TE := ((HW.out.later hbA).step HZ.out.1).later hbl2
        have vE := HZ.out.2.1.later hbl2
        have HE := Lib.hid (And.intro TE vE)
        clear hlab hbl hbl2 TE vE hbA c0 c1 c2 c3 c4 c5 c6 c7 c8 c9 c10 c11
        go_wp2_with fail
        go_roundw
        case rel => exact ⟨k + 1, rest, _, lj + St.lab1 3 (St.labels body) (St.labels els), _, _, by omega, by go_num, by rw [i64_add _ _ (by have := HL.out; omega)], by rw [show n - (k + 1) = n - k - 1 by omega]; exact HQ.out.2.2.2.2.2, HE.out.1, HE.out.2, HZ.out.2.2, hrun, by have := HQ.out; omega, by have := HQ.out; first | omega | (simp only [List.length_append, List.length_singleton]; omega), by have := HQ.out; have := HL.out; omega⟩
        case measure => simp [intOf]; omega
      · have hrun : Sr.run rest (Ex.bs zj) (lj + St.labels body) (Sr.run body (Ex.bs zj) lj mj.step) = R := HRN.out
        have hon1 := Sr.run_on rest (Ex.bs zj) (lj + St.labels body) (Sr.run body (Ex.bs zj) lj mj.step)
        rw [hrun] at hon1
        have hon0 := Sr.run_on body (Ex.bs zj) lj mj.step
        have hmore : mj.steps + 1 ≤ R.steps := Nat.le_trans hon0.steps hon1.steps
        go_wp2_with fail
        generalize (wr.alloc (.cells #[.int .i64 4, .string nm, .int .i64 ak, .int .i64 an, .string sa, .slice aA al ac, .int .i64 bk, .int .i64 bn, .string sb, .slice bA bl bc, .slice D dl dc, .slice E el ec] 40)) = W0 at hbA hX T0 v0 ⊢
        rw [← hQQ.out]
        clear c0 c1 c2 c3 c4 c5 c6 c7 c8 c9 c10 c11
        by_cases hst : mj.steps = F
        · have hg := step_out B W0 g F mj vtj T0.own hfj.len hst
          have hend : ∀ w1, Below W0.heap.size W0 w1 → F < R.steps ∧ Keeps (RuT g m vt) w w1 := fun w1 hb1 => ⟨by have := hmore; omega, (HW.out.kp.trans (Keeps.of_below hbA _)).trans (Keeps.of_below hb1 _)⟩
          have HH := Lib.hid hend
          clear hend hX T0 v0 hbA hst hmore
          refine hg.mono ?_
          rintro e w1 ⟨rfl, hb1⟩
          obtain ⟨h1, h2⟩ := HH.out w1 hb1
          clear hg hb1
          go_wp2
          exact ⟨rfl, .inr ⟨h1, rfl, h2⟩⟩
        have hfs : Sr.Fit F mj.step := ⟨hfj.len, hfj.rg, by have := hfj.st; show mj.steps + 1 ≤ F; omega, by have := hfj.tr; show mj.trace.length ≤ mj.steps + 1; omega⟩
        refine (step_ok B W0 g F mj vtj T0.own hfj.len (by have := hfj.st; omega) hF).mono ?_
        rintro e w1 ⟨rfl, h1⟩
        have T1 := T0.step h1
        have v1 := v0.step T1.kp T1.nw
        clear h1 T0 v0 hst hmore
        obtain ⟨c0, c1, c2, c3, c4, c5, c6, c7, c8, c9, c10, c11⟩ := hX.cells _ T1.kp
        obtain ⟨xa, xb, pb, pe⟩ := hX.read _ T1.kp
        have hblk := ih body (by have := HQ.out; omega) w1 B dl dc g F D vtj _ mj.step zj lj pb hd1 hd2 T1.own hfs hF v1 (by have := HQ.out; omega) (by have := HQ.out; omega)
        have hrg1 := Sr.run_rng body (Ex.bs zj) lj mj.step hokp hrg hfj.rg
        clear xa xb pb pe
        go_wp2_with fail
        refine hblk.mono ?_
        rintro e w2 (⟨h1, rfl, vtw2, h2⟩ | ⟨h1, rfl, h2⟩)
        · have Tw2 := T1.step h2
          have vw2 := v1.step h2.kp h2.nw
          have f2 := hfs.on hon0 hrg1 h1
          clear hblk h2 T1 v1 hrg1
          try clear c0 c1 c2 c3 c4 c5 c6 c7 c8 c9 c10 c11
          have HZ := Lib.hid (And.intro Tw2 (And.intro vw2 f2))
          obtain ⟨c0, c1, c2, c3, c4, c5, c6, c7, c8, c9, c10, c11⟩ := hX.cells _ Tw2.kp
          obtain ⟨xa, xb, pb, pe⟩ := hX.read _ Tw2.kp
          have hlab := labels_any (.cons 4 nm.data.toList ea eb body els .nil) _ _ 1 1 _ (Nat.le_refl _) (one_pr 40 Tw2.own.base xa xb pb pe hd) (Nat.le_refl _) (by decide) (by rw [size_one]; have := HQ.out; omega)
          have hlo := Tw2.own.base
          unfold stcells xcells at hlab
          rw [labels_one] at hlab
          have hlb := St.lab1_le 4 (St.labels body) (St.labels els)
          have hlb1 := St.labels_le body
          have hlb2 := St.labels_le els
          have hlz : lj + (1 + St.labels body + St.labels els) ≤ 576460752303423488 := by have := HQ.out; omega
          have HL := Lib.hid (And.intro hlb (And.intro hlb1 (And.intro hlb2 hlz)))
          clear Tw2 vw2 f2 xa xb pb pe hlb hlb1 hlb2 hlz hX
          try go_wp2_with fail
          refine hlab.mono ?_
          rintro e wl ⟨rfl, hbl⟩
          have hbl2 := below_next hbl (below_alloc (Below.refl _ _) _)
          have TE := ((HW.out.later hbA).step HZ.out.1).later hbl2
          have vE := HZ.out.2.1.later hbl2
          have HE := Lib.hid (And.intro TE vE)
          clear hlab hbl hbl2 TE vE hbA c0 c1 c2 c3 c4 c5 c6 c7 c8 c9 c10 c11
          go_wp2_with fail
          go_roundw
          case rel => exact ⟨k + 1, rest, _, lj + St.lab1 4 (St.labels body) (St.labels els), _, _, by omega, by go_num, by rw [i64_add _ _ (by have := HL.out; omega)], by rw [show n - (k + 1) = n - k - 1 by omega]; exact HQ.out.2.2.2.2.2, HE.out.1, HE.out.2, HZ.out.2.2, hrun, by have := HQ.out; omega, by have := HQ.out; first | omega | (simp only [List.length_append, List.length_singleton]; omega), by have := HQ.out; have := HL.out; omega⟩
          case measure => simp [intOf]; omega
        · have hk2 : Keeps (RuT g m vt) w w2 := ((HW.out.later hbA).step T1).kp.step h2 (fun i hi ht => (((HW.out.later hbA).step T1).nw i ht).resolve_right (by omega))
          have hlt' : F < R.steps := by have := hon1.steps; omega
          clear hblk h2 T1 v1 hX hbA
          try clear c0 c1 c2 c3 c4 c5 c6 c7 c8 c9 c10 c11
          go_wp2
          exact ⟨rfl, .inr ⟨hlt', rfl, hk2⟩⟩
      · have hrun : Sr.run rest (Ex.bs zj) (lj + St.labels body) (Sr.run body (Ex.bs zj) lj mj.step) = R := HRN.out
        have hon1 := Sr.run_on rest (Ex.bs zj) (lj + St.labels body) (Sr.run body (Ex.bs zj) lj mj.step)
        rw [hrun] at hon1
        have hon0 := Sr.run_on body (Ex.bs zj) lj mj.step
        have hmore : mj.steps + 1 ≤ R.steps := Nat.le_trans hon0.steps hon1.steps
        go_wp2_with fail
        generalize (wr.alloc (.cells #[.int .i64 5, .string nm, .int .i64 ak, .int .i64 an, .string sa, .slice aA al ac, .int .i64 bk, .int .i64 bn, .string sb, .slice bA bl bc, .slice D dl dc, .slice E el ec] 40)) = W0 at hbA hX T0 v0 ⊢
        rw [← hQQ.out]
        clear c0 c1 c2 c3 c4 c5 c6 c7 c8 c9 c10 c11
        by_cases hst : mj.steps = F
        · have hg := step_out B W0 g F mj vtj T0.own hfj.len hst
          have hend : ∀ w1, Below W0.heap.size W0 w1 → F < R.steps ∧ Keeps (RuT g m vt) w w1 := fun w1 hb1 => ⟨by have := hmore; omega, (HW.out.kp.trans (Keeps.of_below hbA _)).trans (Keeps.of_below hb1 _)⟩
          have HH := Lib.hid hend
          clear hend hX T0 v0 hbA hst hmore
          refine hg.mono ?_
          rintro e w1 ⟨rfl, hb1⟩
          obtain ⟨h1, h2⟩ := HH.out w1 hb1
          clear hg hb1
          go_wp2
          exact ⟨rfl, .inr ⟨h1, rfl, h2⟩⟩
        have hfs : Sr.Fit F mj.step := ⟨hfj.len, hfj.rg, by have := hfj.st; show mj.steps + 1 ≤ F; omega, by have := hfj.tr; show mj.trace.length ≤ mj.steps + 1; omega⟩
        refine (step_ok B W0 g F mj vtj T0.own hfj.len (by have := hfj.st; omega) hF).mono ?_
        rintro e w1 ⟨rfl, h1⟩
        have T1 := T0.step h1
        have v1 := v0.step T1.kp T1.nw
        clear h1 T0 v0 hst hmore
        obtain ⟨c0, c1, c2, c3, c4, c5, c6, c7, c8, c9, c10, c11⟩ := hX.cells _ T1.kp
        obtain ⟨xa, xb, pb, pe⟩ := hX.read _ T1.kp
        have hblk := ih body (by have := HQ.out; omega) w1 B dl dc g F D vtj _ mj.step zj lj pb hd1 hd2 T1.own hfs hF v1 (by have := HQ.out; omega) (by have := HQ.out; omega)
        have hrg1 := Sr.run_rng body (Ex.bs zj) lj mj.step hokp hrg hfj.rg
        clear xa xb pb pe
        go_wp2_with fail
        refine hblk.mono ?_
        rintro e w2 (⟨h1, rfl, vtw2, h2⟩ | ⟨h1, rfl, h2⟩)
        · have Tw2 := T1.step h2
          have vw2 := v1.step h2.kp h2.nw
          have f2 := hfs.on hon0 hrg1 h1
          clear hblk h2 T1 v1 hrg1
          try clear c0 c1 c2 c3 c4 c5 c6 c7 c8 c9 c10 c11
          have HZ := Lib.hid (And.intro Tw2 (And.intro vw2 f2))
          obtain ⟨c0, c1, c2, c3, c4, c5, c6, c7, c8, c9, c10, c11⟩ := hX.cells _ Tw2.kp
          obtain ⟨xa, xb, pb, pe⟩ := hX.read _ Tw2.kp
          have hlab := labels_any (.cons 5 nm.data.toList ea eb body els .nil) _ _ 1 1 _ (Nat.le_refl _) (one_pr 40 Tw2.own.base xa xb pb pe hd) (Nat.le_refl _) (by decide) (by rw [size_one]; have := HQ.out; omega)
          have hlo := Tw2.own.base
          unfold stcells xcells at hlab
          rw [labels_one] at hlab
          have hlb := St.lab1_le 5 (St.labels body) (St.labels els)
          have hlb1 := St.labels_le body
          have hlb2 := St.labels_le els
          have hlz : lj + (1 + St.labels body + St.labels els) ≤ 576460752303423488 := by have := HQ.out; omega
          have HL := Lib.hid (And.intro hlb (And.intro hlb1 (And.intro hlb2 hlz)))
          clear Tw2 vw2 f2 xa xb pb pe hlb hlb1 hlb2 hlz hX
          try go_wp2_with fail
          refine hlab.mono ?_
          rintro e wl ⟨rfl, hbl⟩
          have hbl2 := below_next hbl (below_alloc (Below.refl _ _) _)
          have TE := ((HW.out.later hbA).step HZ.out.1).later hbl2
          have vE := HZ.out.2.1.later hbl2
          have HE := Lib.hid (And.intro TE vE)
          clear hlab hbl hbl2 TE vE hbA c0 c1 c2 c3 c4 c5 c6 c7 c8 c9 c10 c11
          go_wp2_with fail
          go_roundw
          case rel => exact ⟨k + 1, rest, _, lj + St.lab1 5 (St.labels body) (St.labels els), _, _, by omega, by go_num, by rw [i64_add _ _ (by have := HL.out; omega)], by rw [show n - (k + 1) = n - k - 1 by omega]; exact HQ.out.2.2.2.2.2, HE.out.1, HE.out.2, HZ.out.2.2, hrun, by have := HQ.out; omega, by have := HQ.out; first | omega | (simp only [List.length_append, List.length_singleton]; omega), by have := HQ.out; have := HL.out; omega⟩
          case measure => simp [intOf]; omega
        · have hk2 : Keeps (RuT g m vt) w w2 := ((HW.out.later hbA).step T1).kp.step h2 (fun i hi ht => (((HW.out.later hbA).step T1).nw i ht).resolve_right (by omega))
          have hlt' : F < R.steps := by have := hon1.steps; omega
          clear hblk h2 T1 v1 hX hbA
          try clear c0 c1 c2 c3 c4 c5 c6 c7 c8 c9 c10 c11
          go_wp2
          exact ⟨rfl, .inr ⟨hlt', rfl, hk2⟩⟩
      · obtain ⟨y, hy⟩ : ∃ y, y = Ex.evl (Ex.bs zj) ea := ⟨_, rfl⟩
        have hrun0 : Sr.run rest (Ex.bs zj) (lj + (St.labels body + St.labels els)) (if y ≠ 0 then Sr.run body (Ex.bs zj) lj mj.step else Sr.run els (Ex.bs zj) (lj + St.labels body) mj.step) = R := by rw [hy]; exact HRN.out
        have hbl1 := St.labels_le body
        have HYY := Lib.hid (And.intro hy hbl1)
        clear hy hbl1
        by_cases hz : y = 0
        · rw [if_neg (by simpa using hz)] at hrun0
          have hrun := hrun0
          clear hrun0
          have hon1 := Sr.run_on rest (Ex.bs zj) (lj + (St.labels body + St.labels els)) (Sr.run els (Ex.bs zj) (lj + St.labels body) mj.step)
          rw [hrun] at hon1
          have hon0 := Sr.run_on els (Ex.bs zj) (lj + St.labels body) mj.step
          have hmore : mj.steps + 1 ≤ R.steps := Nat.le_trans hon0.steps hon1.steps
          have hb0 : (y != 0) = false := by simpa using hz
          go_wp2_with fail
          generalize (wr.alloc (.cells #[.int .i64 6, .string nm, .int .i64 ak, .int .i64 an, .string sa, .slice aA al ac, .int .i64 bk, .int .i64 bn, .string sb, .slice bA bl bc, .slice D dl dc, .slice E el ec] 40)) = W0 at hbA hX T0 v0 ⊢
          rw [← hQQ.out]
          clear c0 c1 c2 c3 c4 c5 c6 c7 c8 c9 c10 c11
          by_cases hst : mj.steps = F
          · have hg := step_out B W0 g F mj vtj T0.own hfj.len hst
            have hend : ∀ w1, Below W0.heap.size W0 w1 → F < R.steps ∧ Keeps (RuT g m vt) w w1 := fun w1 hb1 => ⟨by have := hmore; omega, (HW.out.kp.trans (Keeps.of_below hbA _)).trans (Keeps.of_below hb1 _)⟩
            have HH := Lib.hid hend
            clear hend hX T0 v0 hbA hst hmore
            refine hg.mono ?_
            rintro e w1 ⟨rfl, hb1⟩
            obtain ⟨h1, h2⟩ := HH.out w1 hb1
            clear hg hb1
            go_wp2
            exact ⟨rfl, .inr ⟨h1, rfl, h2⟩⟩
          have hfs : Sr.Fit F mj.step := ⟨hfj.len, hfj.rg, by have := hfj.st; show mj.steps + 1 ≤ F; omega, by have := hfj.tr; show mj.trace.length ≤ mj.steps + 1; omega⟩
          refine (step_ok B W0 g F mj vtj T0.own hfj.len (by have := hfj.st; omega) hF).mono ?_
          rintro e w1 ⟨rfl, h1⟩
          have T1 := T0.step h1
          have v1 := v0.step T1.kp T1.nw
          clear h1 T0 v0 hst hmore
          obtain ⟨c0, c1, c2, c3, c4, c5, c6, c7, c8, c9, c10, c11⟩ := hX.cells _ T1.kp
          obtain ⟨xa, xb, pb, pe⟩ := hX.read _ T1.kp
          have gE : Calls Tryd.prog 112 #[.agg #[.int .i64 ak, .int .i64 an, .string sa, .slice aA al ac], .slice VE zj.length ce] w1 fun r w'' => r = .returned (.int .i64 y) ∧ Below w1.heap.size w1 w'' := by
            rw [HYY.out.1]
            exact eval_ok (.slice VE zj.length ce) zj (by have := HQ.out; omega) ea w1 _ (xa.up T1.own.base) v1.sl
          clear c0 c1 xa xb pb pe hz
          go_wp2_with fail
          refine gE.mono ?_
          rintro e w2 ⟨rfl, hb2⟩
          have T2 := T1.later hb2
          have v2 := v1.later hb2
          clear gE T1 v1 c2 c3 c4 c5 c6 c7 c8 c9 c10 c11 hb2
          have keepS : ∀ w', Below w2.heap.size w2 w' → (Below w2.heap.size w2 w' ∧ w'.cell? ⟨Q, 10, none⟩ = some (.slice D dl dc) ∧ w'.cell? ⟨Q, 11, none⟩ = some (.slice E el ec)) := fun w' hb => by
            obtain ⟨c0, c1, c2, c3, c4, c5, c6, c7, c8, c9, c10, c11⟩ := hX.cells w' (T2.later hb).kp
            exact ⟨hb, c10, c11⟩
          have gL : ∀ w', Below w2.heap.size w2 w' → Calls Tryd.prog 38 #[.slice D dl dc] w' fun e w'' => e = .returned (.int .i64 (St.labels body : Nat)) ∧ Below w'.heap.size w' w'' := fun w' hb =>
            labels_any body w' B dl dc D (T2.later hb).own.base (hX.read w' (T2.later hb).kp).2.2.1 hd1 hd2 (by have := HQ.out; omega)
          have hS0 := keepS _ (below_drew (Below.refl _ _))
          have HT := Lib.hid (And.intro T2 (And.intro v2 hX))
          clear T2 v2 hX
          go_wp2_with fail
          refine wp_walk_last (by kernel_rfl) (by kernel_rfl) (fun w w' => Below w.heap.size w w') (fun w' => (Below w2.heap.size w2 w' ∧ w'.cell? ⟨Q, 10, none⟩ = some (.slice D dl dc) ∧ w'.cell? ⟨Q, 11, none⟩ = some (.slice E el ec))) hS0 ?_
          simp only [List.length_cons, List.length_nil, Nat.reduceAdd, Nat.reduceSub, List.take_succ_cons, List.take_zero, List.drop_succ_cons, List.drop_zero]
          repeat (first | (refine settle_skip (fun _ => by rfl) ?_; (simp only [Act.put, List.setIfInBounds_toArray, List.set_cons_zero, List.set_cons_succ])) | (refine' settle_run (fun _ _ => Below.refl _ _) (fun _ => by rfl) ?_ ?_; rotate_left; (focus (intro ρ w hS hF; (try dsimp only at hS); go_split_ands; go_simp; try with_reducible rfl)); (simp only [Act.put, List.setIfInBounds_toArray, List.set_cons_zero, List.set_cons_succ])))
          (refine' settle_step (fun _ => by rfl) ?_ ?_; rotate_left; (focus (intro ρ w hS hF K hK; (simp only [Act.put, List.setIfInBounds_toArray, List.set_cons_zero, List.set_cons_succ] at hK); go_simp; (refine (gL _ hS.1).mono ?_; rintro e w' ⟨rfl, hb'⟩; have hS' := keepS _ (below_next hb' hS.1); have hE' := hb'); exact hK _ hS' hE')); (simp only [Act.put, List.setIfInBounds_toArray, List.set_cons_zero, List.set_cons_succ]))
          repeat (first | (refine settle_skip (fun _ => by rfl) ?_; (simp only [Act.put, List.setIfInBounds_toArray, List.set_cons_zero, List.set_cons_succ])) | (refine' settle_run (fun _ _ => Below.refl _ _) (fun _ => by rfl) ?_ ?_; rotate_left; (focus (intro ρ w hS hF; (try dsimp only at hS); go_split_ands; go_simp; try with_reducible rfl)); (simp only [Act.put, List.setIfInBounds_toArray, List.set_cons_zero, List.set_cons_succ])))
          refine settle_nil ?_
          intro ρ w4 hS hF2
          have hb4 := hS.1
          obtain ⟨T2, v2, hX⟩ := HT.out
          have T4 := T2.later hb4
          have v4 := v2.later hb4
          have pe := (hX.read w4 T4.kp).2.2.2
          have hblk := ih els (by have := HQ.out; omega) w4 B el ec g F E vtj _ mj.step zj (lj + St.labels body) pe he1 he2 T4.own hfs hF v4 (by have := HQ.out; omega) (by have := HQ.out; have := HYY.out; omega)
          have hrg1 := Sr.run_rng els (Ex.bs zj) (lj + St.labels body) mj.step hoke hrg hfj.rg
          have hwr := i64_add lj (St.labels body) (by have := HQ.out; have := HYY.out; omega)
          have hwk := i64_addk lj (St.labels body) (by have := HQ.out; have := HYY.out; omega)
          clear hF2 hS hS0 keepS gL HT T2 v2 hb4 pe
          dsimp only
          try rw [hwr]
          try rw [hwk]
          clear hwr hwk
          go_wp2_with fail
          refine hblk.mono ?_
          rintro e w5 (⟨h1, rfl, vtw5, h2⟩ | ⟨h1, rfl, h2⟩)
          · have Tw5 := T4.step h2
            have vw5 := v4.step h2.kp h2.nw
            have f2 := hfs.on hon0 hrg1 h1
            clear hblk h2 T4 v4 hrg1
            try clear c0 c1 c2 c3 c4 c5 c6 c7 c8 c9 c10 c11
            have HZ := Lib.hid (And.intro Tw5 (And.intro vw5 f2))
            obtain ⟨c0, c1, c2, c3, c4, c5, c6, c7, c8, c9, c10, c11⟩ := hX.cells _ Tw5.kp
            obtain ⟨xa, xb, pb, pe⟩ := hX.read _ Tw5.kp
            have hlab := labels_any (.cons 6 nm.data.toList ea eb body els .nil) _ _ 1 1 _ (Nat.le_refl _) (one_pr 40 Tw5.own.base xa xb pb pe hd) (Nat.le_refl _) (by decide) (by rw [size_one]; have := HQ.out; omega)
            have hlo := Tw5.own.base
            unfold stcells xcells at hlab
            rw [labels_one] at hlab
            have hlb := St.lab1_le 6 (St.labels body) (St.labels els)
            have hlb1 := St.labels_le body
            have hlb2 := St.labels_le els
            have hlz : lj + (1 + St.labels body + St.labels els) ≤ 576460752303423488 := by have := HQ.out; omega
            have HL := Lib.hid (And.intro hlb (And.intro hlb1 (And.intro hlb2 hlz)))
            clear Tw5 vw5 f2 xa xb pb pe hlb hlb1 hlb2 hlz hX
            try go_wp2_with fail
            refine hlab.mono ?_
            rintro e wl ⟨rfl, hbl⟩
            have hbl2 := below_next hbl (below_alloc (Below.refl _ _) _)
            have TE := ((HW.out.later hbA).step HZ.out.1).later hbl2
            have vE := HZ.out.2.1.later hbl2
            have HE := Lib.hid (And.intro TE vE)
            clear hlab hbl hbl2 TE vE hbA c0 c1 c2 c3 c4 c5 c6 c7 c8 c9 c10 c11
            go_wp2_with fail
            go_roundw
            case rel => exact ⟨k + 1, rest, _, lj + St.lab1 6 (St.labels body) (St.labels els), _, _, by omega, by go_num, by rw [i64_add _ _ (by have := HL.out; omega)], by rw [show n - (k + 1) = n - k - 1 by omega]; exact HQ.out.2.2.2.2.2, HE.out.1, HE.out.2, HZ.out.2.2, hrun, by have := HQ.out; omega, by have := HQ.out; first | omega | (simp only [List.length_append, List.length_singleton]; omega), by have := HQ.out; have := HL.out; omega⟩
            case measure => simp [intOf]; omega
          · have hk2 : Keeps (RuT g m vt) w w5 := ((HW.out.later hbA).step T4).kp.step h2 (fun i hi ht => (((HW.out.later hbA).step T4).nw i ht).resolve_right (by omega))
            have hlt' : F < R.steps := by have := hon1.steps; omega
            clear hblk h2 T4 v4 hX hbA
            try clear c0 c1 c2 c3 c4 c5 c6 c7 c8 c9 c10 c11
            go_wp2
            exact ⟨rfl, .inr ⟨hlt', rfl, hk2⟩⟩
        · rw [if_pos hz] at hrun0
          have hrun := hrun0
          clear hrun0
          have hon1 := Sr.run_on rest (Ex.bs zj) (lj + (St.labels body + St.labels els)) (Sr.run body (Ex.bs zj) lj mj.step)
          rw [hrun] at hon1
          have hon0 := Sr.run_on body (Ex.bs zj) lj mj.step
          have hmore : mj.steps + 1 ≤ R.steps := Nat.le_trans hon0.steps hon1.steps
          have hb0 : (y != 0) = true := by simpa using hz
          go_wp2_with fail
          generalize (wr.alloc (.cells #[.int .i64 6, .string nm, .int .i64 ak, .int .i64 an, .string sa, .slice aA al ac, .int .i64 bk, .int .i64 bn, .string sb, .slice bA bl bc, .slice D dl dc, .slice E el ec] 40)) = W0 at hbA hX T0 v0 ⊢
          rw [← hQQ.out]
          clear c0 c1 c2 c3 c4 c5 c6 c7 c8 c9 c10 c11
          by_cases hst : mj.steps = F
          · have hg := step_out B W0 g F mj vtj T0.own hfj.len hst
            have hend : ∀ w1, Below W0.heap.size W0 w1 → F < R.steps ∧ Keeps (RuT g m vt) w w1 := fun w1 hb1 => ⟨by have := hmore; omega, (HW.out.kp.trans (Keeps.of_below hbA _)).trans (Keeps.of_below hb1 _)⟩
            have HH := Lib.hid hend
            clear hend hX T0 v0 hbA hst hmore
            refine hg.mono ?_
            rintro e w1 ⟨rfl, hb1⟩
            obtain ⟨h1, h2⟩ := HH.out w1 hb1
            clear hg hb1
            go_wp2
            exact ⟨rfl, .inr ⟨h1, rfl, h2⟩⟩
          have hfs : Sr.Fit F mj.step := ⟨hfj.len, hfj.rg, by have := hfj.st; show mj.steps + 1 ≤ F; omega, by have := hfj.tr; show mj.trace.length ≤ mj.steps + 1; omega⟩
          refine (step_ok B W0 g F mj vtj T0.own hfj.len (by have := hfj.st; omega) hF).mono ?_
          rintro e w1 ⟨rfl, h1⟩
          have T1 := T0.step h1
          have v1 := v0.step T1.kp T1.nw
          clear h1 T0 v0 hst hmore
          obtain ⟨c0, c1, c2, c3, c4, c5, c6, c7, c8, c9, c10, c11⟩ := hX.cells _ T1.kp
          obtain ⟨xa, xb, pb, pe⟩ := hX.read _ T1.kp
          have gE : Calls Tryd.prog 112 #[.agg #[.int .i64 ak, .int .i64 an, .string sa, .slice aA al ac], .slice VE zj.length ce] w1 fun r w'' => r = .returned (.int .i64 y) ∧ Below w1.heap.size w1 w'' := by
            rw [HYY.out.1]
            exact eval_ok (.slice VE zj.length ce) zj (by have := HQ.out; omega) ea w1 _ (xa.up T1.own.base) v1.sl
          clear c0 c1 xa xb pb pe hz
          go_wp2_with fail
          refine gE.mono ?_
          rintro e w2 ⟨rfl, hb2⟩
          have T2 := T1.later hb2
          have v2 := v1.later hb2
          clear gE T1 v1 c2 c3 c4 c5 c6 c7 c8 c9 c10 c11 hb2
          obtain ⟨c0, c1, c2, c3, c4, c5, c6, c7, c8, c9, c10, c11⟩ := hX.cells _ T2.kp
          obtain ⟨xa, xb, pb, pe⟩ := hX.read _ T2.kp
          have hblk := ih body (by have := HQ.out; omega) w2 B dl dc g F D vtj _ mj.step zj lj pb hd1 hd2 T2.own hfs hF v2 (by have := HQ.out; omega) (by have := HQ.out; omega)
          have hrg1 := Sr.run_rng body (Ex.bs zj) lj mj.step hokp hrg hfj.rg
          clear xa xb pb pe
          go_wp2_with fail
          refine hblk.mono ?_
          rintro e w5 (⟨h1, rfl, vtw5, h2⟩ | ⟨h1, rfl, h2⟩)
          · have Tw5 := T2.step h2
            have vw5 := v2.step h2.kp h2.nw
            have f2 := hfs.on hon0 hrg1 h1
            clear hblk h2 T2 v2 hrg1
            try clear c0 c1 c2 c3 c4 c5 c6 c7 c8 c9 c10 c11
            have HZ := Lib.hid (And.intro Tw5 (And.intro vw5 f2))
            obtain ⟨c0, c1, c2, c3, c4, c5, c6, c7, c8, c9, c10, c11⟩ := hX.cells _ Tw5.kp
            obtain ⟨xa, xb, pb, pe⟩ := hX.read _ Tw5.kp
            have hlab := labels_any (.cons 6 nm.data.toList ea eb body els .nil) _ _ 1 1 _ (Nat.le_refl _) (one_pr 40 Tw5.own.base xa xb pb pe hd) (Nat.le_refl _) (by decide) (by rw [size_one]; have := HQ.out; omega)
            have hlo := Tw5.own.base
            unfold stcells xcells at hlab
            rw [labels_one] at hlab
            have hlb := St.lab1_le 6 (St.labels body) (St.labels els)
            have hlb1 := St.labels_le body
            have hlb2 := St.labels_le els
            have hlz : lj + (1 + St.labels body + St.labels els) ≤ 576460752303423488 := by have := HQ.out; omega
            have HL := Lib.hid (And.intro hlb (And.intro hlb1 (And.intro hlb2 hlz)))
            clear Tw5 vw5 f2 xa xb pb pe hlb hlb1 hlb2 hlz hX
            try go_wp2_with fail
            refine hlab.mono ?_
            rintro e wl ⟨rfl, hbl⟩
            have hbl2 := below_next hbl (below_alloc (Below.refl _ _) _)
            have TE := ((HW.out.later hbA).step HZ.out.1).later hbl2
            have vE := HZ.out.2.1.later hbl2
            have HE := Lib.hid (And.intro TE vE)
            clear hlab hbl hbl2 TE vE hbA c0 c1 c2 c3 c4 c5 c6 c7 c8 c9 c10 c11
            go_wp2_with fail
            go_roundw
            case rel => exact ⟨k + 1, rest, _, lj + St.lab1 6 (St.labels body) (St.labels els), _, _, by omega, by go_num, by rw [i64_add _ _ (by have := HL.out; omega)], by rw [show n - (k + 1) = n - k - 1 by omega]; exact HQ.out.2.2.2.2.2, HE.out.1, HE.out.2, HZ.out.2.2, hrun, by have := HQ.out; omega, by have := HQ.out; first | omega | (simp only [List.length_append, List.length_singleton]; omega), by have := HQ.out; have := HL.out; omega⟩
            case measure => simp [intOf]; omega
          · have hk2 : Keeps (RuT g m vt) w w5 := ((HW.out.later hbA).step T2).kp.step h2 (fun i hi ht => (((HW.out.later hbA).step T2).nw i ht).resolve_right (by omega))
            have hlt' : F < R.steps := by have := hon1.steps; omega
            clear hblk h2 T2 v2 hX hbA
            try clear c0 c1 c2 c3 c4 c5 c6 c7 c8 c9 c10 c11
            go_wp2
            exact ⟨rfl, .inr ⟨hlt', rfl, hk2⟩⟩
      · have hrun : Sr.run rest (Ex.bs zj) (lj + St.labels body) (Sr.iter (Ex.evl (Ex.bs zj) eb - Ex.evl (Ex.bs zj) ea).toNat (Ex.evl (Ex.bs zj) ea) (fun i m => Sr.run body (Ex.bs zj ++ [(nm.data.toList, i)]) lj m.step) mj.step) = R := HRN.out
        have hon0 : Sr.On mj.step (Sr.iter (Ex.evl (Ex.bs zj) eb - Ex.evl (Ex.bs zj) ea).toNat (Ex.evl (Ex.bs zj) ea) (fun i m => Sr.run body (Ex.bs zj ++ [(nm.data.toList, i)]) lj m.step) mj.step) := Sr.On.iter (fun i m => (Sr.On.step m).trans (Sr.run_on _ _ _ _)) _ _ _
        have hon1 := Sr.run_on rest (Ex.bs zj) (lj + St.labels body) (Sr.iter (Ex.evl (Ex.bs zj) eb - Ex.evl (Ex.bs zj) ea).toNat (Ex.evl (Ex.bs zj) ea) (fun i m => Sr.run body (Ex.bs zj ++ [(nm.data.toList, i)]) lj m.step) mj.step)
        rw [hrun] at hon1
        have hmore : mj.steps + 1 ≤ R.steps := Nat.le_trans hon0.steps hon1.steps
        go_wp2_with fail
        generalize (wr.alloc (.cells #[.int .i64 7, .string nm, .int .i64 ak, .int .i64 an, .string sa, .slice aA al ac, .int .i64 bk, .int .i64 bn, .string sb, .slice bA bl bc, .slice D dl dc, .slice E el ec] 40)) = W0 at hbA hX T0 v0 ⊢
        rw [← hQQ.out]
        clear c0 c1 c2 c3 c4 c5 c6 c7 c8 c9 c10 c11
        by_cases hst : mj.steps = F
        · have hg := step_out B W0 g F mj vtj T0.own hfj.len hst
          have hend : ∀ w1, Below W0.heap.size W0 w1 → F < R.steps ∧ Keeps (RuT g m vt) w w1 := fun w1 hb1 => ⟨by have := hmore; omega, (HW.out.kp.trans (Keeps.of_below hbA _)).trans (Keeps.of_below hb1 _)⟩
          have HH := Lib.hid hend
          clear hend hX T0 v0 hbA hst hmore
          refine hg.mono ?_
          rintro e w1 ⟨rfl, hb1⟩
          obtain ⟨h1, h2⟩ := HH.out w1 hb1
          clear hg hb1
          go_wp2
          exact ⟨rfl, .inr ⟨h1, rfl, h2⟩⟩
        have hfs : Sr.Fit F mj.step := ⟨hfj.len, hfj.rg, by have := hfj.st; show mj.steps + 1 ≤ F; omega, by have := hfj.tr; show mj.trace.length ≤ mj.steps + 1; omega⟩
        refine (step_ok B W0 g F mj vtj T0.own hfj.len (by have := hfj.st; omega) hF).mono ?_
        rintro e w1 ⟨rfl, h1⟩
        have T1 := T0.step h1
        have v1 := v0.step T1.kp T1.nw
        clear h1 T0 v0 hst hmore
        obtain ⟨c0, c1, c2, c3, c4, c5, c6, c7, c8, c9, c10, c11⟩ := hX.cells _ T1.kp
        obtain ⟨xa, xb, pb, pe⟩ := hX.read _ T1.kp
        have hblk := loop_any body (ih body (by have := HQ.out; omega)) w1 B g F vtj _ mj.step zj lj 7 nm ak an sa aA al ac bk bn sb bA bl bc D dl dc E el ec ea eb els xa xb pb pe hd1 hd2 T1.own hfs hF v1 (by have := HQ.out; omega) (by have := HQ.out; omega)
        unfold stcells xcells at hblk
        simp only [List.cons_append, List.nil_append] at hblk
        have hrg1 : ∀ x ∈ (Sr.iter (Ex.evl (Ex.bs zj) eb - Ex.evl (Ex.bs zj) ea).toNat (Ex.evl (Ex.bs zj) ea) (fun i m => Sr.run body (Ex.bs zj ++ [(nm.data.toList, i)]) lj m.step) mj.step).heap, Ex.rng x := by
          have hra := Ex.evl_rng _ hrg _ hoka
          have hrb := Ex.evl_rng _ hrg _ hokb
          by_cases hn : Ex.evl (Ex.bs zj) ea ≤ Ex.evl (Ex.bs zj) eb
          · exact Sr.iter_rng (fun i m hi h => Sr.run_rng body (Ex.bs zj ++ [(nm.data.toList, i)]) lj m.step hokp (Sr.env_snoc hrg _ hi) h) (Ex.evl (Ex.bs zj) eb - Ex.evl (Ex.bs zj) ea).toNat _ _ hra (by unfold Ex.rng at *; omega) hfj.rg
          · rw [show (Ex.evl (Ex.bs zj) eb - Ex.evl (Ex.bs zj) ea).toNat = 0 by omega]
            exact hfj.rg
        generalize Sr.iter (Ex.evl (Ex.bs zj) eb - Ex.evl (Ex.bs zj) ea).toNat (Ex.evl (Ex.bs zj) ea) (fun i m => Sr.run body (Ex.bs zj ++ [(nm.data.toList, i)]) lj m.step) mj.step = MI at hrun hon0 hon1 hblk hrg1
        clear xa xb pb pe
        go_wp2_with fail
        refine hblk.mono ?_
        rintro e w2 (⟨h1, rfl, vtw2, h2⟩ | ⟨h1, rfl, h2⟩)
        · have Tw2 := T1.step h2
          have vw2 := v1.step h2.kp h2.nw
          have f2 := hfs.on hon0 hrg1 h1
          clear hblk h2 T1 v1 hrg1
          try clear c0 c1 c2 c3 c4 c5 c6 c7 c8 c9 c10 c11
          have HZ := Lib.hid (And.intro Tw2 (And.intro vw2 f2))
          obtain ⟨c0, c1, c2, c3, c4, c5, c6, c7, c8, c9, c10, c11⟩ := hX.cells _ Tw2.kp
          obtain ⟨xa, xb, pb, pe⟩ := hX.read _ Tw2.kp
          have hlab := labels_any (.cons 7 nm.data.toList ea eb body els .nil) _ _ 1 1 _ (Nat.le_refl _) (one_pr 40 Tw2.own.base xa xb pb pe hd) (Nat.le_refl _) (by decide) (by rw [size_one]; have := HQ.out; omega)
          have hlo := Tw2.own.base
          unfold stcells xcells at hlab
          rw [labels_one] at hlab
          have hlb := St.lab1_le 7 (St.labels body) (St.labels els)
          have hlb1 := St.labels_le body
          have hlb2 := St.labels_le els
          have hlz : lj + (1 + St.labels body + St.labels els) ≤ 576460752303423488 := by have := HQ.out; omega
          have HL := Lib.hid (And.intro hlb (And.intro hlb1 (And.intro hlb2 hlz)))
          clear Tw2 vw2 f2 xa xb pb pe hlb hlb1 hlb2 hlz hX
          try go_wp2_with fail
          refine hlab.mono ?_
          rintro e wl ⟨rfl, hbl⟩
          have hbl2 := below_next hbl (below_alloc (Below.refl _ _) _)
          have TE := ((HW.out.later hbA).step HZ.out.1).later hbl2
          have vE := HZ.out.2.1.later hbl2
          have HE := Lib.hid (And.intro TE vE)
          clear hlab hbl hbl2 TE vE hbA c0 c1 c2 c3 c4 c5 c6 c7 c8 c9 c10 c11
          go_wp2_with fail
          go_roundw
          case rel => exact ⟨k + 1, rest, _, lj + St.lab1 7 (St.labels body) (St.labels els), _, _, by omega, by go_num, by rw [i64_add _ _ (by have := HL.out; omega)], by rw [show n - (k + 1) = n - k - 1 by omega]; exact HQ.out.2.2.2.2.2, HE.out.1, HE.out.2, HZ.out.2.2, hrun, by have := HQ.out; omega, by have := HQ.out; first | omega | (simp only [List.length_append, List.length_singleton]; omega), by have := HQ.out; have := HL.out; omega⟩
          case measure => simp [intOf]; omega
        · have hk2 : Keeps (RuT g m vt) w w2 := ((HW.out.later hbA).step T1).kp.step h2 (fun i hi ht => (((HW.out.later hbA).step T1).nw i ht).resolve_right (by omega))
          have hlt' : F < R.steps := by have := hon1.steps; omega
          clear hblk h2 T1 v1 hX hbA
          try clear c0 c1 c2 c3 c4 c5 c6 c7 c8 c9 c10 c11
          go_wp2
          exact ⟨rfl, .inr ⟨hlt', rfl, hk2⟩⟩
      · have K := And.intro k1 (And.intro k2 (And.intro k3 (And.intro k4 (And.intro k5 (And.intro k6 k7)))))
        have hK : kd ≠ 1 ∧ kd ≠ 2 ∧ kd ≠ 3 ∧ ¬ (kd = 4 ∨ kd = 5) ∧ kd ≠ 6 ∧ kd ≠ 7 := by simp at k1 k2 k3 k4 k5 k6 k7; omega
        have hl0 : St.lab1 kd (St.labels body) (St.labels els) = 0 := by unfold St.lab1; rw [if_neg (by omega), if_neg (by omega), if_neg hK.2.2.2.2.1]
        have hrun : Sr.run rest (Ex.bs zj) (lj + St.lab1 kd (St.labels body) (St.labels els)) mj = R := by
          have h := HRN.out
          rw [Sr.run, if_neg hK.1, if_neg hK.2.1, if_neg hK.2.2.1, if_neg hK.2.2.2.1, if_neg hK.2.2.2.2.1, if_neg hK.2.2.2.2.2] at h
          rw [hl0]
          exact h
        have HKK := Lib.hid (And.intro hK hl0)
        have hsz : (wr.alloc (.cells #[.int .i64 kd, .string nm, .int .i64 ak, .int .i64 an, .string sa, .slice aA al ac, .int .i64 bk, .int .i64 bn, .string sb, .slice bA bl bc, .slice D dl dc, .slice E el ec] 40)).heap.size = wr.heap.size + 1 := by simp
        clear K hK hl0
        go_wp2_with fail
        generalize (wr.alloc (.cells #[.int .i64 kd, .string nm, .int .i64 ak, .int .i64 an, .string sa, .slice aA al ac, .int .i64 bk, .int .i64 bn, .string sb, .slice bA bl bc, .slice D dl dc, .slice E el ec] 40)) = W0 at hbA hX T0 v0 hsz ⊢
        rw [← hsz, ← hQQ.out]
        clear hsz
        clear c0 c1 c2 c3 c4 c5 c6 c7 c8 c9 c10 c11 k1 k2 k3 k4 k5 k6 k7
        have HZ := Lib.hid (And.intro T0 (And.intro v0 hfj))
        obtain ⟨c0, c1, c2, c3, c4, c5, c6, c7, c8, c9, c10, c11⟩ := hX.cells _ T0.kp
        obtain ⟨xa, xb, pb, pe⟩ := hX.read _ T0.kp
        have hlab := labels_any (.cons kd nm.data.toList ea eb body els .nil) _ _ 1 1 _ (Nat.le_refl _) (one_pr 40 T0.own.base xa xb pb pe hd) (Nat.le_refl _) (by decide) (by rw [size_one]; have := HQ.out; omega)
        have hlo := T0.own.base
        unfold stcells xcells at hlab
        rw [labels_one] at hlab
        have hlb := St.lab1_le kd (St.labels body) (St.labels els)
        have hlb1 := St.labels_le body
        have hlb2 := St.labels_le els
        have hlz : lj + (1 + St.labels body + St.labels els) ≤ 576460752303423488 := by have := HQ.out; omega
        have HL := Lib.hid (And.intro hlb (And.intro hlb1 (And.intro hlb2 hlz)))
        clear T0 v0 hfj xa xb pb pe hlb hlb1 hlb2 hlz hX
        try go_wp2_with fail
        refine hlab.mono ?_
        rintro e wl ⟨rfl, hbl⟩
        have hbl2 := below_next hbl (below_alloc (Below.refl _ _) _)
        have TE := ((HW.out.later hbA).step HZ.out.1).later hbl2
        have vE := HZ.out.2.1.later hbl2
        have HE := Lib.hid (And.intro TE vE)
        clear hlab hbl hbl2 TE vE hbA c0 c1 c2 c3 c4 c5 c6 c7 c8 c9 c10 c11
        go_wp2_with fail
        go_roundw
        case rel => exact ⟨k + 1, rest, _, lj + St.lab1 kd (St.labels body) (St.labels els), _, _, by omega, by go_num, by rw [i64_add _ _ (by have := HL.out; omega)], by rw [show n - (k + 1) = n - k - 1 by omega]; exact HQ.out.2.2.2.2.2, HE.out.1, HE.out.2, HZ.out.2.2, hrun, by have := HQ.out; omega, by have := HQ.out; first | omega | (simp only [List.length_append, List.length_singleton]; omega), by have := HQ.out; have := HL.out; omega⟩
        case measure => simp [intOf]; omega
    · obtain rfl : k = n := by omega
      rw [Nat.sub_self] at hq
      have hq' := hq.zero
      subst hq'
      have HY := Lib.hid (And.intro hW (And.intro hfj hrun))
      clear hW hfj hrun hq hq0 hvj
      go_wp2_with fail
      go_end0
      have hm : mj = R := HY.out.2.2
      rw [← hm]
      exact .inl ⟨HY.out.2.1.st, rfl, vtj, HY.out.1⟩
theorem block_any (p : St.P) : BlockOK p := by
  suffices h : ∀ n, ∀ q : St.P, q.size ≤ n → BlockOK q from h _ p (Nat.le_refl _)
  intro n
  induction n with
  | zero => exact fun q hq => block_step q fun r hr => by omega
  | succ n ih => exact fun q hq => block_step q fun r hr => ih r (by omega)
end Go.Proofs.YtkjmddgnfgbioaaDoor


namespace Go.Proofs.YtkjmddgnfgbioaaDoor
set_option linter.unusedVariables false
set_option linter.unusedSimpArgs false
set_option maxRecDepth 100000
open Go

section
variable {P : Program} {ops : Array Oper} {Q : Exit → Act → World → Prop} {S : World → Prop} {I : Nat → Env → World → Prop} {L : List Tmp} {E : World → World → Prop} {mk fl : Nat → Bool}

def markPB (ops : Array Oper) (n : Nat) (mk fl : Nat → Bool) (ms : List Nat) : Bool :=
  ms.all fun m => (decide (m < n) && (!fl m && match ops[m]? with | some o => o.guard.isNone | none => true)) && (List.range n).all fun i => i == m || (fl i || if i < m then reachB ops 6 m i else reachB ops 6 i m)
structure MarkedP (ops : Array Oper) (mk fl : Nat → Bool) (n : Nat) : Prop where
  lt : ∀ m, mk m = true → m < n
  fix : ∀ m, mk m = true → fl m = false
  gd : ∀ m o, mk m = true → ops[m]? = some o → o.guard = none
  before : ∀ m i, mk m = true → i < m → fl i = false → reachB ops 6 m i = true
  after : ∀ m i, mk m = true → m < i → i < n → fl i = false → reachB ops 6 i m = true
theorem markedP_of {n : Nat} {ms : List Nat} (hms : ∀ m, mk m = true → m ∈ ms) (h : markPB ops n mk fl ms = true) : MarkedP ops mk fl n := by
  have key := List.all_eq_true.1 h
  have k1 : ∀ m, mk m = true → m < n ∧ fl m = false ∧ (match ops[m]? with | some o => o.guard.isNone | none => true) = true := fun m hm => by
    have := key m (hms m hm)
    rw [Bool.and_eq_true, Bool.and_eq_true, Bool.and_eq_true, decide_eq_true_eq] at this
    exact ⟨this.1.1, by simpa using this.1.2.1, this.1.2.2⟩
  have k2 : ∀ m, mk m = true → (List.range n).all (fun i => i == m || (fl i || if i < m then reachB ops 6 m i else reachB ops 6 i m)) = true := fun m hm => by
    have := key m (hms m hm)
    rw [Bool.and_eq_true] at this
    exact this.2
  refine ⟨fun m hm => (k1 m hm).1, fun m hm => (k1 m hm).2.1, fun m o hm ho => ?_, fun m i hm hi hf => ?_, fun m i hm hi hlt hf => ?_⟩
  · have := (k1 m hm).2.2
    rw [ho] at this
    simpa using this
  · have h2 := List.all_eq_true.1 (k2 m hm) i (List.mem_range.2 (by have := (k1 m hm).1; omega))
    have hne : (i == m) = false := by simp; omega
    rw [hne, Bool.false_or, hf, Bool.false_or, if_pos hi] at h2
    exact h2
  · have h2 := List.all_eq_true.1 (k2 m hm) i (List.mem_range.2 hlt)
    have hne : (i == m) = false := by simp; omega
    rw [hne, Bool.false_or, hf, Bool.false_or, if_neg (by omega)] at h2
    exact h2

/-- the marks ahead of it -/
def cntM (mk : Nat → Bool) : Nat → Nat
  | 0 => 0
  | k + 1 => cntM mk k + cond (mk k) 1 0
theorem cntM_mono {a b : Nat} (h : a ≤ b) : cntM mk a ≤ cntM mk b := by
  induction b with
  | zero => rw [Nat.le_zero.1 h]; exact Nat.le_refl _
  | succ b ih =>
    rcases Nat.lt_or_ge a (b + 1) with h' | h'
    · exact Nat.le_trans (ih (by omega)) (Nat.le_add_right _ _)
    · rw [show a = b + 1 by omega]; exact Nat.le_refl _
theorem cntM_lt {a b : Nat} (h : a < b) (hm : mk a = true) : cntM mk a < cntM mk b := by
  have h1 : cntM mk (a + 1) = cntM mk a + 1 := by rw [cntM, hm]; rfl
  have h2 := cntM_mono (mk := mk) (show a + 1 ≤ b by omega)
  omega
/-- the next one -/
theorem cntM_next {a b : Nat} (h : cntM mk a < cntM mk b) : ∃ m, a ≤ m ∧ m < b ∧ mk m = true ∧ cntM mk m = cntM mk a := by
  induction b with
  | zero => exact absurd h (by simp [cntM])
  | succ b ih =>
    by_cases h' : cntM mk a < cntM mk b
    · obtain ⟨m, h1, h2, h3, h4⟩ := ih h'
      exact ⟨m, h1, by omega, h3, h4⟩
    · have hab : a ≤ b := by
        rcases Nat.lt_or_ge b a with h2 | h2
        · have := cntM_mono (mk := mk) (show b + 1 ≤ a by omega)
          omega
        · exact h2
      have := cntM_mono (mk := mk) hab
      rw [cntM] at h
      rcases hb : mk b with _ | _
      · rw [hb] at h; simp at h; omega
      · exact ⟨b, hab, by omega, hb, by omega⟩
/-- what is known in the phase -/
def PreP (mk fl : Nat → Bool) (I : Nat → Env → World → Prop) (k : Nat) (ρ : Env) (w : World) : Prop := fl k = false → I (cntM mk k) ρ w

/-- the temporaries that a phase may speak of: made ahead of all marks -/
def labB (ops : Array Oper) (n : Nat) (ms : List Nat) (L : List Tmp) : Bool :=
  L.all fun t => (List.range n).any fun j => (match ops[j]? with | some o => o.dst == some t | none => false) && ms.all fun m => j != m && reachB ops 6 m j
theorem labB_spec {n : Nat} {ms : List Nat} (hms : ∀ m, mk m = true → m ∈ ms) (h : labB ops n ms L = true) : ∀ t ∈ L, ∃ j o, j < n ∧ ops[j]? = some o ∧ o.dst = some t ∧ ∀ m, mk m = true → j ≠ m ∧ reachB ops 6 m j = true := fun t ht => by
  have := List.all_eq_true.1 h t ht
  obtain ⟨j, hj, hb⟩ := List.any_eq_true.1 this
  rw [Bool.and_eq_true] at hb
  rcases ho : ops[j]? with _ | o
  · rw [ho] at hb; simp at hb
  · rw [ho] at hb
    refine ⟨j, o, List.mem_range.1 hj, ho, by simpa using hb.1, fun m hm => ?_⟩
    have := List.all_eq_true.1 hb.2 m (hms m hm)
    rw [Bool.and_eq_true] at this
    exact ⟨by simpa using this.1, this.2⟩
end
end Go.Proofs.YtkjmddgnfgbioaaDoor


namespace Go.Proofs.YtkjmddgnfgbioaaDoor
set_option linter.unusedVariables false
set_option linter.unusedSimpArgs false
set_option maxRecDepth 100000
open Go

section
variable {E : World → World → Prop}

/-- it outlives a mark -/
def Stays (Em : World → World → Prop) (F : Fact E) : Prop := ∀ v w w', F.holds v w → Em w w' → F.holds v w'
end
end Go.Proofs.YtkjmddgnfgbioaaDoor


namespace Go.Proofs.YtkjmddgnfgbioaaDoor
set_option linter.unusedVariables false
set_option linter.unusedSimpArgs false
set_option maxRecDepth 100000
open Go

section
variable {P : Program} {ops : Array Oper} {Q : Exit → Act → World → Prop} {S : World → Prop} {I : Nat → Env → World → Prop} {L : List Tmp} {E Em : World → World → Prop} {mk fl : Nat → Bool}

/-- what a step gives -/
def EsF (mk : Nat → Bool) (E Em : World → World → Prop) (I : Nat → Env → World → Prop) (k : Nat) (ρ : Env) : World → World → Prop := cond (mk k) (fun w w' => I (cntM mk k + 1) ρ w' ∧ Em w w') E
def SettleF (P : Program) (ops : Array Oper) (S : World → Prop) (I : Nat → Env → World → Prop) (E Em : World → World → Prop) (mk fl : Nat → Bool) (Z : (Env → Act) → List (Tmp × Fact E) → List (Tmp × Fact E) → Prop) : Nat → List Oper → (Env → Act) → List (Tmp × Fact E) → List (Tmp × Fact E) → Prop
  | _, [], A, Fs, Gs => Z A Fs Gs
  | k, o :: rest, A, Fs, Gs =>
    (∃ v, (∀ ρ w, S w → FactsOK (o.looksAt ops) ρ w (cond (fl k) [] Fs) → PreP mk fl I k ρ w → StepTo P ops S (EsF mk E Em I k ρ) o (A ρ) w (fun u _ => u = v)) ∧ SettleF P ops S I E Em mk fl Z (k + 1) rest (fun ρ => (A ρ).put o.dst v) (cond (mk k) [] Fs) Gs) ∨
    (∃ d F, o.dst = some d ∧ (fl k = false ∨ Stays Em F) ∧ (∀ ρ w, S w → FactsOK (o.looksAt ops) ρ w (cond (fl k) [] Fs) → PreP mk fl I k ρ w → StepTo P ops S (EsF mk E Em I k ρ) o (A ρ) w F.holds) ∧ SettleF P ops S I E Em mk fl Z (k + 1) rest (fun ρ => (A ρ).put (some d) (ρ d)) ((d, F) :: cond (mk k) [] Fs) (cond (fl k) ((d, F) :: Gs) Gs))

/-- what is known of the floats -/
def factsG (fl : Nat → Bool) : Nat → List (Oper × Kind E) → List (Tmp × Fact E) → List (Tmp × Fact E)
  | _, [], Gs => Gs
  | k, p :: l, Gs => factsG fl (k + 1) l (cond (fl k) (addFact Gs p) Gs)
theorem factsG_snoc : ∀ (l : List (Oper × Kind E)) (k : Nat) (Gs : List (Tmp × Fact E)) (p : Oper × Kind E), factsG fl k (l ++ [p]) Gs = cond (fl (k + l.length)) (addFact (factsG fl k l Gs) p) (factsG fl k l Gs)
  | [], k, Gs, p => rfl
  | q :: l, k, Gs, p => by
    show factsG fl (k + 1) (l ++ [p]) _ = _
    rw [factsG_snoc l (k + 1), List.length_cons, show k + 1 + l.length = k + (l.length + 1) by omega]
    rfl
theorem mem_factsG {t : Tmp} {F : Fact E} : ∀ {l : List (Oper × Kind E)} {k : Nat} {Gs : List (Tmp × Fact E)}, (t, F) ∈ factsG fl k l Gs → (t, F) ∈ Gs ∨ ∃ (i : Nat) (p : Oper × Kind E), l[i]? = some p ∧ fl (k + i) = true ∧ p.2 = .fresh F ∧ p.1.dst = some t := by
  intro l
  induction l with
  | nil => exact fun h => .inl h
  | cons q l ih =>
    intro k Gs h
    rcases ih (show (t, F) ∈ factsG fl (k + 1) l _ from h) with h | ⟨i, p, h1, h2, h3, h4⟩
    · rcases hk : fl k with _ | _
      · rw [hk] at h
        exact .inl h
      · rw [hk] at h
        rcases mem_addFact h with h | ⟨h1, h2⟩
        · exact .inl h
        · exact .inr ⟨0, q, rfl, hk, h1, h2⟩
    · exact .inr ⟨i + 1, p, by simpa using h1, by rw [show k + (i + 1) = k + 1 + i by omega]; exact h2, h3, h4⟩

structure PlanF (P : Program) (ops : Array Oper) (S : World → Prop) (I : Nat → Env → World → Prop) (Em : World → World → Prop) (mk fl : Nat → Bool) (a : Act) (l : List (Oper × Kind E)) : Prop where
  dst : ∀ p ∈ l, (∃ F, p.2 = .fresh F) → ∃ d, p.1.dst = some d
  flt : ∀ (j : Nat) p (F : Fact E), l[j]? = some p → p.2 = .fresh F → fl j = false ∨ Stays Em F
  step : ∀ pre p post, l = pre ++ p :: post → ∀ ρ w, S w → FactsOK (p.1.looksAt ops) ρ w (cond (fl pre.length) [] (factsM mk 0 pre [])) → PreP mk fl I pre.length ρ w → StepTo P ops S (EsF mk E Em I pre.length ρ) p.1 (actOf a ρ pre) w p.2.rel

theorem planF_snoc {a : Act} {l : List (Oper × Kind E)} (h : PlanF P ops S I Em mk fl a l) {p : Oper × Kind E} (h1 : (∃ F, p.2 = .fresh F) → ∃ d, p.1.dst = some d) (h3 : ∀ F, p.2 = .fresh F → fl l.length = false ∨ Stays Em F)
    (h2 : ∀ ρ w, S w → FactsOK (p.1.looksAt ops) ρ w (cond (fl l.length) [] (factsM mk 0 l [])) → PreP mk fl I l.length ρ w → StepTo P ops S (EsF mk E Em I l.length ρ) p.1 (actOf a ρ l) w p.2.rel) : PlanF P ops S I Em mk fl a (l ++ [p]) := by
  refine ⟨fun q hq hf => ?_, fun j q F hq hf => ?_, fun pre q post he => ?_⟩
  · rcases List.mem_append.1 hq with hq | hq
    · exact h.dst q hq hf
    · rw [List.mem_singleton.1 hq] at hf ⊢
      exact h1 hf
  · rcases Nat.lt_or_ge j l.length with hj | hj
    · rw [List.getElem?_append_left hj] at hq
      exact h.flt j q F hq hf
    · rw [List.getElem?_append_right hj] at hq
      have hj' := (List.getElem?_eq_some_iff.1 hq).1
      simp only [List.length_singleton] at hj'
      have e : j = l.length := by omega
      subst e
      simp only [Nat.sub_self, List.getElem?_cons_zero, Option.some.injEq] at hq
      subst hq
      exact h3 F hf
  · rcases List.eq_nil_or_concat post with rfl | ⟨post', q', rfl⟩
    · have := List.append_inj' he rfl
      obtain ⟨e1, e2⟩ := this
      injection e2 with e2
      subst e1 e2
      exact h2
    · have e : pre ++ q :: (post' ++ [q']) = (pre ++ q :: post') ++ [q'] := by simp
      rw [List.concat_eq_append, e] at he
      exact h.step pre q post' (List.append_inj' he rfl).1

theorem settleF_plan {Z : (Env → Act) → List (Tmp × Fact E) → List (Tmp × Fact E) → Prop} {a : Act} : ∀ (l : List Oper) (pre : List (Oper × Kind E)), PlanF P ops S I Em mk fl a pre → SettleF P ops S I E Em mk fl Z pre.length l (fun ρ => actOf a ρ pre) (factsM mk 0 pre []) (factsG fl 0 pre []) →
    ∃ full : List (Oper × Kind E), PlanF P ops S I Em mk fl a full ∧ full.map (·.1) = pre.map (·.1) ++ l ∧ Z (fun ρ => actOf a ρ full) (factsM mk 0 full []) (factsG fl 0 full []) := by
  intro l
  induction l with
  | nil => exact fun pre hp h => ⟨pre, hp, by simp, h⟩
  | cons o rest ih =>
    intro pre hp h
    rcases h with ⟨v, h1, h2⟩ | ⟨d, F, hd, h3, h1, h2⟩
    · obtain ⟨full, q1, q2, q3⟩ := ih (pre ++ [(o, .fixed v)]) (planF_snoc (p := (o, .fixed v)) hp (fun ⟨F, h⟩ => by cases h) (fun F h => by cases h) h1) (by
        have e1 : (fun ρ => actOf a ρ (pre ++ [(o, (Kind.fixed v : Kind E))])) = fun ρ => (actOf a ρ pre).put o.dst v := by
          funext ρ; simp [actOf, Kind.val]
        have e2 : factsM mk 0 (pre ++ [(o, (Kind.fixed v : Kind E))]) [] = cond (mk pre.length) [] (factsM mk 0 pre []) := by rw [factsM_snoc, Nat.zero_add]; rfl
        have e3 : factsG fl 0 (pre ++ [(o, (Kind.fixed v : Kind E))]) [] = factsG fl 0 pre [] := by rw [factsG_snoc, Nat.zero_add]; cases fl pre.length <;> rfl
        rw [e1, e2, e3, List.length_append]
        exact h2)
      exact ⟨full, q1, by rw [q2]; simp, q3⟩
    · obtain ⟨full, q1, q2, q3⟩ := ih (pre ++ [(o, .fresh F)]) (planF_snoc (p := (o, .fresh F)) hp (fun _ => ⟨d, hd⟩) (fun F' h => by injection h with h; subst h; exact h3) h1) (by
        have e1 : (fun ρ => actOf a ρ (pre ++ [(o, (Kind.fresh F : Kind E))])) = fun ρ => (actOf a ρ pre).put (some d) (ρ d) := by
          funext ρ; simp [actOf, Kind.val, hd]
        have e2 : factsM mk 0 (pre ++ [(o, (Kind.fresh F : Kind E))]) [] = (d, F) :: cond (mk pre.length) [] (factsM mk 0 pre []) := by rw [factsM_snoc, Nat.zero_add]; simp [addFact, hd]
        have e3 : factsG fl 0 (pre ++ [(o, (Kind.fresh F : Kind E))]) [] = cond (fl pre.length) ((d, F) :: factsG fl 0 pre []) (factsG fl 0 pre []) := by rw [factsG_snoc, Nat.zero_add]; simp [addFact, hd]
        rw [e1, e2, e3, List.length_append]
        exact h2)
      exact ⟨full, q1, by rw [q2]; simp, q3⟩

theorem any_order_pf {a0 : Act} {full : List (Oper × Kind E)} {n : Nat} (hn : n < ops.size) (hops : full.map (·.1) = ops.toList.take n) (hlin : LinearN ops n) (hsk : Region.sinkB .any ops n = true) (hch : Region.chainB .any ops n = true)
    (hsq : ∀ listed : Array Bool, listed.size = ops.size → (∀ i, i < n → listed.getD i false = true) → (∀ i, n ≤ i → listed.getD i false = false) → Region.seqB .any ops (ops.size - n) n listed = true) (hmk : MarkedP ops mk fl n) (hp : PlanF P ops S I Em mk fl a0 full) (hIE : ∀ c ρ w w', I c ρ w → E w w' → I c ρ w') (hI0 : ∀ ρ ρ' w, I 0 ρ w → I 0 ρ' w) (hIρ : ∀ c ρ ρ' w, (∀ t ∈ L, ρ t = ρ' t) → I c ρ w → I c ρ' w)
    (hL : ∀ t ∈ L, ∃ j o, j < n ∧ ops[j]? = some o ∧ o.dst = some t ∧ ∀ m, mk m = true → j ≠ m ∧ reachB ops 6 m j = true)
    (hZ : ∀ ρ w, S w → I (cntM mk n) ρ w → (∀ t F, (t, F) ∈ factsM mk 0 full [] → F.holds (ρ t) w) → (∀ t F, (t, F) ∈ factsG fl 0 full [] → F.holds (ρ t) w) → wpList P ops Q (ops.toList.drop n) (actOf a0 ρ full) w) :
    ∀ (fuel : Nat) (listed : Array Bool) (a : Act) (w : World) (ρ : Env), HeadInv .any ops n listed →
      (∃ todo : List Nat, todo.length ≤ fuel ∧ ∀ i, i < n → listed.getD i false = false → i ∈ todo) →
      Holds a0 full (fun i => listed.getD i false = true) ρ a → S w → (∀ c, c ≤ cntM mk n → (∀ m, mk m = true → (listed.getD m false = true ↔ cntM mk m < c)) → I c ρ w) → (∀ (i : Nat) (p : Oper × Kind E) (F : Fact E) (d : Tmp), listed.getD i false = true → (fl i = true ∨ ∀ m, mk m = true → i < m → listed.getD m false = false) → full[i]? = some p → p.2 = .fresh F → p.1.dst = some d → F.holds (ρ d) w) →
      wpAny P .any ops Q (fuel + (ops.size - n)) listed a w := by
  have hget : ∀ (i : Nat) (p : Oper × Kind E), full[i]? = some p → ops[i]? = some p.1 := fun i p h => by
    have : (full.map (·.1))[i]? = some p.1 := by simp [h]
    rw [hops, List.getElem?_take] at this
    split at this
    · simpa using this
    · cases this
  have hlen : full.length = n := by
    have := congrArg List.length hops
    simp only [List.length_map, List.length_take, Array.length_toList] at this
    omega
  have hget' : ∀ (i : Nat) (o : Oper), i < n → ops[i]? = some o → ∃ p : Oper × Kind E, full[i]? = some p ∧ p.1 = o := fun i o hin h => by
    have hi : i < full.length := by rw [hlen]; exact hin
    have h1 := hget i _ (List.getElem?_eq_getElem hi)
    rw [h] at h1
    injection h1 with h1
    exact ⟨_, List.getElem?_eq_getElem hi, h1.symm⟩
  have hdist : ∀ (i j : Nat) (p q : Oper × Kind E) (d : Tmp), i < j → full[i]? = some p → full[j]? = some q → p.1.dst = some d → q.1.dst ≠ some d := fun i j p q d hij h1 h2 => hlin.dist i j _ _ d hij (by have := (List.getElem?_eq_some_iff.1 h2).1; omega) (hget i p h1) (hget j q h2)
  have hdist2 : ∀ (i j : Nat) (p q : Oper × Kind E) (d : Tmp), i ≠ j → full[i]? = some p → full[j]? = some q → p.1.dst = some d → q.1.dst ≠ some d := fun i j p q d hij h1 h2 hd hd' => by
    rcases Nat.lt_or_gt_of_ne hij with h | h
    · exact hdist i j p q d h h1 h2 hd hd'
    · exact hdist j i q p d h h2 h1 hd' hd
  -- all have come up
  have fin : ∀ (fuel : Nat) (listed : Array Bool) (a : Act) (w : World) (ρ : Env), HeadInv .any ops n listed → (∀ i, i < n → listed.getD i false = true) → Holds a0 full (fun i => listed.getD i false = true) ρ a → S w → I (cntM mk n) ρ w →
      (∀ (i : Nat) (p : Oper × Kind E) (F : Fact E) (d : Tmp), listed.getD i false = true → (fl i = true ∨ ∀ m, mk m = true → i < m → listed.getD m false = false) → full[i]? = some p → p.2 = .fresh F → p.1.dst = some d → F.holds (ρ d) w) → wpAny P .any ops Q (fuel + (ops.size - n)) listed a w := fun fuel listed a w ρ inv hall hH hS hIn hF => by
    have h1 : Holds a0 full (fun i => i < full.length) ρ (actOf a0 ρ full) := by
      have := holds_prefix a0 full ρ hdist full.length (Nat.le_refl _)
      rwa [List.take_length] at this
    have h2 : Holds a0 full (fun i => i < full.length) ρ a :=
      ⟨hH.defers, hH.size, fun t ht => hH.far t fun i p hi hp => ht i p (List.getElem?_eq_some_iff.1 hp).1 hp, fun i p t hi => hH.near i p t (hall i (by omega))⟩
    rw [h2.unique h1]
    have hz := hZ ρ w hS hIn (fun t F hm => by
      rcases mem_factsM hm with ⟨h, -⟩ | ⟨i, p, h1, h2, h3, h4⟩
      · cases h
      · exact hF i p F t (hall i (by have := (List.getElem?_eq_some_iff.1 h1).1; omega)) (.inr fun m hm him => absurd (hmk.lt m hm) (fun h => h4 m hm (by omega) (by omega))) h1 h2 h3) (fun t F hm => by
      rcases mem_factsG hm with h | ⟨i, p, h1, h0, h2, h3⟩
      · cases h
      · exact hF i p F t (hall i (by have := (List.getElem?_eq_some_iff.1 h1).1; omega)) (.inl (by rwa [Nat.zero_add] at h0)) h1 h2 h3)
    have hdl : (ops.toList.drop n).length = ops.size - n := by simp
    have hs := hsq listed inv.size hall (fun i hi => by
      rcases Nat.lt_or_ge i ops.size with h | h
      · exact getD_both (inv.tail i hi h)
      · simp [Array.getD, inv.size, Nat.not_lt.2 h])
    have := wpAny_seq_more fuel (ops.toList.drop n) n listed (actOf a0 ρ full) w (fun j => by simp [List.getElem?_drop]) (by rw [hdl]; exact hs) hz
    rwa [hdl, Nat.add_comm] at this
  have none_left : ∀ listed : Array Bool, HeadInv .any ops n listed → Region.ready .any ops listed = [] → ∀ m i, i < m → i < n → listed.getD i false = true := by
    intro listed inv hr m
    induction m with
    | zero => intro i h; omega
    | succ m ih =>
      intro i hi hin
      cases hli : listed.getD i false with
      | true => rfl
      | false =>
        have hlt : i < ops.size := by omega
        have ho : ops[i]? = some ops[i] := Array.getElem?_eq_getElem hlt
        have hmem : i ∈ Region.ready .any ops listed := by
          rw [mem_ready]
          refine ⟨?_, _, ho, fun e he hb => ?_⟩
          · simp only [Array.getD, inv.size, hlt, dif_pos] at hli ⊢
            exact hli
          · have := hlin.back i _ hin ho e he hb
            exact ih e.on (by omega) (by omega)
        rw [hr] at hmem
        cases hmem
  have some_left : ∀ listed : Array Bool, (∀ i, i < n → listed.getD i false = true) ∨ ∃ i, i < n ∧ listed.getD i false = false := fun listed => by
    by_cases h : ∃ i, i < n ∧ listed.getD i false = false
    · exact .inr h
    · exact .inl fun i hi => by
        cases hl : listed.getD i false with
        | true => rfl
        | false => exact (h ⟨i, hi, hl⟩).elim
  intro fuel
  induction fuel with
  | zero =>
    intro listed a w ρ inv ⟨todo, htodo, hin⟩ hH hS hS0 hF
    have hall : ∀ i, i < n → listed.getD i false = true := fun i hi => by
      cases hli : listed.getD i false with
      | true => rfl
      | false =>
        have := hin i hi hli
        rw [List.eq_nil_of_length_eq_zero (Nat.le_zero.1 htodo)] at this
        cases this
    exact fin 0 listed a w ρ inv hall hH hS (hS0 _ (Nat.le_refl _) fun m hm => ⟨fun _ => cntM_lt (hmk.lt m hm) hm, fun _ => hall m (hmk.lt m hm)⟩) hF
  | succ fuel ih =>
    intro listed a w ρ inv ⟨todo, htodo, hin⟩ hH hS hS0 hF
    rcases some_left listed with hall | ⟨i0, hi0, hl0⟩
    · exact fin (fuel + 1) listed a w ρ inv hall hH hS (hS0 _ (Nat.le_refl _) fun m hm => ⟨fun _ => cntM_lt (hmk.lt m hm) hm, fun _ => hall m (hmk.lt m hm)⟩) hF
    have hsz := inv.size
    rw [show fuel + 1 + (ops.size - n) = (fuel + (ops.size - n)) + 1 by omega]
    refine ⟨fun hr => ?_, fun i hi => ?_⟩
    · have := none_left listed inv hr (i0 + 1) i0 (by omega) hi0
      rw [hl0] at this
      cases this
    have hilt : i < n := by
      rcases Nat.lt_or_ge i n with h | h
      · exact h
      · exact absurd hi (tail_waits hsk hch hn inv _ i0 rfl hi0 (getD_in (by omega) hl0) i h)
    obtain ⟨h0, o, ho, hall⟩ := mem_ready.1 hi
    have hlt := (Array.getElem?_eq_some_iff.1 ho).1
    have h0' : listed.getD i false = false := by
      simp only [Array.getD, hsz, hlt, dif_pos] at h0 ⊢
      exact h0
    obtain ⟨p, hpi, rfl⟩ := hget' i o hilt ho
    have hil : i < full.length := by omega
    have hpre : Holds a0 full (fun j => j < i) ρ (actOf a0 ρ (full.take i)) := holds_prefix a0 full ρ hdist i (by omega)
    have hsplit : full = full.take i ++ p :: full.drop (i + 1) := by
      have : full[i] = p := by have := List.getElem?_eq_getElem hil; rw [hpi] at this; injection this with this; exact this.symm
      rw [← this, List.getElem_cons_drop, List.take_append_drop]
    have hstep := hp.step _ p _ hsplit ρ w hS
    have conf : ∀ (j : Nat) (q : Oper × Kind E), full[j]? = some q → ∀ t, q.1.dst = some t → t ∈ p.1.looksAt ops → (listed.getD j false = true ↔ j < i) := by
      intro j q hq t hd hl
      have hoj := hget j q hq
      have hjn : j < n := by have := (List.getElem?_eq_some_iff.1 hq).1; omega
      rcases Nat.lt_trichotomy j i with h | h | h
      · refine ⟨fun _ => h, fun _ => ?_⟩
        rcases hlin.wait j i _ _ h hilt hoj ho with hap | ⟨e, he, hb, hon⟩
        · exact absurd hl ((Oper.apart_spec hap).1 t hd)
        · rw [← hon]; exact hall e he hb
      · subst h
        rw [hpi] at hq
        injection hq with hq
        subst hq
        exact absurd hl (hlin.self j _ t hilt ho hd)
      · refine ⟨fun hj => ?_, fun h' => by omega⟩
        exfalso
        rcases hlin.wait i j _ _ h hjn ho hoj with hap | ⟨e, he, hb, hon⟩
        · exact absurd hl ((Oper.apart_spec hap).2.2 t hd)
        · have := inv.closed j _ hoj hj e he hb
          rw [hon, h0'] at this
          cases this
    have hdown' : ∀ j o, listed.getD j false = true → ops[j]? = some o → ∀ e ∈ o.after, Region.binds .any e = true → listed.getD e.on false = true := fun j o hj ho e he hb => inv.closed j o ho hj e he hb
    have later : ∀ m, mk m = true → i < m → fl i = false → listed.getD m false = false := fun m hm him hfl => by
      cases hlm : listed.getD m false with
      | false => rfl
      | true =>
        have := reach_closed hdown' 6 m i (hmk.before m i hm him hfl) hlm
        rw [h0'] at this
        cases this
    have hfacts : FactsOK (p.1.looksAt ops) ρ w (cond (fl i) [] (factsM mk 0 (full.take i) [])) := factsOK_of _ fun t F hm hl => by
      rcases hfl : fl i with _ | _
      case true => rw [hfl] at hm; cases hm
      rw [hfl] at hm
      rcases mem_factsM hm with ⟨h, -⟩ | ⟨j, q, h1, h2, h3, h4⟩
      · cases h
      · have hji : j < i := by
          have := (List.getElem?_eq_some_iff.1 h1).1
          rw [List.length_take] at this
          omega
        have hq : full[j]? = some q := by
          rw [List.getElem?_take, if_pos hji] at h1
          exact h1
        refine hF j q F t ((conf j q hq t h3 (by simpa using hl)).2 hji) (.inr fun m hm hjm => ?_) hq h2 h3
        rcases Nat.lt_trichotomy i m with h | h | h
        · exact later m hm h hfl
        · rw [← h]; exact h0'
        · exact absurd (h4 m hm (by omega) (by rw [List.length_take]; omega)) id
    have hli' : (full.take i).length = i := by rw [List.length_take]; omega
    have earlier : ∀ m, mk m = true → m < i → fl i = false → listed.getD m false = true := fun m hm him hfl => by
      have hr := hmk.after m i hm him hilt hfl
      unfold reachB at hr
      rw [Bool.or_eq_true] at hr
      rcases hr with hr | hr
      · have : i = m := by simpa using hr
        omega
      · rw [ho] at hr
        obtain ⟨k, hk, hb⟩ := Array.any_eq_true.1 hr
        rw [Bool.and_eq_true] at hb
        exact reach_closed hdown' 5 _ _ hb.2 (hall _ (Array.getElem_mem hk) hb.1)
    have hst := hstep (by rw [hli']; exact hfacts) (by
      rw [hli']
      intro hfl
      refine hS0 _ (cntM_mono (by omega)) fun m hm => ?_
      rcases Nat.lt_trichotomy i m with h | h | h
      · rw [later m hm h hfl]
        have := cntM_mono (mk := mk) (show i ≤ m by omega)
        simp; omega
      · rw [← h, h0']
        simp
      · rw [earlier m hm h hfl]
        simp [cntM_lt h hm])
    have hag : ∀ t, t ∈ p.1.looksAt ops → a.tmps[t]? = (actOf a0 ρ (full.take i)).tmps[t]? := fun t ht =>
      hH.agree hpre t fun j q hq hd => conf j q hq t hd ht
    have hexec : execOp a.eval p.1 = execOp (actOf a0 ρ (full.take i)).eval p.1 := execOp_congr p.1 (fun cs b => hlin.sel i _ cs b ho) fun x hx => by
      cases x with
      | tmp t =>
        have := hag t (List.mem_append_left _ (List.mem_filterMap.2 ⟨.tmp t, by simpa using hx, rfl⟩))
        simp only [Act.eval, Array.getD_eq_getD_getElem?]
        rw [this]
      | _ => rfl
    have hwant : Region.wanted p.1 (yielded ops a.tmps) = Region.wanted p.1 (yielded ops (actOf a0 ρ (full.take i)).tmps) := by
      unfold Region.wanted
      cases hg : p.1.guard with
      | none => rfl
      | some gw =>
        obtain ⟨g, want⟩ := gw
        have : yielded ops a.tmps g = yielded ops (actOf a0 ρ (full.take i)).tmps g := by
          unfold yielded
          cases ht : (ops[g]?).bind (·.dst) with
          | none => rfl
          | some t =>
            have := hag t (List.mem_append_right _ (by simp [hg, ht]))
            simp only [Option.bind_some, this]
        simp only [this]
    have size_eq : (actOf a0 ρ (full.take i)).tmps.size = a.tmps.size := hpre.size.trans hH.size.symm
    -- the way on
    have go : ∀ v w', p.2.rel v w' → S w' → (∀ c, c ≤ cntM mk n → (∀ m, mk m = true → ((listed.setIfInBounds i true).getD m false = true ↔ cntM mk m < c)) → I c ρ w') → (∀ (j : Nat) (q : Oper × Kind E) (F : Fact E) (d : Tmp), listed.getD j false = true → (fl j = true ∨ ∀ m, mk m = true → j < m → (listed.setIfInBounds i true).getD m false = false) → full[j]? = some q → q.2 = .fresh F → q.1.dst = some d → F.holds (ρ d) w') →
        wpAny P .any ops Q (fuel + (ops.size - n)) (listed.setIfInBounds i true) (a.put p.1.dst v) w' := by
      intro v w' hR hS' hS0' hF'
      have next : ∀ ρ' : Env, p.2.val ρ' p.1 = v → (∀ j q, j ≠ i → full[j]? = some q → q.2.val ρ' q.1 = q.2.val ρ q.1) → (∀ j q F d, j ≠ i → full[j]? = some q → q.2 = .fresh F → q.1.dst = some d → ρ' d = ρ d) → (∀ F d, p.2 = .fresh F → p.1.dst = some d → F.holds (ρ' d) w') → (∀ t, (∀ F, p.2 = .fresh F → p.1.dst ≠ some t) → ρ' t = ρ t) →
          wpAny P .any ops Q (fuel + (ops.size - n)) (listed.setIfInBounds i true) (a.put p.1.dst v) w' := by
        intro ρ' hv hothers hd' hself hρ
        have hset : ∀ j, (listed.setIfInBounds i true).getD j false = true ↔ j = i ∨ listed.getD j false = true := fun j => by
          by_cases hji : j = i
          · subst hji
            simp [Array.getD, hsz, hlt]
          · rw [getD_set_ne false (Ne.symm hji)]
            simp [hji]
        refine ih _ _ _ ρ' (inv.set hi hilt) ⟨todo.filter (· != i), ?_, fun j hj hjl => ?_⟩ ?_ hS' (fun c hc hcm => ?_) (fun j q F d hj hjm hq hf hd => ?_)
        · have : (todo.filter (· != i)).length < todo.length := by
            rw [List.length_filter_lt_length_iff_exists]
            exact ⟨i, hin i hilt h0', by simp⟩
          omega
        · have hne : j ≠ i := fun e => by
            have := (hset j).2 (.inl e)
            rw [this] at hjl
            cases hjl
          refine List.mem_filter.2 ⟨hin j hj ?_, by simpa using hne⟩
          rwa [getD_set_ne false (Ne.symm hne)] at hjl
        · have := hH.put (ρ' := ρ') hpi hset (fun j q hj hq d hd => hdist2 j i q p d (fun e => by rw [e, h0'] at hj; cases hj) hq hpi hd) (fun j q hj hq => hothers j q (fun e => by rw [e, h0'] at hj; cases hj) hq)
          rwa [hv] at this
        · have hold := hS0' c hc hcm
          rcases c with _ | c
          · exact hI0 ρ ρ' w' hold
          · refine hIρ _ ρ ρ' w' (fun t ht => ?_) hold
            obtain ⟨j0, o0, hj0, ho0, hd0, hbm⟩ := hL t ht
            refine (hρ t fun F hF hd => ?_).symm
            have hji : j0 = i := by
              rcases Nat.lt_trichotomy j0 i with h | h | h
              · exact absurd hd (hlin.dist j0 i o0 p.1 t h hilt ho0 ho hd0)
              · exact h
              · exact absurd hd0 (hlin.dist i j0 p.1 o0 t h hj0 ho ho0 hd)
            obtain ⟨m0, -, hm0, hmk0, hc0⟩ := cntM_next (mk := mk) (a := 0) (b := n) (by simp [cntM]; omega)
            have hml := (hcm m0 hmk0).2 (by rw [hc0]; simp [cntM])
            obtain ⟨hne, hre⟩ := hbm m0 hmk0
            have hml' : listed.getD m0 false = true := ((hset m0).1 hml).resolve_left (fun e => hne (by omega))
            have := reach_closed hdown' 6 m0 j0 hre hml'
            rw [hji, h0'] at this
            cases this
        · rcases (hset j).1 hj with rfl | hj
          · rw [hpi] at hq
            injection hq with hq
            subst hq
            exact hself F d hf hd
          · have hne : j ≠ i := fun e => by rw [e, h0'] at hj; cases hj
            rw [hd' j q F d hne hq hf hd]
            exact hF' j q F d hj hjm hq hf hd
      cases hk : p.2 with
      | fixed v0 =>
        have hv : v = v0 := by rw [hk] at hR; exact hR
        exact next ρ (by rw [hk]; exact hv.symm) (fun _ _ _ _ => rfl) (fun _ _ _ _ _ _ _ _ => rfl) (fun F d hf => by rw [hk] at hf; cases hf) (fun _ _ => rfl)
      | fresh F =>
        obtain ⟨d, hd⟩ := hp.dst p (by rw [hsplit]; simp) ⟨F, hk⟩
        have hR' : F.holds v w' := by rw [hk] at hR; exact hR
        have hne : ∀ j q d', j ≠ i → full[j]? = some q → q.1.dst = some d' → d' ≠ d := fun j q d' hji hq hd' e => hdist2 j i q p d' hji hq hpi hd' (by rw [hd, e])
        refine next (fun t => if t = d then v else ρ t) (by rw [hk]; simp [Kind.val, hd]) (fun j q hji hq => ?_) (fun j q F' d' hji hq _ hd' => if_neg (hne j q d' hji hq hd')) (fun F' d' hf hd' => ?_) (fun t ht => if_neg (fun e => ht F hk (by rw [hd, e])))
        · cases hkq : q.2 with
          | fixed v0 => rfl
          | fresh F' =>
            obtain ⟨d', hd'⟩ := hp.dst q (List.mem_of_getElem? hq) ⟨F', hkq⟩
            simp only [Kind.val, hd']
            exact if_neg (hne j q d' hji hq hd')
        · rw [hk] at hf
          injection hf with hf
          rw [hd] at hd'
          injection hd' with hd'
          subst hf hd'
          simpa using hR'
    have hset' : ∀ j, (listed.setIfInBounds i true).getD j false = false → listed.getD j false = false := fun j hj => by
      by_cases hji : j = i
      · rw [hji]; exact h0'
      · rwa [getD_set_ne false (Ne.symm hji)] at hj
    have hlen_i : (full.take i).length = i := by rw [List.length_take]; omega
    have hseti : (listed.setIfInBounds i true).getD i false = true := by simp [Array.getD, hsz, hlt]
    rw [hlen_i] at hst
    unfold wpOp
    simp only [ho]
    unfold StepTo at hst
    rw [← hwant] at hst
    split
    · rename_i hw
      rw [if_pos hw] at hst
      refine .inl (wp_carry (R := fun v w' => p.2.rel v w' ∧ S w' ∧ (EsF mk E Em I i ρ) w w') hexec size_eq (hst _ fun v w' h1 h2 h3 => ⟨v, rfl, h1, h2, h3⟩) fun v w' ⟨h1, h2, h3⟩ => go v w' h1 h2 (fun c hc hcm => ?_) fun j q F d hj hjm hq hf hd => ?_)
      · rcases hmi : mk i with _ | _
        · unfold EsF at h3
          rw [hmi] at h3
          refine hIE _ _ _ _ (hS0 c hc fun m hm => ?_) h3
          rw [← hcm m hm, getD_set_ne false (fun e => by rw [← e, hmi] at hm; cases hm)]
        · unfold EsF at h3
          rw [hmi] at h3
          have hci := (hcm i hmi).1 hseti
          have hceq : c = cntM mk i + 1 := by
            apply Classical.byContradiction
            intro hne
            have h1i : cntM mk (i + 1) = cntM mk i + 1 := by rw [cntM, hmi]; rfl
            obtain ⟨m', hm1, hm2, hm3, hm4⟩ := cntM_next (mk := mk) (a := i + 1) (b := n) (by omega)
            have hl := (hcm m' hm3).2 (by omega)
            rw [getD_set_ne false (by omega), later m' hm3 (by omega) (hmk.fix i hmi)] at hl
            cases hl
          rw [hceq]
          exact h3.1
      have hjm' : fl j = true ∨ ∀ m, mk m = true → j < m → listed.getD m false = false := hjm.imp id fun hjm m hm h => hset' m (hjm m hm h)
      rcases hmi : mk i with _ | _
      · unfold EsF at h3
        rw [hmi] at h3
        exact F.keep _ _ _ (hF j q F d hj hjm' hq hf hd) h3
      · unfold EsF at h3
        rw [hmi] at h3
        rcases hp.flt j q F hq hf with hfl | hst'
        · exfalso
          rcases Nat.lt_trichotomy j i with h | h | h
          · rcases hjm with h9 | hjm
            · rw [hfl] at h9; cases h9
            · have := hjm i hmi h
              rw [hseti] at this
              cases this
          · rw [h, h0'] at hj; cases hj
          · have := reach_closed hdown' 6 j i (hmk.after i j hmi h (by have := (List.getElem?_eq_some_iff.1 hq).1; omega) hfl) hj
            rw [h0'] at this
            cases this
        · exact hst' _ _ _ (hF j q F d hj hjm' hq hf hd) h3.2
    · rename_i hw
      rw [if_neg hw] at hst
      have hni : mk i = false := by
        rcases hmi : mk i with _ | _
        · rfl
        · exact absurd (by simp [Region.wanted, hmk.gd i _ hmi ho]) hw
      exact go undef w hst hS (fun c hc hcm => hS0 c hc fun m hm => by rw [← hcm m hm, getD_set_ne false (fun e => by rw [← e, hni] at hm; cases hm)]) fun j q F d hj hjm hq hf hd => hF j q F d hj (hjm.imp id fun hjm m hm h => hset' m (hjm m hm h)) hq hf hd

/-- the same, that nothing looks into -/
structure WalkF (P : Program) (ops : Array Oper) (S : World → Prop) (I : Nat → Env → World → Prop) (E Em : World → World → Prop) (mk fl : Nat → Bool) (Z : (Env → Act) → List (Tmp × Fact E) → List (Tmp × Fact E) → Prop) (k : Nat) (l : List Oper) (A : Env → Act) (Fs Gs : List (Tmp × Fact E)) : Prop where
  out : SettleF P ops S I E Em mk fl Z k l A Fs Gs

/-- THE RULE, with marks and a tail of n operations ahead of it -/
theorem wp_walk_pf {id : Nat} {a : Act} {w : World} {l : List Oper} (n : Nat) (mk fl : Nat → Bool) (ms : List Nat) (hms : ∀ m, mk m = true → m ∈ ms) (hm : P.follows .mixedOrders = true) (hB : tailB l.toArray n = true) (hmk : markPB l.toArray n mk fl ms = true) (L : List Tmp) (hLB : labB l.toArray n ms L = true) (E Em : World → World → Prop) (S : World → Prop) (I : Nat → Env → World → Prop) (hS : S w.drew) (hS0 : ∀ ρ, I 0 ρ w.drew) (hIE : ∀ c ρ w w', I c ρ w → E w w' → I c ρ w') (hI0 : ∀ ρ ρ' w, I 0 ρ w → I 0 ρ' w) (hIρ : ∀ c ρ ρ' w, (∀ t ∈ L, ρ t = ρ' t) → I c ρ w → I c ρ' w)
    (h : WalkF P l.toArray S I E Em mk fl (fun A Fs Gs => ∀ ρ w', S w' → I (cntM mk n) ρ w' → (∀ t F, (t, F) ∈ Fs → F.holds (ρ t) w') → (∀ t F, (t, F) ∈ Gs → F.holds (ρ t) w') → wpList P l.toArray Q (l.drop n) (A ρ) w') 0 (l.take n) (fun _ => a) [] []) : (Code.region id l.toArray true).wp P Q a w := by
  simp only [tailB, Bool.and_eq_true, decide_eq_true_eq] at hB
  obtain ⟨⟨⟨⟨hn, hlin⟩, hs⟩, hc⟩, hq⟩ := hB
  obtain ⟨full, hp, he, hZ⟩ := settleF_plan (l.take n) [] ⟨(fun _ h => by cases h), (fun j p F h => by simp at h), (fun pre p post he => by simp at he)⟩ h.out
  have inv0 : HeadInv .any l.toArray n (Array.replicate l.toArray.size false) :=
    ⟨by simp, fun j oj _ hl => (by rw [getD_replicate_false] at hl; cases hl), fun t _ ht => getD_in (by simpa using ht) (getD_replicate_false _ _)⟩
  have := any_order_pf (P := P) (Q := Q) hn (by simpa using he) (linearN_of hlin) hs hc (fun listed hsz h1 h2 => by
    have hn' := hn
    rw [show listed = (Array.replicate n true) ++ (Array.replicate (l.toArray.size - n) false) from getD_ext (by simp only [Array.size_append, Array.size_replicate]; omega) fun i => by
      rw [Array.getD_eq_getD_getElem? (xs := _ ++ _), Array.getElem?_append]
      rcases Nat.lt_or_ge i n with h | h
      · rw [h1 i h]
        simp [h]
      · rw [h2 i h]
        simp only [Array.size_replicate, Nat.not_lt.2 h, if_false, Array.getElem?_replicate]
        split <;> rfl]
    exact hq) (markedP_of hms hmk) hp hIE hI0 hIρ (labB_spec hms hLB) hZ n _ a w.drew (fun _ => undef) inv0 ⟨List.range n, by simp, fun i hi _ => List.mem_range.2 hi⟩ ⟨rfl, rfl, fun _ _ => rfl, fun i p t hi => ?_⟩ hS (fun c hc hcm => ?_) fun i p F d hi => ?_
  · refine wp_region_any hm ?_
    rwa [show n + (l.toArray.size - n) = l.toArray.size by omega] at this
  · exfalso; rw [getD_replicate_false] at hi; cases hi
  · rcases c with _ | c
    · exact hS0 _
    · obtain ⟨m0, -, hm0, hmk0, hc0⟩ := cntM_next (mk := mk) (a := 0) (b := n) (by simp [cntM]; omega)
      have := (hcm m0 hmk0).2 (by rw [hc0]; simp [cntM])
      rw [getD_replicate_false] at this
      cases this
  · exfalso; rw [getD_replicate_false] at hi; cases hi
variable {Z : (Env → Act) → List (Tmp × Fact E) → List (Tmp × Fact E) → Prop} {o : Oper} {rest : List Oper} {A : Env → Act} {Fs Gs : List (Tmp × Fact E)} {k : Nat}
theorem fsettle_nil (h : Z A Fs Gs) : WalkF P ops S I E Em mk fl Z k [] A Fs Gs := ⟨h⟩
theorem fsettle_skip (hmk : mk k = false) (hw : ∀ ρ, Region.wanted o (yielded ops (A ρ).tmps) = false) (h : WalkF P ops S I E Em mk fl Z (k + 1) rest (fun ρ => (A ρ).put o.dst undef) Fs Gs) : WalkF P ops S I E Em mk fl Z k (o :: rest) A Fs Gs :=
  ⟨.inl ⟨undef, fun ρ w _ _ _ => by unfold StepTo; rw [if_neg (by rw [hw]; simp)], by rw [hmk]; exact h.out⟩⟩
theorem fsettle_run {v : Value} (hmk : mk k = false) (hE : ∀ w, S w → E w w) (hw : ∀ ρ, Region.wanted o (yielded ops (A ρ).tmps) = true)
    (hr : ∀ ρ w, S w → FactsOK (o.looksAt ops) ρ w (cond (fl k) [] Fs) → PreP mk fl I k ρ w → (execOp (A ρ).eval o).run P w = .ok (.value v) w) (h : WalkF P ops S I E Em mk fl Z (k + 1) rest (fun ρ => (A ρ).put o.dst v) Fs Gs) : WalkF P ops S I E Em mk fl Z k (o :: rest) A Fs Gs :=
  ⟨.inl ⟨v, fun ρ w hS hF hP => by
    unfold StepTo
    rw [if_pos (hw ρ)]
    unfold EsF
    rw [hmk]
    intro K hK
    unfold Oper.wp
    rw [hr ρ w hS hF hP]
    exact hK v w rfl hS (hE w hS), by rw [hmk]; exact h.out⟩⟩
theorem fsettle_step {v : Value} (hmk : mk k = false) (hw : ∀ ρ, Region.wanted o (yielded ops (A ρ).tmps) = true)
    (hc : ∀ ρ w, S w → FactsOK (o.looksAt ops) ρ w (cond (fl k) [] Fs) → PreP mk fl I k ρ w → ∀ K : Act → World → Prop, (∀ w', S w' → E w w' → K ((A ρ).put o.dst v) w') → o.wp P (A ρ) w K (fun _ _ _ => False)) (h : WalkF P ops S I E Em mk fl Z (k + 1) rest (fun ρ => (A ρ).put o.dst v) Fs Gs) : WalkF P ops S I E Em mk fl Z k (o :: rest) A Fs Gs :=
  ⟨.inl ⟨v, fun ρ w hS hF hP => by
    unfold StepTo
    rw [if_pos (hw ρ)]
    unfold EsF
    rw [hmk]
    exact fun K hK => hc ρ w hS hF hP K fun w' h1 h2 => hK v w' rfl h1 h2, by rw [hmk]; exact h.out⟩⟩
theorem fsettle_known {d : Tmp} (F : Fact E) (hmk : mk k = false) (hfl : fl k = false) (hd : o.dst = some d) (hw : ∀ ρ, Region.wanted o (yielded ops (A ρ).tmps) = true)
    (hc : ∀ ρ w, S w → FactsOK (o.looksAt ops) ρ w (cond (fl k) [] Fs) → PreP mk fl I k ρ w → ∀ K : Act → World → Prop, (∀ v w', F.holds v w' → S w' → E w w' → K ((A ρ).put o.dst v) w') → o.wp P (A ρ) w K (fun _ _ _ => False)) (h : WalkF P ops S I E Em mk fl Z (k + 1) rest (fun ρ => (A ρ).put (some d) (ρ d)) ((d, F) :: Fs) Gs) : WalkF P ops S I E Em mk fl Z k (o :: rest) A Fs Gs :=
  ⟨.inr ⟨d, F, hd, .inl hfl, fun ρ w hS hF hP => by
    unfold StepTo
    rw [if_pos (hw ρ)]
    unfold EsF
    rw [hmk]
    exact fun K hK => hc ρ w hS hF hP K hK, by rw [hmk, hfl]; exact h.out⟩⟩
/-- a mark: what was known is forgotten -/
theorem fsettle_mark {d : Tmp} (F : Fact E) (hmk : mk k = true) (hfl : fl k = false) (hd : o.dst = some d) (hw : ∀ ρ, Region.wanted o (yielded ops (A ρ).tmps) = true)
    (hc : ∀ ρ w, S w → FactsOK (o.looksAt ops) ρ w (cond (fl k) [] Fs) → PreP mk fl I k ρ w → ∀ K : Act → World → Prop, (∀ v w', F.holds v w' → S w' → I (cntM mk k + 1) ρ w' → Em w w' → K ((A ρ).put o.dst v) w') → o.wp P (A ρ) w K (fun _ _ _ => False)) (h : WalkF P ops S I E Em mk fl Z (k + 1) rest (fun ρ => (A ρ).put (some d) (ρ d)) [(d, F)] Gs) : WalkF P ops S I E Em mk fl Z k (o :: rest) A Fs Gs :=
  ⟨.inr ⟨d, F, hd, .inl hfl, fun ρ w hS hF hP => by
    unfold StepTo
    rw [if_pos (hw ρ)]
    unfold EsF
    rw [hmk]
    exact fun K hK => hc ρ w hS hF hP K fun v w' h1 h2 h3 h4 => hK v w' h1 h2 ⟨h3, h4⟩, by rw [hmk, hfl]; exact h.out⟩⟩
/-- a mark whose value is known, or that has none -/
theorem fsettle_turn {v : Value} (hmk : mk k = true) (hw : ∀ ρ, Region.wanted o (yielded ops (A ρ).tmps) = true)
    (hc : ∀ ρ w, S w → FactsOK (o.looksAt ops) ρ w (cond (fl k) [] Fs) → PreP mk fl I k ρ w → ∀ K : Act → World → Prop, (∀ w', S w' → I (cntM mk k + 1) ρ w' → Em w w' → K ((A ρ).put o.dst v) w') → o.wp P (A ρ) w K (fun _ _ _ => False)) (h : WalkF P ops S I E Em mk fl Z (k + 1) rest (fun ρ => (A ρ).put o.dst v) [] Gs) : WalkF P ops S I E Em mk fl Z k (o :: rest) A Fs Gs :=
  ⟨.inl ⟨v, fun ρ w hS hF hP => by
    unfold StepTo
    rw [if_pos (hw ρ)]
    unfold EsF
    rw [hmk]
    exact fun K hK => hc ρ w hS hF hP K fun w' h1 h2 h3 => hK v w' rfl h1 ⟨h2, h3⟩, by rw [hmk]; exact h.out⟩⟩
theorem fsettle_float {d : Tmp} (F : Fact E) (hst : Stays Em F) (hmk : mk k = false) (hfl : fl k = true) (hd : o.dst = some d) (hw : ∀ ρ, Region.wanted o (yielded ops (A ρ).tmps) = true)
    (hc : ∀ ρ w, S w → FactsOK (o.looksAt ops) ρ w (cond (fl k) [] Fs) → PreP mk fl I k ρ w → ∀ K : Act → World → Prop, (∀ v w', F.holds v w' → S w' → E w w' → K ((A ρ).put o.dst v) w') → o.wp P (A ρ) w K (fun _ _ _ => False)) (h : WalkF P ops S I E Em mk fl Z (k + 1) rest (fun ρ => (A ρ).put (some d) (ρ d)) ((d, F) :: Fs) ((d, F) :: Gs)) : WalkF P ops S I E Em mk fl Z k (o :: rest) A Fs Gs :=
  ⟨.inr ⟨d, F, hd, .inr hst, fun ρ w hS hF hP => by
    unfold StepTo
    rw [if_pos (hw ρ)]
    unfold EsF
    rw [hmk]
    exact fun K hK => hc ρ w hS hF hP K hK, by rw [hmk, hfl]; exact h.out⟩⟩
end
end Go.Proofs.YtkjmddgnfgbioaaDoor
