/-
  serial's runner: block, walked.
-/
import Derived.Test.YtajddbmmbhdnfaaSr3
namespace Go.Proofs.Ytajddbmmbhdnfaa
set_option linter.unusedVariables false
set_option linter.unusedSimpArgs false
set_option maxRecDepth 100000
open Go.RowKit

theorem one_pr {B : Nat} {w : World} {kd : Int} {nm : ByteArray} {ca cb : List Value} {D : Option Addr} {dl dc : Nat} {E : Option Addr} {el ec : Nat} {ea eb : Ex.X} {body els : St.P} (t : TypeId) (hB : B ≤ w.heap.size)
    (xa : XR B w ca ea) (xb : XR B w cb eb) (pb : PR B w D dl body) (pe : PR B w E el els) (h : dl ≤ dc ∧ dc ≤ maxLen ∧ el ≤ ec ∧ ec ≤ maxLen) :
    PR (w.alloc (.cells (stcells kd nm ca cb D dl dc E el ec).toArray t)).heap.size (w.alloc (.cells (stcells kd nm ca cb D dl dc E el ec).toArray t)) (some ⟨w.heap.size, 0, none⟩) 1 (.cons kd nm.data.toList ea eb body els .nil) := by
  have hb : Below B w (w.alloc (.cells (stcells kd nm ca cb D dl dc E el ec).toArray t)) := (Below.refl _ _).alloc hB _
  have hz : B ≤ (w.alloc (.cells (stcells kd nm ca cb D dl dc E el ec).toArray t)).heap.size := by simp; omega
  refine .cons _ 0 0 kd nm ca cb ea eb D dl dc E el ec body els .nil (by simp) h.1 h.2.1 h.2.2.1 h.2.2.2 (fun j u hu => ?_) ((xa.later hb).up hz) ((xb.later hb).up hz) ((pb.later hb).up hz) ((pe.later hb).up hz) (.nil _)
  rw [Nat.zero_add, (Blk.new w t (stcells kd nm ca cb D dl dc E el ec)).cell, hu]
theorem labels_one (kd : Int) (nm : List UInt8) (ea eb : Ex.X) (body els : St.P) : St.labels (.cons kd nm ea eb body els .nil) = St.lab1 kd (St.labels body) (St.labels els) := by
  simp [St.labels]
theorem size_one (kd : Int) (nm : List UInt8) (ea eb : Ex.X) (body els : St.P) : (St.P.cons kd nm ea eb body els .nil).size = 1 + ea.leaves + eb.leaves + body.size + els.size := by
  simp [St.P.size]

/-- an access is kept, and something is worth so much -/
def FAcc (B : Nat) (w1 : World) (T : Nat → Prop) (g F : Nat) (m : Sr.M) (z : Value) : Fact (fun w w' => Below w.heap.size w w') :=
  ⟨fun v w => v = z ∧ ∃ vt, RnTo B w1 T w g F m vt, fun v w w' ⟨h1, vt, h2⟩ k => ⟨h1, vt, h2.later k⟩⟩
theorem Sr.rcells_put {F : Nat} {m : Sr.M} {vt : Value} (hl : m.heap.length = 8) (c : Nat) (hc : c < 8) (x : Int) : (Sr.rcells F m vt).set c (.int .i64 x) = Sr.rcells F (m.put c x) vt := by
  unfold Sr.rcells Sr.M.put
  rw [List.set_append_left _ _ (by rw [ints_length]; omega), ints_set]






set_option maxHeartbeats 8000000 in
theorem block_step (p : St.P) (ih : ∀ q : St.P, q.size < p.size → BlockOK q) : BlockOK p := by
  intro w B n c g F A vt ve m zs l hp hnc hcm hO hfit hF hv hzs hls
  obtain ⟨g0, o, hA, hpl⟩ := hp.place
  have hn63 : n ≤ 9223372036854775807 := by unfold maxLen at hcm; omega
  have hP0 : ∀ w' (A' : Option Addr) (m' : Nat) (q : St.P), Keeps (RnT g m vt) w w' → PR B w A' m' q → PR B w' A' m' q := fun w' A' m' q k h => h.later (hO.below k)
  have HP0 := Lib.hid hP0
  obtain ⟨R, hR⟩ : ∃ R, R = Sr.run p (Ex.bs zs) l m := ⟨_, rfl⟩
  rw [← hR]
  have HR := Lib.hid (And.intro hR hp.ok)
  clear hP0 hp hR
  go_enter Try.func42, Try.ntmps42
  go_wp2
  go_loopw [2, 3, 13] (fun ve lb i wr => ∃ (k : Nat) (q : St.P) (zj : List Ex.Bd) (lj : Nat) (mj : Sr.M) (vtj : Value), k ≤ n ∧ i = .int .i64 (k : Int) ∧ lb = .int .i64 (lj : Int) ∧ PR B w (some ⟨g0, o + k * 12, none⟩) (n - k) q ∧ RnTo B w (RnT g m vt) wr g F mj vtj ∧ EnvAt wr (RnT g mj vtj) ve zj ∧ Sr.Fit F mj ∧ Sr.run q (Ex.bs zj) lj mj = R ∧ q.size ≤ p.size ∧ zj.length + q.size ≤ zs.length + p.size ∧ lj + q.size ≤ l + p.size) (fun _ _ i _ => n - (intOf i).toNat)
  case atStart => exact ⟨0, p, zs, l, m, vt, Nat.zero_le _, rfl, rfl, hpl, OwnTo.start hO, hv, hfit, HR.out.1.symm, Nat.le_refl _, Nat.le_refl _, Nat.le_refl _⟩
  case round =>
    clear hO hpl hv hfit
    obtain ⟨k, q, zj, lj, mj, vtj, hk, rfl, rfl, hq0, hW, hvj, hfj, hrun, hqs, hqz, hql⟩ := hrel
    have hq := HP0.out wr _ _ _ hW.kp hq0
    by_cases hlt : k < n
    · obtain ⟨kd, nm, ak, an, bk, bn, sa, sb, aA, bA, al, ac, bl, bc, ea, eb, D, dl, dc, E, el, ec, body, els, rest, rfl, hg, ⟨hd1, hd2, he1, he2⟩, hcell, xa, xb, pb, pe, pr⟩ := hq.next (by omega)
      have pr0 := hq0.tail (by omega)
      have hAA := hA (by omega)
      subst hAA
      have c0 : wr.cell? ⟨g0, o + k * 12, none⟩ = some (.int .i64 kd) := hcell 0 _ rfl
      have c1 := hcell 1 _ rfl
      have c2 := hcell 2 _ rfl
      have c3 := hcell 3 _ rfl
      have c4 := hcell 4 _ rfl
      have c5 := hcell 5 _ rfl
      have c6 := hcell 6 _ rfl
      have c7 := hcell 7 _ rfl
      have c8 := hcell 8 _ rfl
      have c9 := hcell 9 _ rfl
      have c10 := hcell 10 _ rfl
      have c11 := hcell 11 _ rfl
      have hd := And.intro hd1 (And.intro hd2 (And.intro he1 he2))
      have hoka := xa.ok
      have hokb := xb.ok
      have hokp := pb.ok
      have hoke := pe.ok
      have hs : body.size < p.size ∧ els.size < p.size ∧ rest.size ≤ p.size ∧ zj.length + (1 + ea.leaves + eb.leaves + body.size + els.size + rest.size) ≤ zs.length + p.size ∧ lj + (1 + ea.leaves + eb.leaves + body.size + els.size + rest.size) ≤ l + p.size := by rw [St.P.size] at hqs hqz hql; omega
      obtain ⟨VE, ce, rfl, -⟩ := hvj.sl
      have hce := hvj.addr.2
      have hrg := hvj.rng
      obtain ⟨Q, hQq⟩ : ∃ Q, Q = wr.heap.size := ⟨_, rfl⟩
      have hbA : Below wr.heap.size wr (wr.alloc (.cells (stcells kd nm (xcells ak an sa aA al ac) (xcells bk bn sb bA bl bc) D dl dc E el ec).toArray 66)) := below_alloc (Below.refl _ _) _
      have hX : StBox B Q (wr.alloc (.cells (stcells kd nm (xcells ak an sa aA al ac) (xcells bk bn sb bA bl bc) D dl dc E el ec).toArray 66)) (RnT g mj vtj) kd nm ak an sa aA al ac bk bn sb bA bl bc D dl dc E el ec ea eb body els := by
        refine StBox.of (t := 66) hbA hW.own.base (fun i hi => hW.own.ge hi) (fun h => by have := hW.own.lt h; omega) ?_ xa xb pb pe
        rw [hQq]
        exact Blk.new _ _ _
      have T0 : RnTo B (wr.alloc (.cells (stcells kd nm (xcells ak an sa aA al ac) (xcells bk bn sb bA bl bc) D dl dc E el ec).toArray 66)) (RnT g mj vtj) (wr.alloc (.cells (stcells kd nm (xcells ak an sa aA al ac) (xcells bk bn sb bA bl bc) D dl dc E el ec).toArray 66)) g F mj vtj := OwnTo.start (hW.own.later hbA)
      have v0 := hvj.later hbA
      have hQQ := Lib.hid hQq
      have HQ := Lib.hid (And.intro hs (And.intro hqs (And.intro hqz (And.intro hql (And.intro (And.intro hzs hls) pr0)))))
      have HRN := Lib.hid hrun
      have HW := Lib.hid hW
      have HC := Lib.hid hce
      clear hQq hcell hq hq0 hrun hs hqs hqz hql hW xa xb pb pe pr pr0 hvj hce
      unfold stcells xcells at hbA hX T0 v0
      simp only [List.cons_append, List.nil_append] at hbA hX T0 v0
      rcases fr_kinds kd with rfl | rfl | rfl | rfl | rfl | rfl | rfl | ⟨k1, k2, k3, k4, k5, k6, k7⟩
      · obtain ⟨y, hy⟩ : ∃ y, y = Ex.evl (Ex.bs zj) ea := ⟨_, rfl⟩
        have hry : Ex.rng y := by rw [hy]; exact Ex.evl_rng _ hrg _ hoka
        have hrun : Sr.run rest (Ex.bs (zj ++ [(nm, y)])) (lj + St.lab1 1 (St.labels body) (St.labels els)) mj.step = R := by rw [bs_snoc, hy]; exact HRN.out
        have hon1 := Sr.run_on rest (Ex.bs (zj ++ [(nm, y)])) (lj + St.lab1 1 (St.labels body) (St.labels els)) mj.step
        rw [hrun] at hon1
        have hmore : mj.steps + 1 ≤ R.steps := hon1.steps
        have HYY := Lib.hid hy
        clear hy
        go_wp2_with fail
        generalize (wr.alloc (.cells #[.int .i64 1, .string nm, .int .i64 ak, .int .i64 an, .string sa, .slice aA al ac, .int .i64 bk, .int .i64 bn, .string sb, .slice bA bl bc, .slice D dl dc, .slice E el ec] 66)) = W0 at hbA hX T0 v0 ⊢
        rw [← hQQ.out]
        clear c0 c1 c2 c3 c4 c5 c6 c7 c8 c9 c10 c11
        by_cases hst : mj.steps = F
        · have hg := step_out B W0 g F mj vtj T0.own hfj.len hst
          have hend : ∀ w1, Below W0.heap.size W0 w1 → F < R.steps ∧ Keeps (RnT g m vt) w w1 := fun w1 hb1 => ⟨by have := hmore; omega, (HW.out.kp.trans (Keeps.of_below hbA _)).trans (Keeps.of_below hb1 _)⟩
          have HH := Lib.hid hend
          clear hend hX T0 v0 hbA hst hmore
          refine hg.mono ?_
          rintro e w1 ⟨rfl, hb1⟩
          obtain ⟨h1, h2⟩ := HH.out w1 hb1
          clear hg hb1
          go_wp2
          exact ⟨rfl, .inr ⟨h1, rfl, h2⟩⟩
        have hfs : Sr.Fit F mj.step := ⟨hfj.len, hfj.rg, by have := hfj.st; show mj.steps + 1 ≤ F; omega, by have := hfj.tr; show mj.trace.length ≤ mj.steps + 1; omega⟩
        refine (step_ok B W0 g F mj vtj T0.own hfj.len (by have := hfj.st; omega) hF).mono ?_
        rintro e w1 ⟨rfl, h1⟩
        have T1 := T0.step h1
        have v1 := v0.step T1.kp T1.nw
        clear h1 T0 v0 hst hmore
        have gE : ∀ (w' : World), Below w1.heap.size w1 w' → Calls Try.prog 47 #[.agg #[.int .i64 ak, .int .i64 an, .string sa, .slice aA al ac], .slice VE zj.length ce] w' fun r w'' => r = .returned (.int .i64 y) ∧ Below w'.heap.size w' w'' := fun w' hb => by
          rw [HYY.out]
          exact eval_ok (.slice VE zj.length ce) zj (by have := HQ.out; omega) ea w' _ ((hX.read w' (T1.later hb).kp).1.up (T1.later hb).own.base) (v1.later hb).sl
        have keepS : ∀ w', Below w1.heap.size w1 w' → (Below w1.heap.size w1 w' ∧ w'.cell? ⟨Q, 1, none⟩ = some (.string nm) ∧ w'.cell? ⟨Q, 2, none⟩ = some (.int .i64 ak) ∧ w'.cell? ⟨Q, 3, none⟩ = some (.int .i64 an) ∧ w'.cell? ⟨Q, 4, none⟩ = some (.string sa) ∧ w'.cell? ⟨Q, 5, none⟩ = some (.slice aA al ac)) := fun w' hb => by
          obtain ⟨c0, c1, c2, c3, c4, c5, c6, c7, c8, c9, c10, c11⟩ := hX.cells w' (T1.later hb).kp
          exact ⟨hb, c1, c2, c3, c4, c5⟩
        have gS : ∀ w', Below w1.heap.size w1 w' → SlV w' 2 (.slice VE zj.length zj.length) zj.length (Ex.bindcs zj) := fun w' hb => by
          obtain ⟨A', c', e', q1, q2, q3, q4⟩ := (v1.later hb).sl
          injection e' with e1 e2 e3
          subst e1
          exact ⟨VE, zj.length, rfl, Nat.le_refl _, by have := HC.out; omega, q3, q4⟩
        have hS0 := keepS _ (below_drew (Below.refl _ _))
        have hn63 : zj.length + 1 ≤ maxLen := by have := HQ.out; unfold maxLen; omega
        have hn47 : (zj.length + 1) * 24 ≤ 140737488355328 := by have := HQ.out; omega
        have hcl : ∀ w', Calls Try.prog 46 #[.slice VE zj.length ce] w' fun e w'' => e = .returned (.slice VE zj.length zj.length) ∧ w' = w'' := fun w' => clip_any w' VE zj.length ce HC.out.1 HC.out.2.1 HC.out.2.2
        have HT := Lib.hid (And.intro T1 (And.intro v1 hX))
        clear T1 v1 hX
        go_wp2_with fail
        refine wp_walk (by kernel_rfl) (by kernel_rfl) (fun w w' => Below w.heap.size w w') (fun w' => (Below w1.heap.size w1 w' ∧ w'.cell? ⟨Q, 1, none⟩ = some (.string nm) ∧ w'.cell? ⟨Q, 2, none⟩ = some (.int .i64 ak) ∧ w'.cell? ⟨Q, 3, none⟩ = some (.int .i64 an) ∧ w'.cell? ⟨Q, 4, none⟩ = some (.string sa) ∧ w'.cell? ⟨Q, 5, none⟩ = some (.slice aA al ac))) hS0 ?_
        repeat (first | (refine settle_skip (fun _ => by rfl) ?_; (simp only [Act.put, List.setIfInBounds_toArray, List.set_cons_zero, List.set_cons_succ])) | (refine' settle_run (fun _ _ => Below.refl _ _) (fun _ => by rfl) ?_ ?_; rotate_left; (focus (intro ρ w hS hF; (try dsimp only at hS); go_split_ands; go_simp; try with_reducible rfl)); (simp only [Act.put, List.setIfInBounds_toArray, List.set_cons_zero, List.set_cons_succ])))
        (refine' settle_step (fun _ => by rfl) ?_ ?_; rotate_left; (focus (intro ρ w hS hF K hK; (simp only [Act.put, List.setIfInBounds_toArray, List.set_cons_zero, List.set_cons_succ] at hK); go_simp; (refine (hcl _).mono ?_; rintro e w' ⟨rfl, rfl⟩; have hS' := hS; have hE' := Below.refl w.heap.size w); exact hK _ hS' hE')); (simp only [Act.put, List.setIfInBounds_toArray, List.set_cons_zero, List.set_cons_succ]))
        repeat (first | (refine settle_skip (fun _ => by rfl) ?_; (simp only [Act.put, List.setIfInBounds_toArray, List.set_cons_zero, List.set_cons_succ])) | (refine' settle_run (fun _ _ => Below.refl _ _) (fun _ => by rfl) ?_ ?_; rotate_left; (focus (intro ρ w hS hF; (try dsimp only at hS); go_split_ands; go_simp; try with_reducible rfl)); (simp only [Act.put, List.setIfInBounds_toArray, List.set_cons_zero, List.set_cons_succ])))
        (refine' settle_step (fun _ => by rfl) ?_ ?_; rotate_left; (focus (intro ρ w hS hF K hK; (simp only [Act.put, List.setIfInBounds_toArray, List.set_cons_zero, List.set_cons_succ] at hK); go_simp; (refine (gE _ hS.1).mono ?_; rintro e w' ⟨rfl, hb'⟩; have hS' := keepS _ (below_next hb' hS.1); have hE' := hb'); exact hK _ hS' hE')); (simp only [Act.put, List.setIfInBounds_toArray, List.set_cons_zero, List.set_cons_succ]))
        repeat (first | (refine settle_skip (fun _ => by rfl) ?_; (simp only [Act.put, List.setIfInBounds_toArray, List.set_cons_zero, List.set_cons_succ])) | (refine' settle_run (fun _ _ => Below.refl _ _) (fun _ => by rfl) ?_ ?_; rotate_left; (focus (intro ρ w hS hF; (try dsimp only at hS); go_split_ands; go_simp; try with_reducible rfl)); (simp only [Act.put, List.setIfInBounds_toArray, List.set_cons_zero, List.set_cons_succ])))
        (refine settle_known (FSl 2 1 [.string nm, .int .i64 y]) (by rfl) (fun _ => by rfl)  ?_ ?_; (focus (intro ρ w hS hF K hK; (simp only [Act.put, List.setIfInBounds_toArray, List.set_cons_zero, List.set_cons_succ] at hK); go_simp; exact hK _ _ (SlV.lit w [.string nm, .int .i64 y] 121 2 1 rfl (by decide)) (keepS _ (below_alloc hS.1 _)) (below_alloc (Below.refl _ _) _))); (simp only [Act.put, List.setIfInBounds_toArray, List.set_cons_zero, List.set_cons_succ]))
        (refine settle_known (FRow w1.heap.size 121 2 (zj.length + 1) (Ex.bindcs zj ++ ([.string nm, .int .i64 y] : List Value))) (by rfl) (fun _ => by rfl) ?_ ?_; (focus (intro ρ w hS hF K hK; refine oper_full (.tmp 24) (.tmp 32) _ _ _ _ _ Try.underlying118 info_bnd rfl (by decide) (gS w hS.1) (hF.1 (by rfl)) (bindc_one (nm, y)) (by decide) hn63 hn47 rfl rfl rfl ?_; intro v' w' hown hb; exact hK v' w' (own_base hown hS.1.size) (keepS _ (below_next hb hS.1)) hb)); (simp only [Act.put, List.setIfInBounds_toArray, List.set_cons_zero, List.set_cons_succ]))
        (refine settle_known (FRow w1.heap.size 121 2 (zj.length + 1) (Ex.bindcs zj ++ ([.string nm, .int .i64 y] : List Value))) (by rfl) (fun _ => by rfl)  ?_ ?_; (focus (intro ρ w hS hF K hK; (simp only [Act.put, List.setIfInBounds_toArray, List.set_cons_zero, List.set_cons_succ] at hK); go_simp; exact hK _ _ (hF.1 (by rfl)) hS (Below.refl _ _))); (simp only [Act.put, List.setIfInBounds_toArray, List.set_cons_zero, List.set_cons_succ]))
        refine settle_nil ?_
        intro ρ w4 hS hF
        have hrow : w4.ownsRow w1.heap.size 121 2 (ρ 2) (zj.length + 1) (Ex.bindcs zj ++ Ex.bindc (nm, y)) := hF 2 (FRow w1.heap.size 121 2 (zj.length + 1) (Ex.bindcs zj ++ ([.string nm, .int .i64 y] : List Value))) (by repeat (first | exact List.mem_cons_self | apply List.mem_cons_of_mem))
        have hb4 := hS.1
        clear hF hS hS0 keepS gS hcl gE
        dsimp only
        generalize ρ 33 = v33
        generalize ρ 32 = v32
        generalize ρ 2 = v4 at hrow ⊢
        obtain ⟨T1, v1, hX⟩ := HT.out
        have T4 := T1.later hb4
        have v4e : EnvAt w4 (RnT g mj.step vtj) v4 (zj ++ [(nm, y)]) := v1.grown hry (fun k hk => T1.own.lt hk) hrow
        obtain ⟨V4, c4', rfl, -, -⟩ := own_slice hrow
        clear HT T1 v1 hb4 hrow
        have HZ := Lib.hid (And.intro T4 (And.intro v4e hfs))
        obtain ⟨c0, c1, c2, c3, c4, c5, c6, c7, c8, c9, c10, c11⟩ := hX.cells _ T4.kp
        obtain ⟨xa, xb, pb, pe⟩ := hX.read _ T4.kp
        have hlab := labels_any (.cons 1 nm.data.toList ea eb body els .nil) _ _ 1 1 _ (Nat.le_refl _) (one_pr 66 T4.own.base xa xb pb pe hd) (Nat.le_refl _) (by decide) (by rw [size_one]; have := HQ.out; omega)
        have hlo := T4.own.base
        unfold stcells xcells at hlab
        rw [labels_one] at hlab
        have hlb := St.lab1_le 1 (St.labels body) (St.labels els)
        have hlb1 := St.labels_le body
        have hlb2 := St.labels_le els
        have hlz : lj + (1 + St.labels body + St.labels els) ≤ 576460752303423488 := by have := HQ.out; omega
        have HL := Lib.hid (And.intro hlb (And.intro hlb1 (And.intro hlb2 hlz)))
        clear T4 v4e hfs xa xb pb pe hlb hlb1 hlb2 hlz hX
        try go_wp2_with fail
        refine hlab.mono ?_
        rintro e wl ⟨rfl, hbl⟩
        have hbl2 := below_next hbl (below_alloc (Below.refl _ _) _)
        have TE := ((HW.out.later hbA).step HZ.out.1).later hbl2
        have vE := HZ.out.2.1.later hbl2
        have HE := Lib.hid (And.intro TE vE)
        clear hlab hbl hbl2 TE vE hbA c0 c1 c2 c3 c4 c5 c6 c7 c8 c9 c10 c11
        go_wp2_with fail
        go_roundw
        case rel => exact ⟨k + 1, rest, _, lj + St.lab1 1 (St.labels body) (St.labels els), _, _, by omega, by go_num, by rw [i64_add _ _ (by have := HL.out; omega)], by rw [show n - (k + 1) = n - k - 1 by omega]; exact HQ.out.2.2.2.2.2, HE.out.1, HE.out.2, HZ.out.2.2, hrun, by have := HQ.out; omega, by have := HQ.out; first | omega | (simp only [List.length_append, List.length_singleton]; omega), by have := HQ.out; have := HL.out; omega⟩
        case measure => simp [intOf]; omega
      · obtain ⟨y, hy⟩ : ∃ y, y = Ex.evl (Ex.bs zj) ea := ⟨_, rfl⟩
        obtain ⟨c, hc⟩ : ∃ c, c = Sr.cell y := ⟨_, rfl⟩
        obtain ⟨x, hx⟩ : ∃ x, x = mj.heap.getD c 0 := ⟨_, rfl⟩
        have hc8 : c < 8 := by rw [hc]; exact Sr.cell_lt y
        have hrx : Ex.rng x := by rw [hx]; exact Sr.getD_rng hfj.rg c
        have hc8i : (c : Int) < 8 := by omega
        have hrun : Sr.run rest (Ex.bs (zj ++ [(nm, x)])) (lj + St.lab1 2 (St.labels body) (St.labels els)) (mj.step.acc c false lj) = R := by rw [bs_snoc, hx, hc, hy]; exact HRN.out
        have hon1 := Sr.run_on rest (Ex.bs (zj ++ [(nm, x)])) (lj + St.lab1 2 (St.labels body) (St.labels els)) (mj.step.acc c false lj)
        rw [hrun] at hon1
        have hmore : mj.steps + 1 ≤ R.steps := hon1.steps
        have f3 : mj.steps + 1 ≤ F → Sr.Fit F (mj.step.acc c false lj) := fun hs => ⟨hfj.len, hfj.rg, hs, by have := hfj.tr; show (mj.trace ++ [_]).length ≤ mj.steps + 1; simp; omega⟩
        have HYY := Lib.hid (And.intro hy (And.intro hc hx))
        clear hy hx
        go_wp2_with fail
        generalize (wr.alloc (.cells #[.int .i64 2, .string nm, .int .i64 ak, .int .i64 an, .string sa, .slice aA al ac, .int .i64 bk, .int .i64 bn, .string sb, .slice bA bl bc, .slice D dl dc, .slice E el ec] 66)) = W0 at hbA hX T0 v0 ⊢
        rw [← hQQ.out]
        clear c0 c1 c2 c3 c4 c5 c6 c7 c8 c9 c10 c11
        by_cases hst : mj.steps = F
        · have hg := step_out B W0 g F mj vtj T0.own hfj.len hst
          have hend : ∀ w1, Below W0.heap.size W0 w1 → F < R.steps ∧ Keeps (RnT g m vt) w w1 := fun w1 hb1 => ⟨by have := hmore; omega, (HW.out.kp.trans (Keeps.of_below hbA _)).trans (Keeps.of_below hb1 _)⟩
          have HH := Lib.hid hend
          clear hend hX T0 v0 hbA hst hmore
          refine hg.mono ?_
          rintro e w1 ⟨rfl, hb1⟩
          obtain ⟨h1, h2⟩ := HH.out w1 hb1
          clear hg hb1
          go_wp2
          exact ⟨rfl, .inr ⟨h1, rfl, h2⟩⟩
        have hfs : Sr.Fit F mj.step := ⟨hfj.len, hfj.rg, by have := hfj.st; show mj.steps + 1 ≤ F; omega, by have := hfj.tr; show mj.trace.length ≤ mj.steps + 1; omega⟩
        refine (step_ok B W0 g F mj vtj T0.own hfj.len (by have := hfj.st; omega) hF).mono ?_
        rintro e w1 ⟨rfl, h1⟩
        have T1 := T0.step h1
        have v1 := v0.step T1.kp T1.nw
        clear h1 T0 v0 hst hmore
        have f3 := f3 hfs.st
        obtain ⟨c0, c1, c2, c3, c4, c5, c6, c7, c8, c9, c10, c11⟩ := hX.cells _ T1.kp
        obtain ⟨xa, xb, pb, pe⟩ := hX.read _ T1.kp
        have gE : Calls Try.prog 47 #[.agg #[.int .i64 ak, .int .i64 an, .string sa, .slice aA al ac], .slice VE zj.length ce] w1 fun r w'' => r = .returned (.int .i64 y) ∧ Below w1.heap.size w1 w'' := by
          rw [HYY.out.1]
          exact eval_ok (.slice VE zj.length ce) zj (by have := HQ.out; omega) ea w1 _ (xa.up T1.own.base) v1.sl
        clear c0 c1 xa xb pb pe
        go_wp2_with fail
        refine gE.mono ?_
        rintro e w2 ⟨rfl, hb2⟩
        have T2 := T1.later hb2
        have v2 := v1.later hb2
        have hacc := access_any B w2 g F mj.step vtj y false lj T2.own hfs.len (by have := hfs.st; have := hfs.tr; omega)
        rw [← hc] at hacc
        clear gE T1 v1 c2 c3 c4 c5 c6 c7 c8 c9 c10 c11 hb2 hc
        go_wp2_with fail
        refine hacc.mono ?_
        rintro e w3 ⟨rfl, vt3, h3⟩
        have T3 := T2.step h3
        have v3 := v2.step h3.kp h3.nw
        have keepS : ∀ w', Below w3.heap.size w3 w' → (Below w3.heap.size w3 w' ∧ w'.cell? ⟨Q, 1, none⟩ = some (.string nm) ∧ w'.cell? ⟨g, c, none⟩ = some (.int .i64 x)) := fun w' hb => by
          obtain ⟨c0, c1, -⟩ := hX.cells w' (T3.later hb).kp
          exact ⟨hb, c1, by rw [HYY.out.2.2]; exact ((T3.later hb).own.blk.cell c).trans ((Sr.rcells_get f3.len).1 c hc8)⟩
        have gS : ∀ w', Below w3.heap.size w3 w' → SlV w' 2 (.slice VE zj.length zj.length) zj.length (Ex.bindcs zj) := fun w' hb => by
          obtain ⟨A', c', e', q1, q2, q3, q4⟩ := (v3.later hb).sl
          injection e' with e1 e2 e3
          subst e1
          exact ⟨VE, zj.length, rfl, Nat.le_refl _, by have := HC.out; omega, q3, q4⟩
        have hS0 := keepS _ (below_drew (Below.refl _ _))
        have hn63 : zj.length + 1 ≤ maxLen := by have := HQ.out; unfold maxLen; omega
        have hn47 : (zj.length + 1) * 24 ≤ 140737488355328 := by have := HQ.out; omega
        have hcl : ∀ w', Calls Try.prog 46 #[.slice VE zj.length ce] w' fun e w'' => e = .returned (.slice VE zj.length zj.length) ∧ w' = w'' := fun w' => clip_any w' VE zj.length ce HC.out.1 HC.out.2.1 HC.out.2.2
        have HT := Lib.hid (And.intro T3 (And.intro v3 hX))
        clear T3 v3 hX h3 hacc T2 v2
        go_wp2_with fail
        refine wp_walk (by kernel_rfl) (by kernel_rfl) (fun w w' => Below w.heap.size w w') (fun w' => (Below w3.heap.size w3 w' ∧ w'.cell? ⟨Q, 1, none⟩ = some (.string nm) ∧ w'.cell? ⟨g, c, none⟩ = some (.int .i64 x))) hS0 ?_
        repeat (first | (refine settle_skip (fun _ => by rfl) ?_; (simp only [Act.put, List.setIfInBounds_toArray, List.set_cons_zero, List.set_cons_succ])) | (refine' settle_run (fun _ _ => Below.refl _ _) (fun _ => by rfl) ?_ ?_; rotate_left; (focus (intro ρ w hS hF; (try dsimp only at hS); go_split_ands; go_simp; try with_reducible rfl)); (simp only [Act.put, List.setIfInBounds_toArray, List.set_cons_zero, List.set_cons_succ])))
        (refine' settle_step (fun _ => by rfl) ?_ ?_; rotate_left; (focus (intro ρ w hS hF K hK; (simp only [Act.put, List.setIfInBounds_toArray, List.set_cons_zero, List.set_cons_succ] at hK); go_simp; (refine (hcl _).mono ?_; rintro e w' ⟨rfl, rfl⟩; have hS' := hS; have hE' := Below.refl w.heap.size w); exact hK _ hS' hE')); (simp only [Act.put, List.setIfInBounds_toArray, List.set_cons_zero, List.set_cons_succ]))
        repeat (first | (refine settle_skip (fun _ => by rfl) ?_; (simp only [Act.put, List.setIfInBounds_toArray, List.set_cons_zero, List.set_cons_succ])) | (refine' settle_run (fun _ _ => Below.refl _ _) (fun _ => by rfl) ?_ ?_; rotate_left; (focus (intro ρ w hS hF; (try dsimp only at hS); go_split_ands; go_simp; try with_reducible rfl)); (simp only [Act.put, List.setIfInBounds_toArray, List.set_cons_zero, List.set_cons_succ])))
        (refine settle_known (FSl 2 1 [.string nm, .int .i64 x]) (by rfl) (fun _ => by rfl)  ?_ ?_; (focus (intro ρ w hS hF K hK; (simp only [Act.put, List.setIfInBounds_toArray, List.set_cons_zero, List.set_cons_succ] at hK); go_simp; exact hK _ _ (SlV.lit w [.string nm, .int .i64 x] 121 2 1 rfl (by decide)) (keepS _ (below_alloc hS.1 _)) (below_alloc (Below.refl _ _) _))); (simp only [Act.put, List.setIfInBounds_toArray, List.set_cons_zero, List.set_cons_succ]))
        (refine settle_known (FRow w3.heap.size 121 2 (zj.length + 1) (Ex.bindcs zj ++ ([.string nm, .int .i64 x] : List Value))) (by rfl) (fun _ => by rfl) ?_ ?_; (focus (intro ρ w hS hF K hK; refine oper_full (.tmp 46) (.tmp 56) _ _ _ _ _ Try.underlying118 info_bnd rfl (by decide) (gS w hS.1) (hF.1 (by rfl)) (bindc_one (nm, x)) (by decide) hn63 hn47 rfl rfl rfl ?_; intro v' w' hown hb; exact hK v' w' (own_base hown hS.1.size) (keepS _ (below_next hb hS.1)) hb)); (simp only [Act.put, List.setIfInBounds_toArray, List.set_cons_zero, List.set_cons_succ]))
        (refine settle_known (FRow w3.heap.size 121 2 (zj.length + 1) (Ex.bindcs zj ++ ([.string nm, .int .i64 x] : List Value))) (by rfl) (fun _ => by rfl)  ?_ ?_; (focus (intro ρ w hS hF K hK; (simp only [Act.put, List.setIfInBounds_toArray, List.set_cons_zero, List.set_cons_succ] at hK); go_simp; exact hK _ _ (hF.1 (by rfl)) hS (Below.refl _ _))); (simp only [Act.put, List.setIfInBounds_toArray, List.set_cons_zero, List.set_cons_succ]))
        refine settle_nil ?_
        intro ρ w4 hS hF
        have hrow : w4.ownsRow w3.heap.size 121 2 (ρ 2) (zj.length + 1) (Ex.bindcs zj ++ Ex.bindc (nm, x)) := hF 2 (FRow w3.heap.size 121 2 (zj.length + 1) (Ex.bindcs zj ++ ([.string nm, .int .i64 x] : List Value))) (by repeat (first | exact List.mem_cons_self | apply List.mem_cons_of_mem))
        have hb4 := hS.1
        clear hF hS hS0 keepS gS hcl
        dsimp only
        generalize ρ 57 = v57
        generalize ρ 56 = v56
        generalize ρ 2 = v4 at hrow ⊢
        obtain ⟨T3, v3, hX⟩ := HT.out
        have T4 := T3.later hb4
        have v4e : EnvAt w4 (RnT g (mj.step.acc c false lj) vt3) v4 (zj ++ [(nm, x)]) := v3.grown hrx (fun k hk => T3.own.lt hk) hrow
        obtain ⟨V4, c4', rfl, -, -⟩ := own_slice hrow
        clear HT T3 v3 hb4 hrow hc8
        have HZ := Lib.hid (And.intro T4 (And.intro v4e f3))
        obtain ⟨c0, c1, c2, c3, c4, c5, c6, c7, c8, c9, c10, c11⟩ := hX.cells _ T4.kp
        obtain ⟨xa, xb, pb, pe⟩ := hX.read _ T4.kp
        have hlab := labels_any (.cons 2 nm.data.toList ea eb body els .nil) _ _ 1 1 _ (Nat.le_refl _) (one_pr 66 T4.own.base xa xb pb pe hd) (Nat.le_refl _) (by decide) (by rw [size_one]; have := HQ.out; omega)
        have hlo := T4.own.base
        unfold stcells xcells at hlab
        rw [labels_one] at hlab
        have hlb := St.lab1_le 2 (St.labels body) (St.labels els)
        have hlb1 := St.labels_le body
        have hlb2 := St.labels_le els
        have hlz : lj + (1 + St.labels body + St.labels els) ≤ 576460752303423488 := by have := HQ.out; omega
        have HL := Lib.hid (And.intro hlb (And.intro hlb1 (And.intro hlb2 hlz)))
        clear T4 v4e f3 xa xb pb pe hlb hlb1 hlb2 hlz hX
        try go_wp2_with fail
        refine hlab.mono ?_
        rintro e wl ⟨rfl, hbl⟩
        have hbl2 := below_next hbl (below_alloc (Below.refl _ _) _)
        have TE := ((HW.out.later hbA).step HZ.out.1).later hbl2
        have vE := HZ.out.2.1.later hbl2
        have HE := Lib.hid (And.intro TE vE)
        clear hlab hbl hbl2 TE vE hbA c0 c1 c2 c3 c4 c5 c6 c7 c8 c9 c10 c11
        go_wp2_with fail
        go_roundw
        case rel => exact ⟨k + 1, rest, _, lj + St.lab1 2 (St.labels body) (St.labels els), _, _, by omega, by go_num, by rw [i64_add _ _ (by have := HL.out; omega)], by rw [show n - (k + 1) = n - k - 1 by omega]; exact HQ.out.2.2.2.2.2, HE.out.1, HE.out.2, HZ.out.2.2, hrun, by have := HQ.out; omega, by have := HQ.out; first | omega | (simp only [List.length_append, List.length_singleton]; omega), by have := HQ.out; have := HL.out; omega⟩
        case measure => simp [intOf]; omega
      · obtain ⟨y, hy⟩ : ∃ y, y = Ex.evl (Ex.bs zj) ea := ⟨_, rfl⟩
        obtain ⟨c, hc⟩ : ∃ c, c = Sr.cell y := ⟨_, rfl⟩
        obtain ⟨x, hx⟩ : ∃ x, x = Ex.evl (Ex.bs zj) eb := ⟨_, rfl⟩
        have hc8 : c < 8 := by rw [hc]; exact Sr.cell_lt y
        have hc8i : (c : Int) < 8 := by omega
        have hrx : Ex.rng x := by rw [hx]; exact Ex.evl_rng _ hrg _ hokb
        have hrun : Sr.run rest (Ex.bs zj) (lj + St.lab1 3 (St.labels body) (St.labels els)) ((mj.step.acc c true lj).put c x) = R := by rw [hx, hc, hy]; exact HRN.out
        have hon1 := Sr.run_on rest (Ex.bs zj) (lj + St.lab1 3 (St.labels body) (St.labels els)) ((mj.step.acc c true lj).put c x)
        rw [hrun] at hon1
        have hmore : mj.steps + 1 ≤ R.steps := hon1.steps
        have f3 : mj.steps + 1 ≤ F → Sr.Fit F (mj.step.acc c true lj) := fun hs => ⟨hfj.len, hfj.rg, hs, by have := hfj.tr; show (mj.trace ++ [_]).length ≤ mj.steps + 1; simp; omega⟩
        have f4 : mj.steps + 1 ≤ F → Sr.Fit F ((mj.step.acc c true lj).put c x) := fun hs => ⟨by show (mj.heap.set c x).length = 8; simp [hfj.len], fun z hz => by
          rcases List.mem_or_eq_of_mem_set (show z ∈ mj.heap.set c x from hz) with hz | rfl
          · exact hfj.rg z hz
          · exact hrx, hs, (f3 hs).tr⟩
        have HYY := Lib.hid (And.intro hy (And.intro hc hx))
        clear hy hx hc
        go_wp2_with fail
        generalize (wr.alloc (.cells #[.int .i64 3, .string nm, .int .i64 ak, .int .i64 an, .string sa, .slice aA al ac, .int .i64 bk, .int .i64 bn, .string sb, .slice bA bl bc, .slice D dl dc, .slice E el ec] 66)) = W0 at hbA hX T0 v0 ⊢
        rw [← hQQ.out]
        clear c0 c1 c2 c3 c4 c5 c6 c7 c8 c9 c10 c11
        by_cases hst : mj.steps = F
        · have hg := step_out B W0 g F mj vtj T0.own hfj.len hst
          have hend : ∀ w1, Below W0.heap.size W0 w1 → F < R.steps ∧ Keeps (RnT g m vt) w w1 := fun w1 hb1 => ⟨by have := hmore; omega, (HW.out.kp.trans (Keeps.of_below hbA _)).trans (Keeps.of_below hb1 _)⟩
          have HH := Lib.hid hend
          clear hend hX T0 v0 hbA hst hmore
          refine hg.mono ?_
          rintro e w1 ⟨rfl, hb1⟩
          obtain ⟨h1, h2⟩ := HH.out w1 hb1
          clear hg hb1
          go_wp2
          exact ⟨rfl, .inr ⟨h1, rfl, h2⟩⟩
        have hfs : Sr.Fit F mj.step := ⟨hfj.len, hfj.rg, by have := hfj.st; show mj.steps + 1 ≤ F; omega, by have := hfj.tr; show mj.trace.length ≤ mj.steps + 1; omega⟩
        refine (step_ok B W0 g F mj vtj T0.own hfj.len (by have := hfj.st; omega) hF).mono ?_
        rintro e w1 ⟨rfl, h1⟩
        have T1 := T0.step h1
        have v1 := v0.step T1.kp T1.nw
        clear h1 T0 v0 hst hmore
        have f3 := f3 hfs.st
        have f4 := f4 hfs.st
        have hkk : ∀ w', Keeps (RnT g mj.step vtj) w1 w' → Keeps (RnT g mj vtj) W0 w' := fun w' k => T1.kp.step k (fun i hi ht => (T1.nw i ht).resolve_right (by omega))
        have keepS : ∀ w', Keeps (RnT g mj.step vtj) w1 w' → (Keeps (RnT g mj.step vtj) w1 w' ∧ w'.cell? ⟨Q, 2, none⟩ = some (.int .i64 ak) ∧ w'.cell? ⟨Q, 3, none⟩ = some (.int .i64 an) ∧ w'.cell? ⟨Q, 4, none⟩ = some (.string sa) ∧ w'.cell? ⟨Q, 5, none⟩ = some (.slice aA al ac) ∧
          w'.cell? ⟨Q, 6, none⟩ = some (.int .i64 bk) ∧ w'.cell? ⟨Q, 7, none⟩ = some (.int .i64 bn) ∧ w'.cell? ⟨Q, 8, none⟩ = some (.string sb) ∧ w'.cell? ⟨Q, 9, none⟩ = some (.slice bA bl bc)) := fun w' hb => by
          obtain ⟨c0, c1, c2, c3, c4, c5, c6, c7, c8, c9, c10, c11⟩ := hX.cells w' (hkk w' hb)
          exact ⟨hb, c2, c3, c4, c5, c6, c7, c8, c9⟩
        have gE : ∀ (w' : World) (ck cn : Int) (sc : ByteArray) (cA : Option Addr) (cl cc : Nat) (e : Ex.X) (z : Int), z = Ex.evl (Ex.bs zj) e → Keeps (RnT g mj.step vtj) w1 w' → XR B w' (xcells ck cn sc cA cl cc) e → Calls Try.prog 47 #[.agg #[.int .i64 ck, .int .i64 cn, .string sc, .slice cA cl cc], .slice VE zj.length ce] w' fun r w'' => r = .returned (.int .i64 z) ∧ Below w'.heap.size w' w'' := fun w' ck cn sc cA cl cc e z hz hb hx => by
          rw [hz]
          exact eval_ok (.slice VE zj.length ce) zj (by have := HQ.out; omega) e w' _ (hx.up (Nat.le_trans T1.own.base hb.size)) (v1.step hb (fun i h => .inl h)).sl
        have gX : ∀ w', Keeps (RnT g mj.step vtj) w1 w' → XR B w' (xcells ak an sa aA al ac) ea ∧ XR B w' (xcells bk bn sb bA bl bc) eb := fun w' hb => ⟨(hX.read w' (hkk w' hb)).1, (hX.read w' (hkk w' hb)).2.1⟩
        have gA : ∀ w', Below w1.heap.size w1 w' → Calls Try.prog 48 #[.pointer (some ⟨g, 0, none⟩), .int .i64 y, .bool true, .int .i64 (lj : Int)] w' fun e w'' => e = .returned (.int .i64 (c : Int)) ∧ ∃ vt', RnTo B w1 (RnT g mj.step vtj) w'' g F (mj.step.acc c true lj) vt' := fun w' hb => by
          have h := access_any B w' g F mj.step vtj y true lj (T1.own.later hb) hfs.len (by have := hfs.st; have := hfs.tr; omega)
          rw [← HYY.out.2.1] at h
          exact h.mono fun e w'' ⟨h1, vt', h2⟩ => ⟨h1, vt', h2.since hb⟩
        have hS1 := keepS _ ((Keeps.refl _ w1).drewN 1)
        have HT := Lib.hid (And.intro T1 (And.intro v1 (And.intro hX (And.intro f3 f4))))
        clear T1 v1 hX hkk f3 f4
        go_wp2_with fail
        refine wp_walk_mt 15 (fun i => ([7] : List Nat).contains i) (fun i => ([0,8,9,10,12,13] : List Nat).contains i) [7] (by intro m h; simpa using h) (by kernel_rfl) (by kernel_rfl) (by kernel_rfl) (fun w w' => Below w.heap.size w w') (fun w' => (Keeps (RnT g mj.step vtj) w1 w' ∧ w'.cell? ⟨Q, 2, none⟩ = some (.int .i64 ak) ∧ w'.cell? ⟨Q, 3, none⟩ = some (.int .i64 an) ∧ w'.cell? ⟨Q, 4, none⟩ = some (.string sa) ∧ w'.cell? ⟨Q, 5, none⟩ = some (.slice aA al ac) ∧ w'.cell? ⟨Q, 6, none⟩ = some (.int .i64 bk) ∧ w'.cell? ⟨Q, 7, none⟩ = some (.int .i64 bn) ∧ w'.cell? ⟨Q, 8, none⟩ = some (.string sb) ∧ w'.cell? ⟨Q, 9, none⟩ = some (.slice bA bl bc))) (fun w' => Below w1.heap.size w1 w') hS1 (below_drew (Below.refl _ _)) (fun _ _ h h' => below_next h' h) ?_
        simp only [List.length_cons, List.length_nil, Nat.reduceAdd, Nat.reduceSub, List.take_succ_cons, List.take_zero, List.drop_succ_cons, List.drop_zero]
        repeat (first | (refine nsettle_skip (by rfl) (fun _ => by rfl) ?_; (simp only [Act.put, List.setIfInBounds_toArray, List.set_cons_zero, List.set_cons_succ])) | (refine' nsettle_run (by rfl) (fun _ _ => Below.refl _ _) (fun _ => by rfl) ?_ ?_; rotate_left; (focus (intro ρ w hS hF hP; (try dsimp only at hS); go_split_ands; go_simp; try with_reducible rfl)); (simp only [Act.put, List.setIfInBounds_toArray, List.set_cons_zero, List.set_cons_succ])))
        (refine' nsettle_step (by rfl) (fun _ => by rfl) ?_ ?_; rotate_left; (focus (intro ρ w hS hF hP K hK; (simp only [Act.put, List.setIfInBounds_toArray, List.set_cons_zero, List.set_cons_succ] at hK); go_simp; (refine (gE _ _ _ _ _ _ _ _ y HYY.out.1 hS.1 (gX _ hS.1).1).mono ?_; rintro e w' ⟨rfl, hb'⟩; have hS' := keepS _ (hS.1.trans (Keeps.of_below hb' _)); have hE' := hb'); exact hK _ hS' hE')); (simp only [Act.put, List.setIfInBounds_toArray, List.set_cons_zero, List.set_cons_succ]))
        repeat (first | (refine nsettle_skip (by rfl) (fun _ => by rfl) ?_; (simp only [Act.put, List.setIfInBounds_toArray, List.set_cons_zero, List.set_cons_succ])) | (refine' nsettle_run (by rfl) (fun _ _ => Below.refl _ _) (fun _ => by rfl) ?_ ?_; rotate_left; (focus (intro ρ w hS hF hP; (try dsimp only at hS); go_split_ands; go_simp; try with_reducible rfl)); (simp only [Act.put, List.setIfInBounds_toArray, List.set_cons_zero, List.set_cons_succ])))
        (refine nsettle_mark (FAcc B w1 (RnT g mj.step vtj) g F (mj.step.acc c true lj) (.int .i64 (c : Int))) (by rfl) (by rfl) (by rfl) (fun _ => by rfl) ?_ ?_; (focus (intro ρ w hS hF hP K hK; (simp only [Act.put, List.setIfInBounds_toArray, List.set_cons_zero, List.set_cons_succ] at hK); go_simp; (refine (gA _ (hP (by rfl))).mono ?_; rintro e w' ⟨rfl, vt', h'⟩; exact hK _ _ ⟨rfl, vt', h'⟩ (keepS _ h'.kp)))); (simp only [Act.put, List.setIfInBounds_toArray, List.set_cons_zero, List.set_cons_succ]))
        repeat (first | (refine nsettle_skip (by rfl) (fun _ => by rfl) ?_; (simp only [Act.put, List.setIfInBounds_toArray, List.set_cons_zero, List.set_cons_succ])) | (refine' nsettle_run (by rfl) (fun _ _ => Below.refl _ _) (fun _ => by rfl) ?_ ?_; rotate_left; (focus (intro ρ w hS hF hP; (try dsimp only at hS); go_split_ands; go_simp; try with_reducible rfl)); (simp only [Act.put, List.setIfInBounds_toArray, List.set_cons_zero, List.set_cons_succ])))
        (refine' nsettle_step (by rfl) (fun _ => by rfl) ?_ ?_; rotate_left; (focus (intro ρ w hS hF hP K hK; (simp only [Act.put, List.setIfInBounds_toArray, List.set_cons_zero, List.set_cons_succ] at hK); go_simp; (refine (gE _ _ _ _ _ _ _ _ x HYY.out.2.2 hS.1 (gX _ hS.1).2).mono ?_; rintro e w' ⟨rfl, hb'⟩; have hS' := keepS _ (hS.1.trans (Keeps.of_below hb' _)); have hE' := hb'); exact hK _ hS' hE')); (simp only [Act.put, List.setIfInBounds_toArray, List.set_cons_zero, List.set_cons_succ]))
        repeat (first | (refine nsettle_skip (by rfl) (fun _ => by rfl) ?_; (simp only [Act.put, List.setIfInBounds_toArray, List.set_cons_zero, List.set_cons_succ])) | (refine' nsettle_run (by rfl) (fun _ _ => Below.refl _ _) (fun _ => by rfl) ?_ ?_; rotate_left; (focus (intro ρ w hS hF hP; (try dsimp only at hS); go_split_ands; go_simp; try with_reducible rfl)); (simp only [Act.put, List.setIfInBounds_toArray, List.set_cons_zero, List.set_cons_succ])))
        (refine nsettle_known (FAcc B w1 (RnT g mj.step vtj) g F (mj.step.acc c true lj) (.pointer (some ⟨g, c, none⟩))) (by rfl) (by rfl) (by rfl) (fun _ => by rfl)  ?_ ?_; (focus (intro ρ w hS hF hP K hK; (simp only [Act.put, List.setIfInBounds_toArray, List.set_cons_zero, List.set_cons_succ] at hK); go_simp; (obtain ⟨hv, vt', h'⟩ := hF.1 (by rfl); rw [hv] at hK ⊢; go_simp; exact hK _ _ ⟨rfl, vt', h'⟩ hS (Below.refl _ _)))); (simp only [Act.put, List.setIfInBounds_toArray, List.set_cons_zero, List.set_cons_succ]))
        refine nsettle_nil ?_
        intro ρ w4 hS hF
        obtain ⟨hv76, vt4, h4⟩ := hF 76 (FAcc B w1 (RnT g mj.step vtj) g F (mj.step.acc c true lj) (.pointer (some ⟨g, c, none⟩))) (by repeat (first | exact List.mem_cons_self | apply List.mem_cons_of_mem))
        obtain ⟨T1, v1, hX, f3, f4⟩ := HT.out
        have v4 := v1.step h4.kp h4.nw
        have T4 := T1.step h4
        have hB4 := h4.own.blk
        have hend : ∀ w5, Blk w5 g 96 ((Sr.rcells F (mj.step.acc c true lj) vt4).set c (.int .i64 x)) → w4.grownBy w5 (some g) → RnTo B W0 (RnT g mj vtj) w5 g F ((mj.step.acc c true lj).put c x) vt4 ∧ EnvAt w5 (RnT g ((mj.step.acc c true lj).put c x) vt4) (.slice VE zj.length ce) zj := fun w5 b5 g5 => by
          have h5 := h4.own.cells_to b5 g5
          rw [Sr.rcells_put f3.len c hc8] at h5
          exact ⟨T4.step h5, v4.step h5.kp h5.nw⟩
        have hcl8 : c < (Sr.rcells F (mj.step.acc c true lj) vt4).length := by unfold Sr.rcells; rw [List.length_append, ints_length, f3.len]; simp; omega
        have HE4 := Lib.hid hend
        clear hend hF hS hS1 keepS gE gX gA HT T1 v1 v4 T4 h4 f3
        dsimp only
        rw [hv76]
        generalize ρ 69 = v69
        clear hv76
        go_wp2_with (first | (refine wpl_set_blk hB4 c (.int .i64 x) (by kernel_rfl) hcl8 rfl rfl rfl rfl rfl rfl ?_; intro w5 hB5 hg5; obtain ⟨T5, v5⟩ := HE4.out w5 hB5 hg5; obtain ⟨c0, c1, c2, c3, c4, c5, c6, c7, c8, c9, c10, c11⟩ := hX.cells _ T5.kp; clear hB4 hB5 hg5 HE4 hcl8) | fail)
        clear c0 c1 c2 c3 c4 c5 c6 c7 c8 c9 c10 c11
        clear hc8 hc8i
        have HZ := Lib.hid (And.intro T5 (And.intro v5 f4))
        obtain ⟨c0, c1, c2, c3, c4, c5, c6, c7, c8, c9, c10, c11⟩ := hX.cells _ T5.kp
        obtain ⟨xa, xb, pb, pe⟩ := hX.read _ T5.kp
        have hlab := labels_any (.cons 3 nm.data.toList ea eb body els .nil) _ _ 1 1 _ (Nat.le_refl _) (one_pr 66 T5.own.base xa xb pb pe hd) (Nat.le_refl _) (by decide) (by rw [size_one]; have := HQ.out; omega)
        have hlo := T5.own.base
        unfold stcells xcells at hlab
        rw [labels_one] at hlab
        have hlb := St.lab1_le 3 (St.labels body) (St.labels els)
        have hlb1 := St.labels_le body
        have hlb2 := St.labels_le els
        have hlz : lj + (1 + St.labels body + St.labels els) ≤ 576460752303423488 := by have := HQ.out; omega
        have HL := Lib.hid (And.intro hlb (And.intro hlb1 (And.intro hlb2 hlz)))
        clear T5 v5 f4 xa xb pb pe hlb hlb1 hlb2 hlz hX
        try go_wp2_with fail
        refine hlab.mono ?_
        rintro e wl ⟨rfl, hbl⟩
        have hbl2 := below_next hbl (below_alloc (Below.refl _ _) _)
        have TE := ((HW.out.later hbA).step HZ.out.1).later hbl2
        have vE := HZ.out.2.1.later hbl2
        have HE := Lib.hid (And.intro TE vE)
        clear hlab hbl hbl2 TE vE hbA c0 c1 c2 c3 c4 c5 c6 c7 c8 c9 c10 c11
        go_wp2_with fail
        go_roundw
        case rel => exact ⟨k + 1, rest, _, lj + St.lab1 3 (St.labels body) (St.labels els), _, _, by omega, by go_num, by rw [i64_add _ _ (by have := HL.out; omega)], by rw [show n - (k + 1) = n - k - 1 by omega]; exact HQ.out.2.2.2.2.2, HE.out.1, HE.out.2, HZ.out.2.2, hrun, by have := HQ.out; omega, by have := HQ.out; first | omega | (simp only [List.length_append, List.length_singleton]; omega), by have := HQ.out; have := HL.out; omega⟩
        case measure => simp [intOf]; omega
      · have hrun : Sr.run rest (Ex.bs zj) (lj + St.labels body) (Sr.run body (Ex.bs zj) lj mj.step) = R := HRN.out
        have hon1 := Sr.run_on rest (Ex.bs zj) (lj + St.labels body) (Sr.run body (Ex.bs zj) lj mj.step)
        rw [hrun] at hon1
        have hon0 := Sr.run_on body (Ex.bs zj) lj mj.step
        have hmore : mj.steps + 1 ≤ R.steps := Nat.le_trans hon0.steps hon1.steps
        go_wp2_with fail
        generalize (wr.alloc (.cells #[.int .i64 4, .string nm, .int .i64 ak, .int .i64 an, .string sa, .slice aA al ac, .int .i64 bk, .int .i64 bn, .string sb, .slice bA bl bc, .slice D dl dc, .slice E el ec] 66)) = W0 at hbA hX T0 v0 ⊢
        rw [← hQQ.out]
        clear c0 c1 c2 c3 c4 c5 c6 c7 c8 c9 c10 c11
        by_cases hst : mj.steps = F
        · have hg := step_out B W0 g F mj vtj T0.own hfj.len hst
          have hend : ∀ w1, Below W0.heap.size W0 w1 → F < R.steps ∧ Keeps (RnT g m vt) w w1 := fun w1 hb1 => ⟨by have := hmore; omega, (HW.out.kp.trans (Keeps.of_below hbA _)).trans (Keeps.of_below hb1 _)⟩
          have HH := Lib.hid hend
          clear hend hX T0 v0 hbA hst hmore
          refine hg.mono ?_
          rintro e w1 ⟨rfl, hb1⟩
          obtain ⟨h1, h2⟩ := HH.out w1 hb1
          clear hg hb1
          go_wp2
          exact ⟨rfl, .inr ⟨h1, rfl, h2⟩⟩
        have hfs : Sr.Fit F mj.step := ⟨hfj.len, hfj.rg, by have := hfj.st; show mj.steps + 1 ≤ F; omega, by have := hfj.tr; show mj.trace.length ≤ mj.steps + 1; omega⟩
        refine (step_ok B W0 g F mj vtj T0.own hfj.len (by have := hfj.st; omega) hF).mono ?_
        rintro e w1 ⟨rfl, h1⟩
        have T1 := T0.step h1
        have v1 := v0.step T1.kp T1.nw
        clear h1 T0 v0 hst hmore
        obtain ⟨c0, c1, c2, c3, c4, c5, c6, c7, c8, c9, c10, c11⟩ := hX.cells _ T1.kp
        obtain ⟨xa, xb, pb, pe⟩ := hX.read _ T1.kp
        have hblk := ih body (by have := HQ.out; omega) w1 B dl dc g F D vtj _ mj.step zj lj pb hd1 hd2 T1.own hfs hF v1 (by have := HQ.out; omega) (by have := HQ.out; omega)
        have hrg1 := Sr.run_rng body (Ex.bs zj) lj mj.step hokp hrg hfj.rg
        clear xa xb pb pe
        go_wp2_with fail
        refine hblk.mono ?_
        rintro e w2 (⟨h1, rfl, vtw2, h2⟩ | ⟨h1, rfl, h2⟩)
        · have Tw2 := T1.step h2
          have vw2 := v1.step h2.kp h2.nw
          have f2 := hfs.on hon0 hrg1 h1
          clear hblk h2 T1 v1 hrg1
          try clear c0 c1 c2 c3 c4 c5 c6 c7 c8 c9 c10 c11
          have HZ := Lib.hid (And.intro Tw2 (And.intro vw2 f2))
          obtain ⟨c0, c1, c2, c3, c4, c5, c6, c7, c8, c9, c10, c11⟩ := hX.cells _ Tw2.kp
          obtain ⟨xa, xb, pb, pe⟩ := hX.read _ Tw2.kp
          have hlab := labels_any (.cons 4 nm.data.toList ea eb body els .nil) _ _ 1 1 _ (Nat.le_refl _) (one_pr 66 Tw2.own.base xa xb pb pe hd) (Nat.le_refl _) (by decide) (by rw [size_one]; have := HQ.out; omega)
          have hlo := Tw2.own.base
          unfold stcells xcells at hlab
          rw [labels_one] at hlab
          have hlb := St.lab1_le 4 (St.labels body) (St.labels els)
          have hlb1 := St.labels_le body
          have hlb2 := St.labels_le els
          have hlz : lj + (1 + St.labels body + St.labels els) ≤ 576460752303423488 := by have := HQ.out; omega
          have HL := Lib.hid (And.intro hlb (And.intro hlb1 (And.intro hlb2 hlz)))
          clear Tw2 vw2 f2 xa xb pb pe hlb hlb1 hlb2 hlz hX
          try go_wp2_with fail
          refine hlab.mono ?_
          rintro e wl ⟨rfl, hbl⟩
          have hbl2 := below_next hbl (below_alloc (Below.refl _ _) _)
          have TE := ((HW.out.later hbA).step HZ.out.1).later hbl2
          have vE := HZ.out.2.1.later hbl2
          have HE := Lib.hid (And.intro TE vE)
          clear hlab hbl hbl2 TE vE hbA c0 c1 c2 c3 c4 c5 c6 c7 c8 c9 c10 c11
          go_wp2_with fail
          go_roundw
          case rel => exact ⟨k + 1, rest, _, lj + St.lab1 4 (St.labels body) (St.labels els), _, _, by omega, by go_num, by rw [i64_add _ _ (by have := HL.out; omega)], by rw [show n - (k + 1) = n - k - 1 by omega]; exact HQ.out.2.2.2.2.2, HE.out.1, HE.out.2, HZ.out.2.2, hrun, by have := HQ.out; omega, by have := HQ.out; first | omega | (simp only [List.length_append, List.length_singleton]; omega), by have := HQ.out; have := HL.out; omega⟩
          case measure => simp [intOf]; omega
        · have hk2 : Keeps (RnT g m vt) w w2 := ((HW.out.later hbA).step T1).kp.step h2 (fun i hi ht => (((HW.out.later hbA).step T1).nw i ht).resolve_right (by omega))
          have hlt' : F < R.steps := by have := hon1.steps; omega
          clear hblk h2 T1 v1 hX hbA
          try clear c0 c1 c2 c3 c4 c5 c6 c7 c8 c9 c10 c11
          go_wp2
          exact ⟨rfl, .inr ⟨hlt', rfl, hk2⟩⟩
      · have hrun : Sr.run rest (Ex.bs zj) (lj + St.labels body) (Sr.run body (Ex.bs zj) lj mj.step) = R := HRN.out
        have hon1 := Sr.run_on rest (Ex.bs zj) (lj + St.labels body) (Sr.run body (Ex.bs zj) lj mj.step)
        rw [hrun] at hon1
        have hon0 := Sr.run_on body (Ex.bs zj) lj mj.step
        have hmore : mj.steps + 1 ≤ R.steps := Nat.le_trans hon0.steps hon1.steps
        go_wp2_with fail
        generalize (wr.alloc (.cells #[.int .i64 5, .string nm, .int .i64 ak, .int .i64 an, .string sa, .slice aA al ac, .int .i64 bk, .int .i64 bn, .string sb, .slice bA bl bc, .slice D dl dc, .slice E el ec] 66)) = W0 at hbA hX T0 v0 ⊢
        rw [← hQQ.out]
        clear c0 c1 c2 c3 c4 c5 c6 c7 c8 c9 c10 c11
        by_cases hst : mj.steps = F
        · have hg := step_out B W0 g F mj vtj T0.own hfj.len hst
          have hend : ∀ w1, Below W0.heap.size W0 w1 → F < R.steps ∧ Keeps (RnT g m vt) w w1 := fun w1 hb1 => ⟨by have := hmore; omega, (HW.out.kp.trans (Keeps.of_below hbA _)).trans (Keeps.of_below hb1 _)⟩
          have HH := Lib.hid hend
          clear hend hX T0 v0 hbA hst hmore
          refine hg.mono ?_
          rintro e w1 ⟨rfl, hb1⟩
          obtain ⟨h1, h2⟩ := HH.out w1 hb1
          clear hg hb1
          go_wp2
          exact ⟨rfl, .inr ⟨h1, rfl, h2⟩⟩
        have hfs : Sr.Fit F mj.step := ⟨hfj.len, hfj.rg, by have := hfj.st; show mj.steps + 1 ≤ F; omega, by have := hfj.tr; show mj.trace.length ≤ mj.steps + 1; omega⟩
        refine (step_ok B W0 g F mj vtj T0.own hfj.len (by have := hfj.st; omega) hF).mono ?_
        rintro e w1 ⟨rfl, h1⟩
        have T1 := T0.step h1
        have v1 := v0.step T1.kp T1.nw
        clear h1 T0 v0 hst hmore
        obtain ⟨c0, c1, c2, c3, c4, c5, c6, c7, c8, c9, c10, c11⟩ := hX.cells _ T1.kp
        obtain ⟨xa, xb, pb, pe⟩ := hX.read _ T1.kp
        have hblk := ih body (by have := HQ.out; omega) w1 B dl dc g F D vtj _ mj.step zj lj pb hd1 hd2 T1.own hfs hF v1 (by have := HQ.out; omega) (by have := HQ.out; omega)
        have hrg1 := Sr.run_rng body (Ex.bs zj) lj mj.step hokp hrg hfj.rg
        clear xa xb pb pe
        go_wp2_with fail
        refine hblk.mono ?_
        rintro e w2 (⟨h1, rfl, vtw2, h2⟩ | ⟨h1, rfl, h2⟩)
        · have Tw2 := T1.step h2
          have vw2 := v1.step h2.kp h2.nw
          have f2 := hfs.on hon0 hrg1 h1
          clear hblk h2 T1 v1 hrg1
          try clear c0 c1 c2 c3 c4 c5 c6 c7 c8 c9 c10 c11
          have HZ := Lib.hid (And.intro Tw2 (And.intro vw2 f2))
          obtain ⟨c0, c1, c2, c3, c4, c5, c6, c7, c8, c9, c10, c11⟩ := hX.cells _ Tw2.kp
          obtain ⟨xa, xb, pb, pe⟩ := hX.read _ Tw2.kp
          have hlab := labels_any (.cons 5 nm.data.toList ea eb body els .nil) _ _ 1 1 _ (Nat.le_refl _) (one_pr 66 Tw2.own.base xa xb pb pe hd) (Nat.le_refl _) (by decide) (by rw [size_one]; have := HQ.out; omega)
          have hlo := Tw2.own.base
          unfold stcells xcells at hlab
          rw [labels_one] at hlab
          have hlb := St.lab1_le 5 (St.labels body) (St.labels els)
          have hlb1 := St.labels_le body
          have hlb2 := St.labels_le els
          have hlz : lj + (1 + St.labels body + St.labels els) ≤ 576460752303423488 := by have := HQ.out; omega
          have HL := Lib.hid (And.intro hlb (And.intro hlb1 (And.intro hlb2 hlz)))
          clear Tw2 vw2 f2 xa xb pb pe hlb hlb1 hlb2 hlz hX
          try go_wp2_with fail
          refine hlab.mono ?_
          rintro e wl ⟨rfl, hbl⟩
          have hbl2 := below_next hbl (below_alloc (Below.refl _ _) _)
          have TE := ((HW.out.later hbA).step HZ.out.1).later hbl2
          have vE := HZ.out.2.1.later hbl2
          have HE := Lib.hid (And.intro TE vE)
          clear hlab hbl hbl2 TE vE hbA c0 c1 c2 c3 c4 c5 c6 c7 c8 c9 c10 c11
          go_wp2_with fail
          go_roundw
          case rel => exact ⟨k + 1, rest, _, lj + St.lab1 5 (St.labels body) (St.labels els), _, _, by omega, by go_num, by rw [i64_add _ _ (by have := HL.out; omega)], by rw [show n - (k + 1) = n - k - 1 by omega]; exact HQ.out.2.2.2.2.2, HE.out.1, HE.out.2, HZ.out.2.2, hrun, by have := HQ.out; omega, by have := HQ.out; first | omega | (simp only [List.length_append, List.length_singleton]; omega), by have := HQ.out; have := HL.out; omega⟩
          case measure => simp [intOf]; omega
        · have hk2 : Keeps (RnT g m vt) w w2 := ((HW.out.later hbA).step T1).kp.step h2 (fun i hi ht => (((HW.out.later hbA).step T1).nw i ht).resolve_right (by omega))
          have hlt' : F < R.steps := by have := hon1.steps; omega
          clear hblk h2 T1 v1 hX hbA
          try clear c0 c1 c2 c3 c4 c5 c6 c7 c8 c9 c10 c11
          go_wp2
          exact ⟨rfl, .inr ⟨hlt', rfl, hk2⟩⟩
      · obtain ⟨y, hy⟩ : ∃ y, y = Ex.evl (Ex.bs zj) ea := ⟨_, rfl⟩
        have hrun0 : Sr.run rest (Ex.bs zj) (lj + (St.labels body + St.labels els)) (if y ≠ 0 then Sr.run body (Ex.bs zj) lj mj.step else Sr.run els (Ex.bs zj) (lj + St.labels body) mj.step) = R := by rw [hy]; exact HRN.out
        have hbl1 := St.labels_le body
        have HYY := Lib.hid (And.intro hy hbl1)
        clear hy hbl1
        by_cases hz : y = 0
        · rw [if_neg (by simpa using hz)] at hrun0
          have hrun := hrun0
          clear hrun0
          have hon1 := Sr.run_on rest (Ex.bs zj) (lj + (St.labels body + St.labels els)) (Sr.run els (Ex.bs zj) (lj + St.labels body) mj.step)
          rw [hrun] at hon1
          have hon0 := Sr.run_on els (Ex.bs zj) (lj + St.labels body) mj.step
          have hmore : mj.steps + 1 ≤ R.steps := Nat.le_trans hon0.steps hon1.steps
          have hb0 : (y != 0) = false := by simpa using hz
          go_wp2_with fail
          generalize (wr.alloc (.cells #[.int .i64 6, .string nm, .int .i64 ak, .int .i64 an, .string sa, .slice aA al ac, .int .i64 bk, .int .i64 bn, .string sb, .slice bA bl bc, .slice D dl dc, .slice E el ec] 66)) = W0 at hbA hX T0 v0 ⊢
          rw [← hQQ.out]
          clear c0 c1 c2 c3 c4 c5 c6 c7 c8 c9 c10 c11
          by_cases hst : mj.steps = F
          · have hg := step_out B W0 g F mj vtj T0.own hfj.len hst
            have hend : ∀ w1, Below W0.heap.size W0 w1 → F < R.steps ∧ Keeps (RnT g m vt) w w1 := fun w1 hb1 => ⟨by have := hmore; omega, (HW.out.kp.trans (Keeps.of_below hbA _)).trans (Keeps.of_below hb1 _)⟩
            have HH := Lib.hid hend
            clear hend hX T0 v0 hbA hst hmore
            refine hg.mono ?_
            rintro e w1 ⟨rfl, hb1⟩
            obtain ⟨h1, h2⟩ := HH.out w1 hb1
            clear hg hb1
            go_wp2
            exact ⟨rfl, .inr ⟨h1, rfl, h2⟩⟩
          have hfs : Sr.Fit F mj.step := ⟨hfj.len, hfj.rg, by have := hfj.st; show mj.steps + 1 ≤ F; omega, by have := hfj.tr; show mj.trace.length ≤ mj.steps + 1; omega⟩
          refine (step_ok B W0 g F mj vtj T0.own hfj.len (by have := hfj.st; omega) hF).mono ?_
          rintro e w1 ⟨rfl, h1⟩
          have T1 := T0.step h1
          have v1 := v0.step T1.kp T1.nw
          clear h1 T0 v0 hst hmore
          obtain ⟨c0, c1, c2, c3, c4, c5, c6, c7, c8, c9, c10, c11⟩ := hX.cells _ T1.kp
          obtain ⟨xa, xb, pb, pe⟩ := hX.read _ T1.kp
          have gE : Calls Try.prog 47 #[.agg #[.int .i64 ak, .int .i64 an, .string sa, .slice aA al ac], .slice VE zj.length ce] w1 fun r w'' => r = .returned (.int .i64 y) ∧ Below w1.heap.size w1 w'' := by
            rw [HYY.out.1]
            exact eval_ok (.slice VE zj.length ce) zj (by have := HQ.out; omega) ea w1 _ (xa.up T1.own.base) v1.sl
          clear c0 c1 xa xb pb pe hz
          go_wp2_with fail
          refine gE.mono ?_
          rintro e w2 ⟨rfl, hb2⟩
          have T2 := T1.later hb2
          have v2 := v1.later hb2
          clear gE T1 v1 c2 c3 c4 c5 c6 c7 c8 c9 c10 c11 hb2
          have keepS : ∀ w', Below w2.heap.size w2 w' → (Below w2.heap.size w2 w' ∧ w'.cell? ⟨Q, 10, none⟩ = some (.slice D dl dc) ∧ w'.cell? ⟨Q, 11, none⟩ = some (.slice E el ec)) := fun w' hb => by
            obtain ⟨c0, c1, c2, c3, c4, c5, c6, c7, c8, c9, c10, c11⟩ := hX.cells w' (T2.later hb).kp
            exact ⟨hb, c10, c11⟩
          have gL : ∀ w', Below w2.heap.size w2 w' → Calls Try.prog 49 #[.slice D dl dc] w' fun e w'' => e = .returned (.int .i64 (St.labels body : Nat)) ∧ Below w'.heap.size w' w'' := fun w' hb =>
            labels_any body w' B dl dc D (T2.later hb).own.base (hX.read w' (T2.later hb).kp).2.2.1 hd1 hd2 (by have := HQ.out; omega)
          have hS0 := keepS _ (below_drew (Below.refl _ _))
          have HT := Lib.hid (And.intro T2 (And.intro v2 hX))
          clear T2 v2 hX
          go_wp2_with fail
          refine wp_walk_last (by kernel_rfl) (by kernel_rfl) (fun w w' => Below w.heap.size w w') (fun w' => (Below w2.heap.size w2 w' ∧ w'.cell? ⟨Q, 10, none⟩ = some (.slice D dl dc) ∧ w'.cell? ⟨Q, 11, none⟩ = some (.slice E el ec))) hS0 ?_
          simp only [List.length_cons, List.length_nil, Nat.reduceAdd, Nat.reduceSub, List.take_succ_cons, List.take_zero, List.drop_succ_cons, List.drop_zero]
          repeat (first | (refine settle_skip (fun _ => by rfl) ?_; (simp only [Act.put, List.setIfInBounds_toArray, List.set_cons_zero, List.set_cons_succ])) | (refine' settle_run (fun _ _ => Below.refl _ _) (fun _ => by rfl) ?_ ?_; rotate_left; (focus (intro ρ w hS hF; (try dsimp only at hS); go_split_ands; go_simp; try with_reducible rfl)); (simp only [Act.put, List.setIfInBounds_toArray, List.set_cons_zero, List.set_cons_succ])))
          (refine' settle_step (fun _ => by rfl) ?_ ?_; rotate_left; (focus (intro ρ w hS hF K hK; (simp only [Act.put, List.setIfInBounds_toArray, List.set_cons_zero, List.set_cons_succ] at hK); go_simp; (refine (gL _ hS.1).mono ?_; rintro e w' ⟨rfl, hb'⟩; have hS' := keepS _ (below_next hb' hS.1); have hE' := hb'); exact hK _ hS' hE')); (simp only [Act.put, List.setIfInBounds_toArray, List.set_cons_zero, List.set_cons_succ]))
          repeat (first | (refine settle_skip (fun _ => by rfl) ?_; (simp only [Act.put, List.setIfInBounds_toArray, List.set_cons_zero, List.set_cons_succ])) | (refine' settle_run (fun _ _ => Below.refl _ _) (fun _ => by rfl) ?_ ?_; rotate_left; (focus (intro ρ w hS hF; (try dsimp only at hS); go_split_ands; go_simp; try with_reducible rfl)); (simp only [Act.put, List.setIfInBounds_toArray, List.set_cons_zero, List.set_cons_succ])))
          refine settle_nil ?_
          intro ρ w4 hS hF2
          have hb4 := hS.1
          obtain ⟨T2, v2, hX⟩ := HT.out
          have T4 := T2.later hb4
          have v4 := v2.later hb4
          have pe := (hX.read w4 T4.kp).2.2.2
          have hblk := ih els (by have := HQ.out; omega) w4 B el ec g F E vtj _ mj.step zj (lj + St.labels body) pe he1 he2 T4.own hfs hF v4 (by have := HQ.out; omega) (by have := HQ.out; have := HYY.out; omega)
          have hrg1 := Sr.run_rng els (Ex.bs zj) (lj + St.labels body) mj.step hoke hrg hfj.rg
          have hwr := i64_add lj (St.labels body) (by have := HQ.out; have := HYY.out; omega)
          have hwk := i64_addk lj (St.labels body) (by have := HQ.out; have := HYY.out; omega)
          clear hF2 hS hS0 keepS gL HT T2 v2 hb4 pe
          dsimp only
          try rw [hwr]
          try rw [hwk]
          clear hwr hwk
          go_wp2_with fail
          refine hblk.mono ?_
          rintro e w5 (⟨h1, rfl, vtw5, h2⟩ | ⟨h1, rfl, h2⟩)
          · have Tw5 := T4.step h2
            have vw5 := v4.step h2.kp h2.nw
            have f2 := hfs.on hon0 hrg1 h1
            clear hblk h2 T4 v4 hrg1
            try clear c0 c1 c2 c3 c4 c5 c6 c7 c8 c9 c10 c11
            have HZ := Lib.hid (And.intro Tw5 (And.intro vw5 f2))
            obtain ⟨c0, c1, c2, c3, c4, c5, c6, c7, c8, c9, c10, c11⟩ := hX.cells _ Tw5.kp
            obtain ⟨xa, xb, pb, pe⟩ := hX.read _ Tw5.kp
            have hlab := labels_any (.cons 6 nm.data.toList ea eb body els .nil) _ _ 1 1 _ (Nat.le_refl _) (one_pr 66 Tw5.own.base xa xb pb pe hd) (Nat.le_refl _) (by decide) (by rw [size_one]; have := HQ.out; omega)
            have hlo := Tw5.own.base
            unfold stcells xcells at hlab
            rw [labels_one] at hlab
            have hlb := St.lab1_le 6 (St.labels body) (St.labels els)
            have hlb1 := St.labels_le body
            have hlb2 := St.labels_le els
            have hlz : lj + (1 + St.labels body + St.labels els) ≤ 576460752303423488 := by have := HQ.out; omega
            have HL := Lib.hid (And.intro hlb (And.intro hlb1 (And.intro hlb2 hlz)))
            clear Tw5 vw5 f2 xa xb pb pe hlb hlb1 hlb2 hlz hX
            try go_wp2_with fail
            refine hlab.mono ?_
            rintro e wl ⟨rfl, hbl⟩
            have hbl2 := below_next hbl (below_alloc (Below.refl _ _) _)
            have TE := ((HW.out.later hbA).step HZ.out.1).later hbl2
            have vE := HZ.out.2.1.later hbl2
            have HE := Lib.hid (And.intro TE vE)
            clear hlab hbl hbl2 TE vE hbA c0 c1 c2 c3 c4 c5 c6 c7 c8 c9 c10 c11
            go_wp2_with fail
            go_roundw
            case rel => exact ⟨k + 1, rest, _, lj + St.lab1 6 (St.labels body) (St.labels els), _, _, by omega, by go_num, by rw [i64_add _ _ (by have := HL.out; omega)], by rw [show n - (k + 1) = n - k - 1 by omega]; exact HQ.out.2.2.2.2.2, HE.out.1, HE.out.2, HZ.out.2.2, hrun, by have := HQ.out; omega, by have := HQ.out; first | omega | (simp only [List.length_append, List.length_singleton]; omega), by have := HQ.out; have := HL.out; omega⟩
            case measure => simp [intOf]; omega
          · have hk2 : Keeps (RnT g m vt) w w5 := ((HW.out.later hbA).step T4).kp.step h2 (fun i hi ht => (((HW.out.later hbA).step T4).nw i ht).resolve_right (by omega))
            have hlt' : F < R.steps := by have := hon1.steps; omega
            clear hblk h2 T4 v4 hX hbA
            try clear c0 c1 c2 c3 c4 c5 c6 c7 c8 c9 c10 c11
            go_wp2
            exact ⟨rfl, .inr ⟨hlt', rfl, hk2⟩⟩
        · rw [if_pos hz] at hrun0
          have hrun := hrun0
          clear hrun0
          have hon1 := Sr.run_on rest (Ex.bs zj) (lj + (St.labels body + St.labels els)) (Sr.run body (Ex.bs zj) lj mj.step)
          rw [hrun] at hon1
          have hon0 := Sr.run_on body (Ex.bs zj) lj mj.step
          have hmore : mj.steps + 1 ≤ R.steps := Nat.le_trans hon0.steps hon1.steps
          have hb0 : (y != 0) = true := by simpa using hz
          go_wp2_with fail
          generalize (wr.alloc (.cells #[.int .i64 6, .string nm, .int .i64 ak, .int .i64 an, .string sa, .slice aA al ac, .int .i64 bk, .int .i64 bn, .string sb, .slice bA bl bc, .slice D dl dc, .slice E el ec] 66)) = W0 at hbA hX T0 v0 ⊢
          rw [← hQQ.out]
          clear c0 c1 c2 c3 c4 c5 c6 c7 c8 c9 c10 c11
          by_cases hst : mj.steps = F
          · have hg := step_out B W0 g F mj vtj T0.own hfj.len hst
            have hend : ∀ w1, Below W0.heap.size W0 w1 → F < R.steps ∧ Keeps (RnT g m vt) w w1 := fun w1 hb1 => ⟨by have := hmore; omega, (HW.out.kp.trans (Keeps.of_below hbA _)).trans (Keeps.of_below hb1 _)⟩
            have HH := Lib.hid hend
            clear hend hX T0 v0 hbA hst hmore
            refine hg.mono ?_
            rintro e w1 ⟨rfl, hb1⟩
            obtain ⟨h1, h2⟩ := HH.out w1 hb1
            clear hg hb1
            go_wp2
            exact ⟨rfl, .inr ⟨h1, rfl, h2⟩⟩
          have hfs : Sr.Fit F mj.step := ⟨hfj.len, hfj.rg, by have := hfj.st; show mj.steps + 1 ≤ F; omega, by have := hfj.tr; show mj.trace.length ≤ mj.steps + 1; omega⟩
          refine (step_ok B W0 g F mj vtj T0.own hfj.len (by have := hfj.st; omega) hF).mono ?_
          rintro e w1 ⟨rfl, h1⟩
          have T1 := T0.step h1
          have v1 := v0.step T1.kp T1.nw
          clear h1 T0 v0 hst hmore
          obtain ⟨c0, c1, c2, c3, c4, c5, c6, c7, c8, c9, c10, c11⟩ := hX.cells _ T1.kp
          obtain ⟨xa, xb, pb, pe⟩ := hX.read _ T1.kp
          have gE : Calls Try.prog 47 #[.agg #[.int .i64 ak, .int .i64 an, .string sa, .slice aA al ac], .slice VE zj.length ce] w1 fun r w'' => r = .returned (.int .i64 y) ∧ Below w1.heap.size w1 w'' := by
            rw [HYY.out.1]
            exact eval_ok (.slice VE zj.length ce) zj (by have := HQ.out; omega) ea w1 _ (xa.up T1.own.base) v1.sl
          clear c0 c1 xa xb pb pe hz
          go_wp2_with fail
          refine gE.mono ?_
          rintro e w2 ⟨rfl, hb2⟩
          have T2 := T1.later hb2
          have v2 := v1.later hb2
          clear gE T1 v1 c2 c3 c4 c5 c6 c7 c8 c9 c10 c11 hb2
          obtain ⟨c0, c1, c2, c3, c4, c5, c6, c7, c8, c9, c10, c11⟩ := hX.cells _ T2.kp
          obtain ⟨xa, xb, pb, pe⟩ := hX.read _ T2.kp
          have hblk := ih body (by have := HQ.out; omega) w2 B dl dc g F D vtj _ mj.step zj lj pb hd1 hd2 T2.own hfs hF v2 (by have := HQ.out; omega) (by have := HQ.out; omega)
          have hrg1 := Sr.run_rng body (Ex.bs zj) lj mj.step hokp hrg hfj.rg
          clear xa xb pb pe
          go_wp2_with fail
          refine hblk.mono ?_
          rintro e w5 (⟨h1, rfl, vtw5, h2⟩ | ⟨h1, rfl, h2⟩)
          · have Tw5 := T2.step h2
            have vw5 := v2.step h2.kp h2.nw
            have f2 := hfs.on hon0 hrg1 h1
            clear hblk h2 T2 v2 hrg1
            try clear c0 c1 c2 c3 c4 c5 c6 c7 c8 c9 c10 c11
            have HZ := Lib.hid (And.intro Tw5 (And.intro vw5 f2))
            obtain ⟨c0, c1, c2, c3, c4, c5, c6, c7, c8, c9, c10, c11⟩ := hX.cells _ Tw5.kp
            obtain ⟨xa, xb, pb, pe⟩ := hX.read _ Tw5.kp
            have hlab := labels_any (.cons 6 nm.data.toList ea eb body els .nil) _ _ 1 1 _ (Nat.le_refl _) (one_pr 66 Tw5.own.base xa xb pb pe hd) (Nat.le_refl _) (by decide) (by rw [size_one]; have := HQ.out; omega)
            have hlo := Tw5.own.base
            unfold stcells xcells at hlab
            rw [labels_one] at hlab
            have hlb := St.lab1_le 6 (St.labels body) (St.labels els)
            have hlb1 := St.labels_le body
            have hlb2 := St.labels_le els
            have hlz : lj + (1 + St.labels body + St.labels els) ≤ 576460752303423488 := by have := HQ.out; omega
            have HL := Lib.hid (And.intro hlb (And.intro hlb1 (And.intro hlb2 hlz)))
            clear Tw5 vw5 f2 xa xb pb pe hlb hlb1 hlb2 hlz hX
            try go_wp2_with fail
            refine hlab.mono ?_
            rintro e wl ⟨rfl, hbl⟩
            have hbl2 := below_next hbl (below_alloc (Below.refl _ _) _)
            have TE := ((HW.out.later hbA).step HZ.out.1).later hbl2
            have vE := HZ.out.2.1.later hbl2
            have HE := Lib.hid (And.intro TE vE)
            clear hlab hbl hbl2 TE vE hbA c0 c1 c2 c3 c4 c5 c6 c7 c8 c9 c10 c11
            go_wp2_with fail
            go_roundw
            case rel => exact ⟨k + 1, rest, _, lj + St.lab1 6 (St.labels body) (St.labels els), _, _, by omega, by go_num, by rw [i64_add _ _ (by have := HL.out; omega)], by rw [show n - (k + 1) = n - k - 1 by omega]; exact HQ.out.2.2.2.2.2, HE.out.1, HE.out.2, HZ.out.2.2, hrun, by have := HQ.out; omega, by have := HQ.out; first | omega | (simp only [List.length_append, List.length_singleton]; omega), by have := HQ.out; have := HL.out; omega⟩
            case measure => simp [intOf]; omega
          · have hk2 : Keeps (RnT g m vt) w w5 := ((HW.out.later hbA).step T2).kp.step h2 (fun i hi ht => (((HW.out.later hbA).step T2).nw i ht).resolve_right (by omega))
            have hlt' : F < R.steps := by have := hon1.steps; omega
            clear hblk h2 T2 v2 hX hbA
            try clear c0 c1 c2 c3 c4 c5 c6 c7 c8 c9 c10 c11
            go_wp2
            exact ⟨rfl, .inr ⟨hlt', rfl, hk2⟩⟩
      · have hrun : Sr.run rest (Ex.bs zj) (lj + St.labels body) (Sr.iter (Ex.evl (Ex.bs zj) eb - Ex.evl (Ex.bs zj) ea).toNat (Ex.evl (Ex.bs zj) ea) (fun i m => Sr.run body (Ex.bs zj ++ [(nm.data.toList, i)]) lj m.step) mj.step) = R := HRN.out
        have hon0 : Sr.On mj.step (Sr.iter (Ex.evl (Ex.bs zj) eb - Ex.evl (Ex.bs zj) ea).toNat (Ex.evl (Ex.bs zj) ea) (fun i m => Sr.run body (Ex.bs zj ++ [(nm.data.toList, i)]) lj m.step) mj.step) := Sr.On.iter (fun i m => (Sr.On.step m).trans (Sr.run_on _ _ _ _)) _ _ _
        have hon1 := Sr.run_on rest (Ex.bs zj) (lj + St.labels body) (Sr.iter (Ex.evl (Ex.bs zj) eb - Ex.evl (Ex.bs zj) ea).toNat (Ex.evl (Ex.bs zj) ea) (fun i m => Sr.run body (Ex.bs zj ++ [(nm.data.toList, i)]) lj m.step) mj.step)
        rw [hrun] at hon1
        have hmore : mj.steps + 1 ≤ R.steps := Nat.le_trans hon0.steps hon1.steps
        go_wp2_with fail
        generalize (wr.alloc (.cells #[.int .i64 7, .string nm, .int .i64 ak, .int .i64 an, .string sa, .slice aA al ac, .int .i64 bk, .int .i64 bn, .string sb, .slice bA bl bc, .slice D dl dc, .slice E el ec] 66)) = W0 at hbA hX T0 v0 ⊢
        rw [← hQQ.out]
        clear c0 c1 c2 c3 c4 c5 c6 c7 c8 c9 c10 c11
        by_cases hst : mj.steps = F
        · have hg := step_out B W0 g F mj vtj T0.own hfj.len hst
          have hend : ∀ w1, Below W0.heap.size W0 w1 → F < R.steps ∧ Keeps (RnT g m vt) w w1 := fun w1 hb1 => ⟨by have := hmore; omega, (HW.out.kp.trans (Keeps.of_below hbA _)).trans (Keeps.of_below hb1 _)⟩
          have HH := Lib.hid hend
          clear hend hX T0 v0 hbA hst hmore
          refine hg.mono ?_
          rintro e w1 ⟨rfl, hb1⟩
          obtain ⟨h1, h2⟩ := HH.out w1 hb1
          clear hg hb1
          go_wp2
          exact ⟨rfl, .inr ⟨h1, rfl, h2⟩⟩
        have hfs : Sr.Fit F mj.step := ⟨hfj.len, hfj.rg, by have := hfj.st; show mj.steps + 1 ≤ F; omega, by have := hfj.tr; show mj.trace.length ≤ mj.steps + 1; omega⟩
        refine (step_ok B W0 g F mj vtj T0.own hfj.len (by have := hfj.st; omega) hF).mono ?_
        rintro e w1 ⟨rfl, h1⟩
        have T1 := T0.step h1
        have v1 := v0.step T1.kp T1.nw
        clear h1 T0 v0 hst hmore
        obtain ⟨c0, c1, c2, c3, c4, c5, c6, c7, c8, c9, c10, c11⟩ := hX.cells _ T1.kp
        obtain ⟨xa, xb, pb, pe⟩ := hX.read _ T1.kp
        have hblk := loop_any body (ih body (by have := HQ.out; omega)) w1 B g F vtj _ mj.step zj lj 7 nm ak an sa aA al ac bk bn sb bA bl bc D dl dc E el ec ea eb els xa xb pb pe hd1 hd2 T1.own hfs hF v1 (by have := HQ.out; omega) (by have := HQ.out; omega)
        unfold stcells xcells at hblk
        simp only [List.cons_append, List.nil_append] at hblk
        have hrg1 : ∀ x ∈ (Sr.iter (Ex.evl (Ex.bs zj) eb - Ex.evl (Ex.bs zj) ea).toNat (Ex.evl (Ex.bs zj) ea) (fun i m => Sr.run body (Ex.bs zj ++ [(nm.data.toList, i)]) lj m.step) mj.step).heap, Ex.rng x := by
          have hra := Ex.evl_rng _ hrg _ hoka
          have hrb := Ex.evl_rng _ hrg _ hokb
          by_cases hn : Ex.evl (Ex.bs zj) ea ≤ Ex.evl (Ex.bs zj) eb
          · exact Sr.iter_rng (fun i m hi h => Sr.run_rng body (Ex.bs zj ++ [(nm.data.toList, i)]) lj m.step hokp (Sr.env_snoc hrg _ hi) h) (Ex.evl (Ex.bs zj) eb - Ex.evl (Ex.bs zj) ea).toNat _ _ hra (by unfold Ex.rng at *; omega) hfj.rg
          · rw [show (Ex.evl (Ex.bs zj) eb - Ex.evl (Ex.bs zj) ea).toNat = 0 by omega]
            exact hfj.rg
        generalize Sr.iter (Ex.evl (Ex.bs zj) eb - Ex.evl (Ex.bs zj) ea).toNat (Ex.evl (Ex.bs zj) ea) (fun i m => Sr.run body (Ex.bs zj ++ [(nm.data.toList, i)]) lj m.step) mj.step = MI at hrun hon0 hon1 hblk hrg1
        clear xa xb pb pe
        go_wp2_with fail
        refine hblk.mono ?_
        rintro e w2 (⟨h1, rfl, vtw2, h2⟩ | ⟨h1, rfl, h2⟩)
        · have Tw2 := T1.step h2
          have vw2 := v1.step h2.kp h2.nw
          have f2 := hfs.on hon0 hrg1 h1
          clear hblk h2 T1 v1 hrg1
          try clear c0 c1 c2 c3 c4 c5 c6 c7 c8 c9 c10 c11
          have HZ := Lib.hid (And.intro Tw2 (And.intro vw2 f2))
          obtain ⟨c0, c1, c2, c3, c4, c5, c6, c7, c8, c9, c10, c11⟩ := hX.cells _ Tw2.kp
          obtain ⟨xa, xb, pb, pe⟩ := hX.read _ Tw2.kp
          have hlab := labels_any (.cons 7 nm.data.toList ea eb body els .nil) _ _ 1 1 _ (Nat.le_refl _) (one_pr 66 Tw2.own.base xa xb pb pe hd) (Nat.le_refl _) (by decide) (by rw [size_one]; have := HQ.out; omega)
          have hlo := Tw2.own.base
          unfold stcells xcells at hlab
          rw [labels_one] at hlab
          have hlb := St.lab1_le 7 (St.labels body) (St.labels els)
          have hlb1 := St.labels_le body
          have hlb2 := St.labels_le els
          have hlz : lj + (1 + St.labels body + St.labels els) ≤ 576460752303423488 := by have := HQ.out; omega
          have HL := Lib.hid (And.intro hlb (And.intro hlb1 (And.intro hlb2 hlz)))
          clear Tw2 vw2 f2 xa xb pb pe hlb hlb1 hlb2 hlz hX
          try go_wp2_with fail
          refine hlab.mono ?_
          rintro e wl ⟨rfl, hbl⟩
          have hbl2 := below_next hbl (below_alloc (Below.refl _ _) _)
          have TE := ((HW.out.later hbA).step HZ.out.1).later hbl2
          have vE := HZ.out.2.1.later hbl2
          have HE := Lib.hid (And.intro TE vE)
          clear hlab hbl hbl2 TE vE hbA c0 c1 c2 c3 c4 c5 c6 c7 c8 c9 c10 c11
          go_wp2_with fail
          go_roundw
          case rel => exact ⟨k + 1, rest, _, lj + St.lab1 7 (St.labels body) (St.labels els), _, _, by omega, by go_num, by rw [i64_add _ _ (by have := HL.out; omega)], by rw [show n - (k + 1) = n - k - 1 by omega]; exact HQ.out.2.2.2.2.2, HE.out.1, HE.out.2, HZ.out.2.2, hrun, by have := HQ.out; omega, by have := HQ.out; first | omega | (simp only [List.length_append, List.length_singleton]; omega), by have := HQ.out; have := HL.out; omega⟩
          case measure => simp [intOf]; omega
        · have hk2 : Keeps (RnT g m vt) w w2 := ((HW.out.later hbA).step T1).kp.step h2 (fun i hi ht => (((HW.out.later hbA).step T1).nw i ht).resolve_right (by omega))
          have hlt' : F < R.steps := by have := hon1.steps; omega
          clear hblk h2 T1 v1 hX hbA
          try clear c0 c1 c2 c3 c4 c5 c6 c7 c8 c9 c10 c11
          go_wp2
          exact ⟨rfl, .inr ⟨hlt', rfl, hk2⟩⟩
      · have K := And.intro k1 (And.intro k2 (And.intro k3 (And.intro k4 (And.intro k5 (And.intro k6 k7)))))
        have hK : kd ≠ 1 ∧ kd ≠ 2 ∧ kd ≠ 3 ∧ ¬ (kd = 4 ∨ kd = 5) ∧ kd ≠ 6 ∧ kd ≠ 7 := by simp at k1 k2 k3 k4 k5 k6 k7; omega
        have hl0 : St.lab1 kd (St.labels body) (St.labels els) = 0 := by unfold St.lab1; rw [if_neg (by omega), if_neg (by omega), if_neg hK.2.2.2.2.1]
        have hrun : Sr.run rest (Ex.bs zj) (lj + St.lab1 kd (St.labels body) (St.labels els)) mj = R := by
          have h := HRN.out
          rw [Sr.run, if_neg hK.1, if_neg hK.2.1, if_neg hK.2.2.1, if_neg hK.2.2.2.1, if_neg hK.2.2.2.2.1, if_neg hK.2.2.2.2.2] at h
          rw [hl0]
          exact h
        have HKK := Lib.hid (And.intro hK hl0)
        have hsz : (wr.alloc (.cells #[.int .i64 kd, .string nm, .int .i64 ak, .int .i64 an, .string sa, .slice aA al ac, .int .i64 bk, .int .i64 bn, .string sb, .slice bA bl bc, .slice D dl dc, .slice E el ec] 66)).heap.size = wr.heap.size + 1 := by simp
        clear K hK hl0
        go_wp2_with fail
        generalize (wr.alloc (.cells #[.int .i64 kd, .string nm, .int .i64 ak, .int .i64 an, .string sa, .slice aA al ac, .int .i64 bk, .int .i64 bn, .string sb, .slice bA bl bc, .slice D dl dc, .slice E el ec] 66)) = W0 at hbA hX T0 v0 hsz ⊢
        rw [← hsz, ← hQQ.out]
        clear hsz
        clear c0 c1 c2 c3 c4 c5 c6 c7 c8 c9 c10 c11 k1 k2 k3 k4 k5 k6 k7
        have HZ := Lib.hid (And.intro T0 (And.intro v0 hfj))
        obtain ⟨c0, c1, c2, c3, c4, c5, c6, c7, c8, c9, c10, c11⟩ := hX.cells _ T0.kp
        obtain ⟨xa, xb, pb, pe⟩ := hX.read _ T0.kp
        have hlab := labels_any (.cons kd nm.data.toList ea eb body els .nil) _ _ 1 1 _ (Nat.le_refl _) (one_pr 66 T0.own.base xa xb pb pe hd) (Nat.le_refl _) (by decide) (by rw [size_one]; have := HQ.out; omega)
        have hlo := T0.own.base
        unfold stcells xcells at hlab
        rw [labels_one] at hlab
        have hlb := St.lab1_le kd (St.labels body) (St.labels els)
        have hlb1 := St.labels_le body
        have hlb2 := St.labels_le els
        have hlz : lj + (1 + St.labels body + St.labels els) ≤ 576460752303423488 := by have := HQ.out; omega
        have HL := Lib.hid (And.intro hlb (And.intro hlb1 (And.intro hlb2 hlz)))
        clear T0 v0 hfj xa xb pb pe hlb hlb1 hlb2 hlz hX
        try go_wp2_with fail
        refine hlab.mono ?_
        rintro e wl ⟨rfl, hbl⟩
        have hbl2 := below_next hbl (below_alloc (Below.refl _ _) _)
        have TE := ((HW.out.later hbA).step HZ.out.1).later hbl2
        have vE := HZ.out.2.1.later hbl2
        have HE := Lib.hid (And.intro TE vE)
        clear hlab hbl hbl2 TE vE hbA c0 c1 c2 c3 c4 c5 c6 c7 c8 c9 c10 c11
        go_wp2_with fail
        go_roundw
        case rel => exact ⟨k + 1, rest, _, lj + St.lab1 kd (St.labels body) (St.labels els), _, _, by omega, by go_num, by rw [i64_add _ _ (by have := HL.out; omega)], by rw [show n - (k + 1) = n - k - 1 by omega]; exact HQ.out.2.2.2.2.2, HE.out.1, HE.out.2, HZ.out.2.2, hrun, by have := HQ.out; omega, by have := HQ.out; first | omega | (simp only [List.length_append, List.length_singleton]; omega), by have := HQ.out; have := HL.out; omega⟩
        case measure => simp [intOf]; omega
    · obtain rfl : k = n := by omega
      rw [Nat.sub_self] at hq
      have hq' := hq.zero
      subst hq'
      have HY := Lib.hid (And.intro hW (And.intro hfj hrun))
      clear hW hfj hrun hq hq0 hvj
      go_wp2_with fail
      go_end0
      have hm : mj = R := HY.out.2.2
      rw [← hm]
      exact .inl ⟨HY.out.2.1.st, rfl, vtj, HY.out.1⟩
theorem block_any (p : St.P) : BlockOK p := by
  suffices h : ∀ n, ∀ q : St.P, q.size ≤ n → BlockOK q from h _ p (Nat.le_refl _)
  intro n
  induction n with
  | zero => exact fun q hq => block_step q fun r hr => by omega
  | succ n ih => exact fun q hq => block_step q fun r hr => ih r (by omega)
end Go.Proofs.Ytajddbmmbhdnfaa
