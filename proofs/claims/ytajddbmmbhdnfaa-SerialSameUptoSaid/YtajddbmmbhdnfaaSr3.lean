/-
  serial's runner: loop, walked.
-/
import Derived.Test.YtajddbmmbhdnfaaSr2
import Derived.Test.YtajddbmmbhdnfaaSc3
namespace Go.Proofs.Ytajddbmmbhdnfaa
set_option linter.unusedVariables false
set_option linter.unusedSimpArgs false
set_option maxRecDepth 100000
open Go.RowKit

/-- bindings in memory, that the runner does not turn -/
structure EnvAt (w : World) (T : Nat → Prop) (ve : Value) (zs : List Ex.Bd) : Prop where
  sl : SlV w 2 ve zs.length (Ex.bindcs zs)
  lt : ∀ i, ve.ownBlock = some i → i < w.heap.size
  off : ∀ i, ve.ownBlock = some i → ¬ T i
  rg : ∀ z ∈ zs, Ex.rng z.2
theorem EnvAt.step {w w' : World} {T T' : Nat → Prop} {ve : Value} {zs : List Ex.Bd} (h : EnvAt w T ve zs) (k : Keeps T w w') (nw : ∀ i, T' i → T i ∨ w.heap.size ≤ i) : EnvAt w' T' ve zs := by
  refine ⟨?_, fun i hi => Nat.lt_of_lt_of_le (h.lt i hi) k.size, fun i hi ht => ?_, h.rg⟩
  · obtain ⟨A, c, rfl, h1, h2, h3, h4⟩ := h.sl
    refine ⟨A, c, rfl, h1, h2, h3, ?_⟩
    by_cases hne : Ex.bindcs zs = []
    · rw [hne]; exact Cells.nil _ _ _
    · obtain ⟨b, o, rfl, hb, hc⟩ := h4.at_ hne
      exact ⟨b, o, fun _ => ⟨rfl, Nat.lt_of_lt_of_le hb k.size⟩, fun j u hu => k.cell (hc j u hu) (h.off b rfl)⟩
  · rcases nw i ht with h1 | h1
    · exact h.off i hi h1
    · have := h.lt i hi
      omega
theorem EnvAt.later {w w' : World} {T : Nat → Prop} {ve : Value} {zs : List Ex.Bd} (h : EnvAt w T ve zs) (hb : Below w.heap.size w w') : EnvAt w' T ve zs :=
  h.step (Keeps.of_below hb T) fun i hi => .inl hi
theorem EnvAt.addr {w : World} {T : Nat → Prop} {A : Option Addr} {n c : Nat} {zs : List Ex.Bd} (h : EnvAt w T (.slice A n c) zs) : n = zs.length ∧ n ≤ c ∧ c ≤ maxLen ∧ (A = none → n = 0) := by
  obtain ⟨A', c', he, h1, h2, h3, h4⟩ := h.sl
  injection he with e1 e2 e3
  subst e1 e2 e3
  refine ⟨rfl, h1, h2, fun hA => ?_⟩
  subst hA
  apply Classical.byContradiction
  intro h0
  have hz : Ex.bindcs zs ≠ [] := fun e => h0 (by rw [Ex.bindcs_length] at h3; have : (Ex.bindcs zs).length = 0 := by rw [e]; rfl
                                                 rw [Ex.bindcs_length] at this; omega)
  obtain ⟨_, _, h, _⟩ := h4.at_ hz
  cases h
theorem EnvAt.rng {w : World} {T : Nat → Prop} {ve : Value} {zs : List Ex.Bd} (h : EnvAt w T ve zs) : ∀ b ∈ Ex.bs zs, Ex.rng b.2 := fun b hb => by
  obtain ⟨z, hz, rfl⟩ := List.mem_map.1 hb
  exact h.rg z hz
theorem bs_snoc (zs : List Ex.Bd) (z : Ex.Bd) : Ex.bs (zs ++ [z]) = Ex.bs zs ++ [(z.1.data.toList, z.2)] := by simp [Ex.bs]
/-- one binding more, in a row of its own -/
theorem EnvAt.grown {w w' : World} {T : Nat → Prop} {ve v' : Value} {zs : List Ex.Bd} (h : EnvAt w T ve zs) {z : Ex.Bd} (hz : Ex.rng z.2) (hT : ∀ i, T i → i < w.heap.size)
    (hown : w'.ownsRow w.heap.size 121 2 v' (zs.length + 1) (Ex.bindcs zs ++ Ex.bindc z)) : EnvAt w' T v' (zs ++ [z]) := by
  refine ⟨?_, fun i hi => (hown.lt i hi).2, fun i hi ht => ?_, fun x hx => ?_⟩
  · have := SlV.of_own hown
    simpa [Ex.bindcs] using this
  · have := hT i ht
    have := (hown.lt i hi).1
    omega
  · rcases List.mem_append.1 hx with hx | hx
    · exact h.rg x hx
    · rw [List.mem_singleton.1 hx]; exact hz

/-- a run goes on, or ends for lack of fuel -/
def RnEnd (B : Nat) (w : World) (T : Nat → Prop) (g F : Nat) (m : Sr.M) : Ending → World → Prop := fun e w' =>
  (m.steps ≤ F ∧ e = .returned (.tuple #[]) ∧ ∃ vt, RnTo B w T w' g F m vt) ∨ (F < m.steps ∧ e = .panicked spent ∧ Keeps T w w')
def BlockOK (p : St.P) : Prop := ∀ (w : World) (B n c g F : Nat) (A : Option Addr) (vt ve : Value) (m : Sr.M) (zs : List Ex.Bd) (l : Nat), PR B w A n p → n ≤ c → c ≤ maxLen → RnO B w g F m vt → Sr.Fit F m → F ≤ 2000 → EnvAt w (RnT g m vt) ve zs →
  zs.length + p.size ≤ 549755813888 → l + p.size ≤ 576460752303423488 →
  Calls Try.prog 42 #[.pointer (some ⟨g, 0, none⟩), .slice A n c, ve, .int .i64 (l : Int)] w (RnEnd B w (RnT g m vt) g F (Sr.run p (Ex.bs zs) l m))

theorem bindc_one (z : Ex.Bd) : ∀ u ∈ Ex.bindc z, u.oneCell' = true := by
  intro u hu
  rcases List.mem_cons.1 hu with rfl | hu
  · rfl
  · rcases List.mem_singleton.1 hu with rfl
    rfl
theorem info_bnd : (Try.prog.info? 121).map (fun i => (i.zero, i.size, i.bytes)) = some (some (.agg #[.string ⟨#[]⟩, .int .i64 0]), 2, 24) := by kernel_rfl

set_option maxHeartbeats 2000000 in
theorem loop_any (body : St.P) (ih : BlockOK body) (w : World) (B g F : Nat) (vt ve : Value) (m : Sr.M) (zs : List Ex.Bd) (l : Nat) (kd : Int) (nm : ByteArray) (ak an : Int) (sa : ByteArray) (aA : Option Addr) (al ac : Nat) (bk bn : Int) (sb : ByteArray) (bA : Option Addr) (bl bc : Nat) (D : Option Addr) (dl dc : Nat) (E : Option Addr) (el ec : Nat) (ea eb : Ex.X) (els : St.P)
    (xa : XR B w (xcells ak an sa aA al ac) ea) (xb : XR B w (xcells bk bn sb bA bl bc) eb) (pb : PR B w D dl body) (pe : PR B w E el els) (hd1 : dl ≤ dc) (hd2 : dc ≤ maxLen)
    (hO : RnO B w g F m vt) (hf : Sr.Fit F m) (hF : F ≤ 2000) (hv : EnvAt w (RnT g m vt) ve zs) (hz : zs.length + 1 + body.size ≤ 549755813888) (hl : l + body.size ≤ 576460752303423488) :
    Calls Try.prog 50 #[.pointer (some ⟨g, 0, none⟩), .agg (stcells kd nm (xcells ak an sa aA al ac) (xcells bk bn sb bA bl bc) D dl dc E el ec).toArray, ve, .int .i64 (l : Int)] w
      (RnEnd B w (RnT g m vt) g F (Sr.iter (Ex.evl (Ex.bs zs) eb - Ex.evl (Ex.bs zs) ea).toNat (Ex.evl (Ex.bs zs) ea) (fun i m => Sr.run body (Ex.bs zs ++ [(nm.data.toList, i)]) l m.step) m)) := by
  obtain ⟨VE, ce, rfl, -⟩ := hv.sl
  obtain ⟨-, hce1, hce2, hce3⟩ := hv.addr
  obtain ⟨Q, hQq⟩ : ∃ Q, Q = w.heap.size := ⟨_, rfl⟩
  have hbA : Below w.heap.size w (w.alloc (.cells (stcells kd nm (xcells ak an sa aA al ac) (xcells bk bn sb bA bl bc) D dl dc E el ec).toArray 66)) := below_alloc (Below.refl _ _) _
  have hX : StBox B Q (w.alloc (.cells (stcells kd nm (xcells ak an sa aA al ac) (xcells bk bn sb bA bl bc) D dl dc E el ec).toArray 66)) (RnT g m vt) kd nm ak an sa aA al ac bk bn sb bA bl bc D dl dc E el ec ea eb body els := by
    refine StBox.of (t := 66) hbA hO.base (fun i hi => hO.ge hi) (fun h => by have := hO.lt h; omega) ?_ xa xb pb pe
    rw [hQq]
    exact Blk.new _ _ _
  have T0 : RnTo B (w.alloc (.cells (stcells kd nm (xcells ak an sa aA al ac) (xcells bk bn sb bA bl bc) D dl dc E el ec).toArray 66)) (RnT g m vt) (w.alloc (.cells (stcells kd nm (xcells ak an sa aA al ac) (xcells bk bn sb bA bl bc) D dl dc E el ec).toArray 66)) g F m vt := OwnTo.start (hO.later hbA)
  have hv0 := hv.later hbA
  have hra := Ex.evl_rng _ hv.rng _ xa.ok
  have hrb := Ex.evl_rng _ hv.rng _ xb.ok
  have hpk := pb.ok
  obtain ⟨a, ha⟩ : ∃ a, a = Ex.evl (Ex.bs zs) ea := ⟨_, rfl⟩
  obtain ⟨b, hb⟩ : ∃ b, b = Ex.evl (Ex.bs zs) eb := ⟨_, rfl⟩
  obtain ⟨f, hfq⟩ : ∃ f, f = (fun (i : Int) (m : Sr.M) => Sr.run body (Ex.bs zs ++ [(nm.data.toList, i)]) l m.step) := ⟨_, rfl⟩
  have hon : ∀ i m, Sr.On m (f i m) := fun i m => by rw [hfq]; exact (Sr.On.step m).trans (Sr.run_on _ _ _ _)
  have hrn : ∀ i m, Ex.rng i → (∀ x ∈ m.heap, Ex.rng x) → ∀ x ∈ (f i m).heap, Ex.rng x := fun i m hi hm => by
    rw [hfq]
    exact Sr.run_rng body _ _ _ hpk (Sr.env_snoc hv0.rng _ hi) hm
  rw [← ha, ← hb, ← hfq]
  rw [← ha] at hra
  rw [← hb] at hrb
  have HA := Lib.hid (And.intro ha (And.intro hb hfq))
  obtain ⟨R, hR⟩ : ∃ R, R = Sr.iter (b - a).toNat a f m := ⟨_, rfl⟩
  rw [← hR]
  have HR := Lib.hid (And.intro hR (And.intro hon hrn))
  clear ha hb hfq hR hon hrn
  have hQQ := Lib.hid hQq
  have HO := Lib.hid (And.intro hO (And.intro hf hv))
  unfold stcells xcells at hbA hX T0 hv0 ⊢
  simp only [List.cons_append, List.nil_append] at hbA hX T0 hv0 ⊢
  clear xa xb pb pe hO hf hv hQq
  go_enter Try.func50, Try.ntmps50
  go_wp2_with fail
  generalize (w.alloc (.cells #[.int .i64 kd, .string nm, .int .i64 ak, .int .i64 an, .string sa, .slice aA al ac, .int .i64 bk, .int .i64 bn, .string sb, .slice bA bl bc, .slice D dl dc, .slice E el ec] 66)) = W0 at hbA hX T0 hv0 ⊢
  rw [← hQQ.out]
  have gE : ∀ (w' : World) (ck cn : Int) (sc : ByteArray) (cA : Option Addr) (cl cc : Nat) (x : Ex.X) (y : Int), y = Ex.evl (Ex.bs zs) x → Below W0.heap.size W0 w' → XR B w' (xcells ck cn sc cA cl cc) x → Calls Try.prog 47 #[.agg #[.int .i64 ck, .int .i64 cn, .string sc, .slice cA cl cc], .slice VE zs.length ce] w' fun r w'' => r = .returned (.int .i64 y) ∧ Below w'.heap.size w' w'' := fun w' ck cn sc cA cl cc x y hy hb hx => by
    rw [hy]
    exact eval_ok (.slice VE zs.length ce) zs (by omega) x w' _ (hx.up (T0.later hb).own.base) (hv0.later hb).sl
  have keepS : ∀ w', Below W0.heap.size W0 w' → (Below W0.heap.size W0 w' ∧ w'.cell? ⟨Q, 2, none⟩ = some (.int .i64 ak) ∧ w'.cell? ⟨Q, 3, none⟩ = some (.int .i64 an) ∧ w'.cell? ⟨Q, 4, none⟩ = some (.string sa) ∧ w'.cell? ⟨Q, 5, none⟩ = some (.slice aA al ac) ∧
    w'.cell? ⟨Q, 6, none⟩ = some (.int .i64 bk) ∧ w'.cell? ⟨Q, 7, none⟩ = some (.int .i64 bn) ∧ w'.cell? ⟨Q, 8, none⟩ = some (.string sb) ∧ w'.cell? ⟨Q, 9, none⟩ = some (.slice bA bl bc)) := fun w' hb => by
    obtain ⟨c0, c1, c2, c3, c4, c5, c6, c7, c8, c9, c10, c11⟩ := hX.cells w' (Keeps.of_below hb _)
    exact ⟨hb, c2, c3, c4, c5, c6, c7, c8, c9⟩
  have gX : ∀ w', Below W0.heap.size W0 w' → XR B w' (xcells ak an sa aA al ac) ea ∧ XR B w' (xcells bk bn sb bA bl bc) eb := fun w' hb => ⟨(hX.read w' (Keeps.of_below hb _)).1, (hX.read w' (Keeps.of_below hb _)).2.1⟩
  have hS0 := keepS _ (below_drew (Below.refl _ _))
  refine wp_walk (by kernel_rfl) (by kernel_rfl) (fun w w' => Below w.heap.size w w') (fun w' => (Below W0.heap.size W0 w' ∧ w'.cell? ⟨Q, 2, none⟩ = some (.int .i64 ak) ∧ w'.cell? ⟨Q, 3, none⟩ = some (.int .i64 an) ∧ w'.cell? ⟨Q, 4, none⟩ = some (.string sa) ∧ w'.cell? ⟨Q, 5, none⟩ = some (.slice aA al ac) ∧ w'.cell? ⟨Q, 6, none⟩ = some (.int .i64 bk) ∧ w'.cell? ⟨Q, 7, none⟩ = some (.int .i64 bn) ∧ w'.cell? ⟨Q, 8, none⟩ = some (.string sb) ∧ w'.cell? ⟨Q, 9, none⟩ = some (.slice bA bl bc))) hS0 ?_
  repeat (first | (refine settle_skip (fun _ => by rfl) ?_; (simp only [Act.put, List.setIfInBounds_toArray, List.set_cons_zero, List.set_cons_succ])) | (refine' settle_run (fun _ _ => Below.refl _ _) (fun _ => by rfl) ?_ ?_; rotate_left; (focus (intro ρ w hS hF; (try dsimp only at hS); go_split_ands; go_simp; try with_reducible rfl)); (simp only [Act.put, List.setIfInBounds_toArray, List.set_cons_zero, List.set_cons_succ])))
  (refine' settle_step (fun _ => by rfl) ?_ ?_; rotate_left; (focus (intro ρ w hS hF K hK; (simp only [Act.put, List.setIfInBounds_toArray, List.set_cons_zero, List.set_cons_succ] at hK); go_simp; (refine (gE _ _ _ _ _ _ _ _ a HA.out.1 hS.1 (gX _ hS.1).1).mono ?_; rintro e w' ⟨rfl, hb'⟩; have hS' := keepS _ (below_next hb' hS.1); have hE' := hb'); exact hK _ hS' hE')); (simp only [Act.put, List.setIfInBounds_toArray, List.set_cons_zero, List.set_cons_succ]))
  repeat (first | (refine settle_skip (fun _ => by rfl) ?_; (simp only [Act.put, List.setIfInBounds_toArray, List.set_cons_zero, List.set_cons_succ])) | (refine' settle_run (fun _ _ => Below.refl _ _) (fun _ => by rfl) ?_ ?_; rotate_left; (focus (intro ρ w hS hF; (try dsimp only at hS); go_split_ands; go_simp; try with_reducible rfl)); (simp only [Act.put, List.setIfInBounds_toArray, List.set_cons_zero, List.set_cons_succ])))
  (refine' settle_step (fun _ => by rfl) ?_ ?_; rotate_left; (focus (intro ρ w hS hF K hK; (simp only [Act.put, List.setIfInBounds_toArray, List.set_cons_zero, List.set_cons_succ] at hK); go_simp; (refine (gE _ _ _ _ _ _ _ _ b HA.out.2.1 hS.1 (gX _ hS.1).2).mono ?_; rintro e w' ⟨rfl, hb'⟩; have hS' := keepS _ (below_next hb' hS.1); have hE' := hb'); exact hK _ hS' hE')); (simp only [Act.put, List.setIfInBounds_toArray, List.set_cons_zero, List.set_cons_succ]))
  repeat (first | (refine settle_skip (fun _ => by rfl) ?_; (simp only [Act.put, List.setIfInBounds_toArray, List.set_cons_zero, List.set_cons_succ])) | (refine' settle_run (fun _ _ => Below.refl _ _) (fun _ => by rfl) ?_ ?_; rotate_left; (focus (intro ρ w hS hF; (try dsimp only at hS); go_split_ands; go_simp; try with_reducible rfl)); (simp only [Act.put, List.setIfInBounds_toArray, List.set_cons_zero, List.set_cons_succ])))
  refine settle_nil ?_
  intro ρ w4 hS hF
  have T4 := T0.later hS.1
  have hfit := HO.out.2.1
  have HB := Lib.hid (And.intro hbA (And.intro hv0 hX))
  have HE := Lib.hid (And.intro hce1 (And.intro hce2 hce3))
  clear hF hS hS0 keepS gX gE T0 hv0 hX hbA hce1 hce2 hce3
  unfold Ex.rng at hra hrb
  dsimp only
  go_wp2_with fail
  go_loopw [8] (fun v wr => ∃ (i : Int) (mj : Sr.M) (vtj : Value), v = .int .i64 i ∧ a ≤ i ∧ (a = i ∨ i ≤ b) ∧ RnTo B W0 (RnT g m vt) wr g F mj vtj ∧ Sr.Fit F mj ∧ Sr.iter (b - i).toNat i f mj = R) (fun v _ => (b - intOf v).toNat)
  case atStart => exact ⟨a, m, vt, rfl, Int.le_refl _, .inl rfl, T4, hfit, HR.out.1.symm⟩
  case round =>
    clear T4 hfit
    obtain ⟨i, mj, vtj, rfl, hai, hib, hT, hfj, hit⟩ := hrel
    by_cases hlt : i < b
    · have hn : (b - i).toNat = (b - (i + 1)).toNat + 1 := by omega
      rw [hn, Sr.iter] at hit
      have hon1 := Sr.On.iter HR.out.2.1 (b - (i + 1)).toNat (i + 1) (f i mj)
      rw [hit] at hon1
      have hri : Ex.rng i := by unfold Ex.rng; omega
      have hst1 : mj.steps + 1 ≤ (f i mj).steps := by
        rw [HA.out.2.2]
        exact (Sr.run_on body _ _ mj.step).steps
      by_cases hst : mj.steps = F
      · have hg := step_out B wr g F mj vtj hT.own hfj.len hst
        have hend : ∀ w1, Below wr.heap.size wr w1 → F < R.steps ∧ Keeps (RnT g m vt) w w1 := fun w1 hb1 => ⟨by have := hon1.steps; omega, ((Keeps.of_below HB.out.1 _).trans hT.kp).trans (Keeps.of_below hb1 _)⟩
        have HH := Lib.hid hend
        clear hend hT hfj hit hon1 hst hst1
        go_wp2_with fail
        refine hg.mono ?_
        rintro e w1 ⟨rfl, hb1⟩
        obtain ⟨h1, h2⟩ := HH.out w1 hb1
        clear hg hb1
        go_wp2
        exact ⟨rfl, .inr ⟨h1, rfl, h2⟩⟩
      · have hg := step_ok B wr g F mj vtj hT.own hfj.len (by have := hfj.st; omega) hF
        have hfs : Sr.Fit F mj.step := ⟨hfj.len, hfj.rg, by have := hfj.st; show mj.steps + 1 ≤ F; omega, by have := hfj.tr; show mj.trace.length ≤ mj.steps + 1; omega⟩
        go_wp2_with fail
        refine hg.mono ?_
        rintro e w1 ⟨rfl, h1⟩
        have T1 := hT.step h1
        have v1 := HB.out.2.1.step T1.kp T1.nw
        have hlow : ∀ k, RnT g mj.step vtj k → k < w1.heap.size := fun k hk => T1.own.lt hk
        obtain ⟨-, c1, -, -, -, -, -, -, -, -, c10, -⟩ := HB.out.2.2.cells w1 T1.kp
        have hcc : ∀ w', Below w1.heap.size w1 w' → Keeps (RnT g m vt) W0 w' := fun w' hb => T1.kp.trans (Keeps.of_below hb _)
        have keepS : ∀ w', Below w1.heap.size w1 w' → (Below w1.heap.size w1 w' ∧ w'.cell? ⟨Q, 1, none⟩ = some (.string nm) ∧ w'.cell? ⟨Q, 10, none⟩ = some (.slice D dl dc)) := fun w' hb => by
          obtain ⟨-, c1, -, -, -, -, -, -, -, -, c10, -⟩ := HB.out.2.2.cells w' (hcc w' hb)
          exact ⟨hb, c1, c10⟩
        have gS : ∀ w', Below w1.heap.size w1 w' → SlV w' 2 (.slice VE zs.length zs.length) zs.length (Ex.bindcs zs) := fun w' hb => by
          obtain ⟨A', c', e', q1, q2, q3, q4⟩ := (v1.later hb).sl
          injection e' with e1 e2 e3
          subst e1
          exact ⟨VE, zs.length, rfl, Nat.le_refl _, by have := HE.out; omega, q3, q4⟩
        have hS0 := keepS _ (below_drew (Below.refl _ _))
        have hn63 : zs.length + 1 ≤ maxLen := by unfold maxLen; omega
        have hn47 : (zs.length + 1) * 24 ≤ 140737488355328 := by omega
        have hcl : ∀ w', Calls Try.prog 46 #[.slice VE zs.length ce] w' fun e w'' => e = .returned (.slice VE zs.length zs.length) ∧ w' = w'' := fun w' => clip_any w' VE zs.length ce HE.out.1 HE.out.2.1 HE.out.2.2
        have HT := Lib.hid (And.intro T1 (And.intro v1 (And.intro hlow (And.intro hit (And.intro hon1 hfj)))))
        clear hg hT hfj h1 T1 v1 hlow c1 c10 hcc hit hon1
        go_wp2_with fail
        refine wp_walk_last (by kernel_rfl) (by kernel_rfl) (fun w w' => Below w.heap.size w w') (fun w' => (Below w1.heap.size w1 w' ∧ w'.cell? ⟨Q, 1, none⟩ = some (.string nm) ∧ w'.cell? ⟨Q, 10, none⟩ = some (.slice D dl dc))) hS0 ?_
        simp only [List.length_cons, List.length_nil, Nat.reduceAdd, Nat.reduceSub, List.take_succ_cons, List.take_zero, List.drop_succ_cons, List.drop_zero]
        repeat (first | (refine settle_skip (fun _ => by rfl) ?_; (simp only [Act.put, List.setIfInBounds_toArray, List.set_cons_zero, List.set_cons_succ])) | (refine' settle_run (fun _ _ => Below.refl _ _) (fun _ => by rfl) ?_ ?_; rotate_left; (focus (intro ρ w hS hF; (try dsimp only at hS); go_split_ands; go_simp; try with_reducible rfl)); (simp only [Act.put, List.setIfInBounds_toArray, List.set_cons_zero, List.set_cons_succ])))
        (refine' settle_step (fun _ => by rfl) ?_ ?_; rotate_left; (focus (intro ρ w hS hF K hK; (simp only [Act.put, List.setIfInBounds_toArray, List.set_cons_zero, List.set_cons_succ] at hK); go_simp; (refine (hcl _).mono ?_; rintro e w' ⟨rfl, rfl⟩; have hS' := hS; have hE' := Below.refl w.heap.size w); exact hK _ hS' hE')); (simp only [Act.put, List.setIfInBounds_toArray, List.set_cons_zero, List.set_cons_succ]))
        repeat (first | (refine settle_skip (fun _ => by rfl) ?_; (simp only [Act.put, List.setIfInBounds_toArray, List.set_cons_zero, List.set_cons_succ])) | (refine' settle_run (fun _ _ => Below.refl _ _) (fun _ => by rfl) ?_ ?_; rotate_left; (focus (intro ρ w hS hF; (try dsimp only at hS); go_split_ands; go_simp; try with_reducible rfl)); (simp only [Act.put, List.setIfInBounds_toArray, List.set_cons_zero, List.set_cons_succ])))
        (refine settle_known (FSl 2 1 [.string nm, .int .i64 i]) (by rfl) (fun _ => by rfl)  ?_ ?_; (focus (intro ρ w hS hF K hK; (simp only [Act.put, List.setIfInBounds_toArray, List.set_cons_zero, List.set_cons_succ] at hK); go_simp; exact hK _ _ (SlV.lit w [.string nm, .int .i64 i] 121 2 1 rfl (by decide)) (keepS _ (below_alloc hS.1 _)) (below_alloc (Below.refl _ _) _))); (simp only [Act.put, List.setIfInBounds_toArray, List.set_cons_zero, List.set_cons_succ]))
        (refine settle_known (FRow w1.heap.size 121 2 (zs.length + 1) (Ex.bindcs zs ++ ([.string nm, .int .i64 i] : List Value))) (by rfl) (fun _ => by rfl) ?_ ?_; (focus (intro ρ w hS hF K hK; refine oper_full (.tmp 29) (.tmp 34) _ _ _ _ _ Try.underlying118 info_bnd rfl (by decide) (gS w hS.1) (hF.1 (by rfl)) (bindc_one (nm, i)) (by decide) hn63 hn47 rfl rfl rfl ?_; intro v' w' hown hb; exact hK v' w' (own_base hown hS.1.size) (keepS _ (below_next hb hS.1)) hb)); (simp only [Act.put, List.setIfInBounds_toArray, List.set_cons_zero, List.set_cons_succ]))
        repeat (first | (refine settle_skip (fun _ => by rfl) ?_; (simp only [Act.put, List.setIfInBounds_toArray, List.set_cons_zero, List.set_cons_succ])) | (refine' settle_run (fun _ _ => Below.refl _ _) (fun _ => by rfl) ?_ ?_; rotate_left; (focus (intro ρ w hS hF; (try dsimp only at hS); go_split_ands; go_simp; try with_reducible rfl)); (simp only [Act.put, List.setIfInBounds_toArray, List.set_cons_zero, List.set_cons_succ])))
        refine settle_nil ?_
        intro ρ w4 hS hF
        have hrow : w4.ownsRow w1.heap.size 121 2 (ρ 35) (zs.length + 1) (Ex.bindcs zs ++ Ex.bindc (nm, i)) := hF 35 (FRow w1.heap.size 121 2 (zs.length + 1) (Ex.bindcs zs ++ ([.string nm, .int .i64 i] : List Value))) (by repeat (first | exact List.mem_cons_self | apply List.mem_cons_of_mem))
        have hb4 := hS.1
        clear hF hS hS0 keepS gS hcl
        dsimp only
        generalize ρ 35 = v4 at hrow ⊢
        obtain ⟨T1, v1, hlow, hit, hon1, hfj⟩ := HT.out
        have T4 := T1.later hb4
        have e5 : EnvAt w4 (RnT g mj.step vtj) v4 (zs ++ [(nm, i)]) := v1.grown hri hlow hrow
        have p4 := (HB.out.2.2.read w4 T4.kp).2.2.1
        have hblk := ih w4 B dl dc g F D vtj v4 mj.step (zs ++ [(nm, i)]) l p4 hd1 hd2 T4.own hfs hF e5 (by rw [List.length_append, List.length_singleton]; omega) hl
        rw [bs_snoc] at hblk
        have hfi : Sr.run body (Ex.bs zs ++ [((nm, i).1.data.toList, (nm, i).2)]) l mj.step = f i mj := by rw [HA.out.2.2]
        rw [hfi] at hblk
        obtain ⟨V4, c4, rfl, -, -⟩ := own_slice hrow
        have HZ := Lib.hid (And.intro T4 (And.intro hit (And.intro hon1 hfj)))
        clear HT T1 v1 hlow hit hon1 hfj T4 e5 p4 hrow hfi hst hst1 hb4
        go_wp2_with fail
        refine hblk.mono ?_
        rintro e w5 (⟨h1, rfl, vt5, h2⟩ | ⟨h1, rfl, h2⟩)
        · have T5 := HZ.out.1.step h2
          have hf5 : Sr.Fit F (f i mj) := HZ.out.2.2.2.on (HR.out.2.1 i mj) (HR.out.2.2 i mj hri HZ.out.2.2.2.rg) h1
          have HY := Lib.hid (And.intro T5 (And.intro hf5 HZ.out.2.1))
          clear hblk h2 T5 hf5
          go_wp2_with fail
          go_roundw
          case rel => exact ⟨i + 1, _, _, by go_num, by omega, .inr (by omega), HY.out.1, HY.out.2.1, HY.out.2.2⟩
          case measure => simp [intOf]; omega
        · have hk : Keeps (RnT g m vt) w w5 := ((Keeps.of_below HB.out.1 _).trans HZ.out.1.kp).step h2 (fun k hk ht => (HZ.out.1.nw k ht).resolve_right (by have := HB.out.1.size; omega))
          have hlt' : F < R.steps := by have := HZ.out.2.2.1.steps; omega
          clear hblk h2
          go_wp2
          exact ⟨rfl, .inr ⟨hlt', rfl, hk⟩⟩
    · have h0 : (b - i).toNat = 0 := by omega
      rw [h0, Sr.iter] at hit
      subst hit
      have HY := Lib.hid (And.intro hT hfj)
      clear hT hfj
      go_wp2_with fail
      go_end0
      exact .inl ⟨HY.out.2.st, rfl, vtj, HY.out.1.since HB.out.1⟩
end Go.Proofs.Ytajddbmmbhdnfaa
