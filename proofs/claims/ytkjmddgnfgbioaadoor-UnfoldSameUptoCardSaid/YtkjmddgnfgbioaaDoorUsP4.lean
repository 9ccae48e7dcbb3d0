/-
  unfold: the closure that has what is left behind a statement.
-/
import Derived.Test.YtkjmddgnfgbioaaDoorUsP3
import Derived.Test.YtkjmddgnfgbioaaDoorUsP2
import Derived.Deep.DeepCutAuto
import Derived.Test.YtkjmddgnfgbioaaDoorUsP1

namespace Go.Proofs.YtkjmddgnfgbioaaDoor
set_option linter.unusedVariables false
set_option linter.unusedSimpArgs false
set_option maxRecDepth 100000
open Go.RowKit

theorem fr_kinds (k : Int) : k = 1 ∨ k = 2 ∨ k = 3 ∨ k = 4 ∨ k = 5 ∨ k = 6 ∨ k = 7 ∨ ((k == 1) = false ∧ (k == 2) = false ∧ (k == 3) = false ∧ (k == 4) = false ∧ (k == 5) = false ∧ (k == 6) = false ∧ (k == 7) = false) := by
  by_cases h1 : k = 1; · exact .inl h1
  by_cases h2 : k = 2; · exact .inr (.inl h2)
  by_cases h3 : k = 3; · exact .inr (.inr (.inl h3))
  by_cases h4 : k = 4; · exact .inr (.inr (.inr (.inl h4)))
  by_cases h5 : k = 5; · exact .inr (.inr (.inr (.inr (.inl h5))))
  by_cases h6 : k = 6; · exact .inr (.inr (.inr (.inr (.inr (.inl h6)))))
  by_cases h7 : k = 7; · exact .inr (.inr (.inr (.inr (.inr (.inr (.inl h7))))))
  exact .inr (.inr (.inr (.inr (.inr (.inr (.inr (by simp [h1, h2, h3, h4, h5, h6, h7])))))))

/-- what is known of the statement that is looked at, while the walker turns -/
structure StBox (B Q : Nat) (W : World) (T : Nat → Prop) (kd : Int) (nm : ByteArray) (ak an : Int) (sa : ByteArray) (aA : Option Addr) (al ac : Nat) (bk bn : Int) (sb : ByteArray) (bA : Option Addr) (bl bc : Nat) (D : Option Addr) (dl dc : Nat) (E : Option Addr) (el ec : Nat) (ea eb : Ex.X) (body els : St.P) : Prop where
  cells : ∀ w', Keeps T W w' → w'.cell? ⟨Q, 0, none⟩ = some (.int .i64 kd) ∧ w'.cell? ⟨Q, 1, none⟩ = some (.string nm) ∧
    w'.cell? ⟨Q, 2, none⟩ = some (.int .i64 ak) ∧ w'.cell? ⟨Q, 3, none⟩ = some (.int .i64 an) ∧ w'.cell? ⟨Q, 4, none⟩ = some (.string sa) ∧ w'.cell? ⟨Q, 5, none⟩ = some (.slice aA al ac) ∧
    w'.cell? ⟨Q, 6, none⟩ = some (.int .i64 bk) ∧ w'.cell? ⟨Q, 7, none⟩ = some (.int .i64 bn) ∧ w'.cell? ⟨Q, 8, none⟩ = some (.string sb) ∧ w'.cell? ⟨Q, 9, none⟩ = some (.slice bA bl bc) ∧
    w'.cell? ⟨Q, 10, none⟩ = some (.slice D dl dc) ∧ w'.cell? ⟨Q, 11, none⟩ = some (.slice E el ec)
  read : ∀ w', Keeps T W w' → XR B w' (xcells ak an sa aA al ac) ea ∧ XR B w' (xcells bk bn sb bA bl bc) eb ∧ PR B w' D dl body ∧ PR B w' E el els
theorem StBox.of {B Q : Nat} {w W : World} {T : Nat → Prop} {kd : Int} {nm : ByteArray} {ak an : Int} {sa : ByteArray} {aA : Option Addr} {al ac : Nat} {bk bn : Int} {sb : ByteArray} {bA : Option Addr} {bl bc : Nat} {D : Option Addr} {dl dc : Nat} {E : Option Addr} {el ec : Nat} {ea eb : Ex.X} {body els : St.P} {t : TypeId}
    (hb : Below w.heap.size w W) (hB : B ≤ w.heap.size) (hT : ∀ i, T i → B ≤ i) (hQ : ¬ T Q) (p : Blk W Q t [.int .i64 kd, .string nm, .int .i64 ak, .int .i64 an, .string sa, .slice aA al ac, .int .i64 bk, .int .i64 bn, .string sb, .slice bA bl bc, .slice D dl dc, .slice E el ec])
    (xa : XR B w (xcells ak an sa aA al ac) ea) (xb : XR B w (xcells bk bn sb bA bl bc) eb) (pb : PR B w D dl body) (pe : PR B w E el els) : StBox B Q W T kd nm ak an sa aA al ac bk bn sb bA bl bc D dl dc E el ec ea eb body els := by
  refine ⟨fun w' k => ?_, fun w' k => ?_⟩
  · have p' := p.keeps k hQ
    exact ⟨(p'.cell 0).trans rfl, (p'.cell 1).trans rfl, (p'.cell 2).trans rfl, (p'.cell 3).trans rfl, (p'.cell 4).trans rfl, (p'.cell 5).trans rfl, (p'.cell 6).trans rfl, (p'.cell 7).trans rfl, (p'.cell 8).trans rfl, (p'.cell 9).trans rfl, (p'.cell 10).trans rfl, (p'.cell 11).trans rfl⟩
  · have hk : Below B w w' := (hb.mono hB).trans (k.below (Nat.le_trans hB hb.size) hT)
    exact ⟨xa.later hk, xb.later hk, pb.later hk, pe.later hk⟩

theorem PR.tail {B n k g o : Nat} {w : World} {kd : Int} {nm : List UInt8} {ea eb : Ex.X} {body els rest : St.P} (h : PR B w (some ⟨g, o + k * 12, none⟩) n (.cons kd nm ea eb body els rest)) (hn : 0 < n) : PR B w (some ⟨g, o + (k + 1) * 12, none⟩) (n - 1) rest := by
  obtain ⟨_, _, _, _, _, _, _, _, _, _, _, _, _, _, _, _, _, _, _, _, _, _, body', els', rest', e1, -, -, -, -, -, -, -, pr0⟩ := h.next hn
  injection e1 with _ _ _ _ _ _ e1
  subst e1
  exact pr0


set_option maxHeartbeats 8000000 in
theorem stmts_step (p : St.P) (ih : ∀ q : St.P, q.size < p.size → StmtsOK q) : StmtsOK p := by
  intro w B n c g A vb vf bd fs hp hnc hcm hO hsb hsf
  obtain ⟨g0, o, hA, hpl⟩ := hp.place
  have hn63 : n ≤ 9223372036854775807 := by unfold maxLen at hcm; omega
  have hP0 : ∀ w' (A' : Option Addr) (m : Nat) (q : St.P), Keeps (WkT g vb bd vf fs) w w' → PR B w A' m q → PR B w' A' m q := fun w' A' m q k h => h.later (hO.below k)
  have HP0 := Lib.hid (And.intro hP0 hO)
  clear hP0 hp
  go_enter Tryd.func141, Tryd.ntmps141
  go_wp2
  go_loopw [8] (fun i wr => ∃ (k : Nat) (q : St.P) (vb' vf' : Value) (bd' fs' : List ByteArray), k ≤ n ∧ i = .int .i64 (k : Int) ∧ PR B w (some ⟨g0, o + k * 12, none⟩) (n - k) q ∧ WkTo B w (WkT g vb bd vf fs) wr g vb' bd' vf' fs' ∧ Sr.bda q bd' = Sr.bda p bd ∧ Sr.fr q bd' fs' = Sr.fr p bd fs ∧ q.size ≤ p.size ∧ bd'.length + q.size ≤ bd.length + p.size ∧ fs'.length + q.size ≤ fs.length + p.size) (fun i _ => n - (intOf i).toNat)
  case atStart => exact ⟨0, p, vb, vf, bd, fs, Nat.zero_le _, rfl, hpl, OwnTo.start hO, rfl, rfl, Nat.le_refl _, Nat.le_refl _, Nat.le_refl _⟩
  case round =>
    clear hO hpl
    obtain ⟨k, q, vb', vf', bd', fs', hk, rfl, hq0, hW, hbda, hfr, hqs, hqb, hqf⟩ := hrel
    have hq := HP0.out.1 wr _ _ _ hW.kp hq0
    by_cases hlt : k < n
    · obtain ⟨kd, nm, ak, an, bk, bn, sa, sb, aA, bA, al, ac, bl, bc, ea, eb, D, dl, dc, E, el, ec, body, els, rest, rfl, hg, ⟨hd1, hd2, he1, he2⟩, hcell, xa, xb, pb, pe, pr⟩ := hq.next (by omega)
      have pr0 := hq0.tail (by omega)
      have hAA := hA (by omega)
      subst hAA
      have hPR := Lib.hid pr0
      have c0 : wr.cell? ⟨g0, o + k * 12, none⟩ = some (.int .i64 kd) := hcell 0 _ rfl
      have c1 := hcell 1 _ rfl
      have c2 := hcell 2 _ rfl
      have c3 := hcell 3 _ rfl
      have c4 := hcell 4 _ rfl
      have c5 := hcell 5 _ rfl
      have c6 := hcell 6 _ rfl
      have c7 := hcell 7 _ rfl
      have c8 := hcell 8 _ rfl
      have c9 := hcell 9 _ rfl
      have c10 := hcell 10 _ rfl
      have c11 := hcell 11 _ rfl
      have hBr : B ≤ wr.heap.size := hW.own.base
      have hs : body.size < p.size ∧ els.size < p.size ∧ rest.size ≤ p.size := by rw [St.P.size] at hqs; omega
      have hz : ea.leaves + eb.leaves + body.size + els.size + rest.size + 1 ≤ 549755813888 := by rw [St.P.size] at hqs; omega
      have hzf : fs'.length + (1 + ea.leaves + eb.leaves + body.size + els.size + rest.size) ≤ 549755813888 := by rw [St.P.size] at hqf; omega
      have hzb : bd'.length + (1 + ea.leaves + eb.leaves + body.size + els.size + rest.size) ≤ 549755813888 := by rw [St.P.size] at hqb; omega
      obtain ⟨Q, hQq⟩ : ∃ Q, Q = wr.heap.size := ⟨_, rfl⟩
      have hbA : Below wr.heap.size wr (wr.alloc (.cells (stcells kd nm (xcells ak an sa aA al ac) (xcells bk bn sb bA bl bc) D dl dc E el ec).toArray 40)) := below_alloc (Below.refl _ _) _
      have hX : StBox B Q (wr.alloc (.cells (stcells kd nm (xcells ak an sa aA al ac) (xcells bk bn sb bA bl bc) D dl dc E el ec).toArray 40)) (WkT g vb' bd' vf' fs') kd nm ak an sa aA al ac bk bn sb bA bl bc D dl dc E el ec ea eb body els := by
        refine StBox.of (t := 40) hbA hBr (fun i hi => hW.own.ge hi) (fun h => by have := hW.own.lt h; omega) ?_ xa xb pb pe
        rw [hQq]
        exact Blk.new _ _ _
      have T0 : WkTo B (wr.alloc (.cells (stcells kd nm (xcells ak an sa aA al ac) (xcells bk bn sb bA bl bc) D dl dc E el ec).toArray 40)) (WkT g vb' bd' vf' fs') (wr.alloc (.cells (stcells kd nm (xcells ak an sa aA al ac) (xcells bk bn sb bA bl bc) D dl dc E el ec).toArray 40)) g vb' bd' vf' fs' := OwnTo.start (hW.own.later hbA)
      have hQQ := Lib.hid hQq
      have HQ := Lib.hid (And.intro hbda (And.intro hfr (And.intro hs (And.intro hqs (And.intro hqb (And.intro hqf (And.intro hz (And.intro hzf hzb))))))))
      have HW := Lib.hid hW
      clear hQq hcell hq hq0 hbda hfr hs hqs hqb hqf hz hzf hzb hW xa xb pb pe pr pr0
      unfold stcells xcells at hbA hX T0
      have hWs := hbA.size
      simp only [List.cons_append, List.nil_append] at hbA hX T0 hWs
      rcases fr_kinds kd with rfl | rfl | rfl | rfl | rfl | rfl | rfl | ⟨k1, k2, k3, k4, k5, k6, k7⟩
      · go_wp2_with fail
        generalize (wr.alloc (.cells #[.int .i64 1, .string nm, .int .i64 ak, .int .i64 an, .string sa, .slice aA al ac, .int .i64 bk, .int .i64 bn, .string sb, .slice bA bl bc, .slice D dl dc, .slice E el ec] 40)) = W0 at hbA hX T0 hWs ⊢
        rw [← hQQ.out]
        clear c0 c1 c2 c3 c4 c5 c6 c7 c8 c9 c10 c11
        obtain ⟨c0, c1, c2, c3, c4, c5, c6, c7, c8, c9, c10, c11⟩ := hX.cells _ T0.kp
        obtain ⟨xa, xb, pb, pe⟩ := hX.read _ T0.kp
        refine (uses_any ea B _ g _ _ _ _ _ T0.own xa (by have := HQ.out; omega) (by have := HQ.out; omega)).mono ?_
        rintro r w1 ⟨rfl, vbw1, vfw1, hw1⟩
        have Tw1 := T0.step hw1
        have Uw1 := Sr.use_length bd' fs' ea
        clear hw1
        clear c0 c1 c2 c3 c4 c5 c6 c7 c8 c9 c10 c11 xa xb pb pe
        have r1 : w1.ownsRow B 9 1 vbw1 bd'.length (strs bd') := Tw1.own.row 0 rfl
        obtain ⟨VB, cb, rfl, -, -⟩ := own_slice r1
        have hR : ∀ w', Below w1.heap.size w1 w' → w'.ownsRow B 9 1 (.slice VB bd'.length cb) bd'.length (strs bd') ∧ B ≤ w'.heap.size := fun w' hb => ⟨(Tw1.own.later hb).row 0 rfl, (Tw1.own.later hb).base⟩
        have keepS : ∀ w', Keeps (fun k => (Value.slice VB bd'.length cb).ownBlock = some k) w1 w' → Keeps (fun k => (Value.slice VB bd'.length cb).ownBlock = some k) w1 w' ∧ w'.cell? ⟨g, 0, none⟩ = some (.slice VB bd'.length cb) ∧ w'.cell? ⟨Q, 1, none⟩ = some (.string nm) := fun w' k => by
          have k2 : Keeps (WkT g vb' bd' vf' fs') W0 w' := Tw1.kp.step k (fun i hi e => (Tw1.nw i (.inr ⟨_, List.mem_cons_self, e⟩)).resolve_right (by omega))
          exact ⟨k, ((Tw1.own.blk.keeps k (Tw1.own.ng _ List.mem_cons_self)).cell 0).trans rfl, (hX.cells _ k2).2.1⟩
        have hS1 := keepS _ ((Keeps.refl _ w1).drewN 1)
        have hn63 : bd'.length + 1 ≤ maxLen := by have := HQ.out; unfold maxLen; omega
        have hn47 : (bd'.length + 1) * 16 ≤ 140737488355328 := by have := HQ.out; omega
        have HT := Lib.hid Tw1
        clear Tw1 r1 hX T0 hWs
        go_wp2_with fail
        refine wp_walk_mt 11 (fun i => ([8] : List Nat).contains i) (fun i => ([0,9,10] : List Nat).contains i) [8] (by intro m h; simpa using h) (by kernel_rfl) (by kernel_rfl) (by kernel_rfl) (fun w w' => Below w.heap.size w w')  (fun w' => Keeps (fun k => (Value.slice VB bd'.length cb).ownBlock = some k) w1 w' ∧ w'.cell? ⟨g, 0, none⟩ = some (.slice VB bd'.length cb) ∧ w'.cell? ⟨Q, 1, none⟩ = some (.string nm)) (fun w' => Below w1.heap.size w1 w') hS1 (below_drew (Below.refl _ _)) (fun _ _ h h' => below_next h' h) ?_
        simp only [List.length_cons, List.length_nil, Nat.reduceAdd, Nat.reduceSub, List.take_succ_cons, List.take_zero, List.drop_succ_cons, List.drop_zero]
        repeat (first | (refine nsettle_skip (by rfl) (fun _ => by rfl) ?_; (simp only [Act.put, List.setIfInBounds_toArray, List.set_cons_zero, List.set_cons_succ])) | (refine' nsettle_run (by rfl) (fun _ _ => Below.refl _ _) (fun _ => by rfl) ?_ ?_; rotate_left; (focus (intro ρ w hS hF hP; (try dsimp only at hS); go_split_ands; go_simp; try with_reducible rfl)); (simp only [Act.put, List.setIfInBounds_toArray, List.set_cons_zero, List.set_cons_succ])))
        (refine nsettle_known (FSl 1 1 [.string nm]) (by rfl) (by rfl) (by rfl) (fun _ => by rfl)  ?_ ?_; (focus (intro ρ w hS hF hP K hK; (simp only [Act.put, List.setIfInBounds_toArray, List.set_cons_zero, List.set_cons_succ] at hK); go_simp; exact hK _ _ (SlV.lit w [.string nm] 9 1 1 rfl (by decide)) (keepS _ (hS.1.alloc _)) (below_alloc (Below.refl _ _) _))); (simp only [Act.put, List.setIfInBounds_toArray, List.set_cons_zero, List.set_cons_succ]))
        (refine nsettle_mark (FPush w1 B 9 1 (.slice VB bd'.length cb) (bd'.length + 1) (strs bd' ++ [.string nm])) (by rfl) (by rfl) (by rfl) (fun _ => by rfl) ?_ ?_; (focus (intro ρ w hS hF hP K hK; refine oper_append (.tmp 25) (.tmp 28) B _ _ _ _ _ Tryd.underlying117 info_str rfl (by decide) (hR w (hP (by rfl))).1 (hF.1 (by rfl)) (strs_one [nm]) hn63 hn47 (hR w (hP (by rfl))).2 rfl rfl rfl ?_; intro v' w' hown hg hv _; exact hK v' w' ⟨w, hP (by rfl), hg, hown, hv.imp id fun e => ⟨_, Nat.le_refl _, e⟩⟩ (keepS _ (hS.1.trans ((Keeps.of_grown hg).mono fun i hi => hi.symm))))); (simp only [Act.put, List.setIfInBounds_toArray, List.set_cons_zero, List.set_cons_succ]))
        repeat (first | (refine nsettle_skip (by rfl) (fun _ => by rfl) ?_; (simp only [Act.put, List.setIfInBounds_toArray, List.set_cons_zero, List.set_cons_succ])) | (refine' nsettle_run (by rfl) (fun _ _ => Below.refl _ _) (fun _ => by rfl) ?_ ?_; rotate_left; (focus (intro ρ w hS hF hP; (try dsimp only at hS); go_split_ands; go_simp; try with_reducible rfl)); (simp only [Act.put, List.setIfInBounds_toArray, List.set_cons_zero, List.set_cons_succ])))
        refine nsettle_nil ?_
        intro ρ w4 hS hF
        obtain ⟨wa, ha1, ha2, ha3, ha4⟩ := hF 29 (FPush w1 B 9 1 (.slice VB bd'.length cb) (bd'.length + 1) (strs bd' ++ [.string nm])) (by repeat (first | exact List.mem_cons_self | apply List.mem_cons_of_mem))
        clear hF hS hS1 keepS hR
        dsimp only
        generalize ρ 29 = v4 at ha3 ha4 ⊢
        have hB4 := ((HT.out.own.later ha1).put (i := 0) (r := strRw (.slice VB bd'.length cb) bd') rfl (n' := (bd' ++ [nm]).length) (xs' := strs (bd' ++ [nm])) (by simpa [strs, strRw] using ha3) ha2 ha4).1
        have hend : ∀ w5, Blk w5 g 210 [v4, vfw1] → w4.grownBy w5 (some g) → WkTo B W0 (WkT g vb' bd' vf' fs') w5 g v4 (bd' ++ [nm]) vfw1 (Sr.use bd' fs' ea) := fun w5 b5 g5 =>
          (HT.out.later ha1).step ((HT.out.own.later ha1).put_to (i := 0) (r := strRw (.slice VB bd'.length cb) bd') rfl (n' := (bd' ++ [nm]).length) (xs' := strs (bd' ++ [nm])) (by simpa [strs, strRw] using ha3) ha2 ha4 b5 g5)
        obtain ⟨V4, c4, rfl, -, -⟩ := own_slice ha3
        clear ha1 ha2 ha3 ha4
        go_wp2_with (first | (refine wpl_set_blk hB4 0 _ (by kernel_rfl) (by simp) rfl rfl rfl rfl rfl rfl ?_; intro w5 hB5 hg5; have Tw5 := hend w5 hB5 hg5; clear hB4 hB5 hg5 hend) | fail)
        have TE := (HW.out.later hbA).step Tw5
        have HE := Lib.hid TE
        clear TE Tw5 hbA
        try go_wp2_with fail
        go_roundw
        case rel => exact ⟨k + 1, rest, _, _, _, _, by omega, by go_num, by rw [show n - (k + 1) = n - k - 1 by omega]; exact hPR.out, HE.out, by rw [← HQ.out.1]; simp [Sr.bda, Ex.ba_data], by rw [← HQ.out.2.1]; simp [Sr.fr, Ex.ba_data], by have := HQ.out; omega, by have := HQ.out.2.2.2.2.1; rw [St.P.size] at this; first | omega | (simp only [List.length_append, List.length_singleton]; omega), by have := HQ.out.2.2.2.2.2.1; rw [St.P.size] at this; omega⟩
        case measure => simp [intOf]; omega
      · go_wp2_with fail
        generalize (wr.alloc (.cells #[.int .i64 2, .string nm, .int .i64 ak, .int .i64 an, .string sa, .slice aA al ac, .int .i64 bk, .int .i64 bn, .string sb, .slice bA bl bc, .slice D dl dc, .slice E el ec] 40)) = W0 at hbA hX T0 hWs ⊢
        rw [← hQQ.out]
        clear c0 c1 c2 c3 c4 c5 c6 c7 c8 c9 c10 c11
        obtain ⟨c0, c1, c2, c3, c4, c5, c6, c7, c8, c9, c10, c11⟩ := hX.cells _ T0.kp
        obtain ⟨xa, xb, pb, pe⟩ := hX.read _ T0.kp
        refine (uses_any ea B _ g _ _ _ _ _ T0.own xa (by have := HQ.out; omega) (by have := HQ.out; omega)).mono ?_
        rintro r w1 ⟨rfl, vbw1, vfw1, hw1⟩
        have Tw1 := T0.step hw1
        have Uw1 := Sr.use_length bd' fs' ea
        clear hw1
        clear c0 c1 c2 c3 c4 c5 c6 c7 c8 c9 c10 c11 xa xb pb pe
        have r1 : w1.ownsRow B 9 1 vbw1 bd'.length (strs bd') := Tw1.own.row 0 rfl
        obtain ⟨VB, cb, rfl, -, -⟩ := own_slice r1
        have hR : ∀ w', Below w1.heap.size w1 w' → w'.ownsRow B 9 1 (.slice VB bd'.length cb) bd'.length (strs bd') ∧ B ≤ w'.heap.size := fun w' hb => ⟨(Tw1.own.later hb).row 0 rfl, (Tw1.own.later hb).base⟩
        have keepS : ∀ w', Keeps (fun k => (Value.slice VB bd'.length cb).ownBlock = some k) w1 w' → Keeps (fun k => (Value.slice VB bd'.length cb).ownBlock = some k) w1 w' ∧ w'.cell? ⟨g, 0, none⟩ = some (.slice VB bd'.length cb) ∧ w'.cell? ⟨Q, 1, none⟩ = some (.string nm) := fun w' k => by
          have k2 : Keeps (WkT g vb' bd' vf' fs') W0 w' := Tw1.kp.step k (fun i hi e => (Tw1.nw i (.inr ⟨_, List.mem_cons_self, e⟩)).resolve_right (by omega))
          exact ⟨k, ((Tw1.own.blk.keeps k (Tw1.own.ng _ List.mem_cons_self)).cell 0).trans rfl, (hX.cells _ k2).2.1⟩
        have hS1 := keepS _ ((Keeps.refl _ w1).drewN 1)
        have hn63 : bd'.length + 1 ≤ maxLen := by have := HQ.out; unfold maxLen; omega
        have hn47 : (bd'.length + 1) * 16 ≤ 140737488355328 := by have := HQ.out; omega
        have HT := Lib.hid Tw1
        clear Tw1 r1 hX T0 hWs
        go_wp2_with fail
        refine wp_walk_mt 11 (fun i => ([8] : List Nat).contains i) (fun i => ([0,9,10] : List Nat).contains i) [8] (by intro m h; simpa using h) (by kernel_rfl) (by kernel_rfl) (by kernel_rfl) (fun w w' => Below w.heap.size w w')  (fun w' => Keeps (fun k => (Value.slice VB bd'.length cb).ownBlock = some k) w1 w' ∧ w'.cell? ⟨g, 0, none⟩ = some (.slice VB bd'.length cb) ∧ w'.cell? ⟨Q, 1, none⟩ = some (.string nm)) (fun w' => Below w1.heap.size w1 w') hS1 (below_drew (Below.refl _ _)) (fun _ _ h h' => below_next h' h) ?_
        simp only [List.length_cons, List.length_nil, Nat.reduceAdd, Nat.reduceSub, List.take_succ_cons, List.take_zero, List.drop_succ_cons, List.drop_zero]
        repeat (first | (refine nsettle_skip (by rfl) (fun _ => by rfl) ?_; (simp only [Act.put, List.setIfInBounds_toArray, List.set_cons_zero, List.set_cons_succ])) | (refine' nsettle_run (by rfl) (fun _ _ => Below.refl _ _) (fun _ => by rfl) ?_ ?_; rotate_left; (focus (intro ρ w hS hF hP; (try dsimp only at hS); go_split_ands; go_simp; try with_reducible rfl)); (simp only [Act.put, List.setIfInBounds_toArray, List.set_cons_zero, List.set_cons_succ])))
        (refine nsettle_known (FSl 1 1 [.string nm]) (by rfl) (by rfl) (by rfl) (fun _ => by rfl)  ?_ ?_; (focus (intro ρ w hS hF hP K hK; (simp only [Act.put, List.setIfInBounds_toArray, List.set_cons_zero, List.set_cons_succ] at hK); go_simp; exact hK _ _ (SlV.lit w [.string nm] 9 1 1 rfl (by decide)) (keepS _ (hS.1.alloc _)) (below_alloc (Below.refl _ _) _))); (simp only [Act.put, List.setIfInBounds_toArray, List.set_cons_zero, List.set_cons_succ]))
        (refine nsettle_mark (FPush w1 B 9 1 (.slice VB bd'.length cb) (bd'.length + 1) (strs bd' ++ [.string nm])) (by rfl) (by rfl) (by rfl) (fun _ => by rfl) ?_ ?_; (focus (intro ρ w hS hF hP K hK; refine oper_append (.tmp 25) (.tmp 28) B _ _ _ _ _ Tryd.underlying117 info_str rfl (by decide) (hR w (hP (by rfl))).1 (hF.1 (by rfl)) (strs_one [nm]) hn63 hn47 (hR w (hP (by rfl))).2 rfl rfl rfl ?_; intro v' w' hown hg hv _; exact hK v' w' ⟨w, hP (by rfl), hg, hown, hv.imp id fun e => ⟨_, Nat.le_refl _, e⟩⟩ (keepS _ (hS.1.trans ((Keeps.of_grown hg).mono fun i hi => hi.symm))))); (simp only [Act.put, List.setIfInBounds_toArray, List.set_cons_zero, List.set_cons_succ]))
        repeat (first | (refine nsettle_skip (by rfl) (fun _ => by rfl) ?_; (simp only [Act.put, List.setIfInBounds_toArray, List.set_cons_zero, List.set_cons_succ])) | (refine' nsettle_run (by rfl) (fun _ _ => Below.refl _ _) (fun _ => by rfl) ?_ ?_; rotate_left; (focus (intro ρ w hS hF hP; (try dsimp only at hS); go_split_ands; go_simp; try with_reducible rfl)); (simp only [Act.put, List.setIfInBounds_toArray, List.set_cons_zero, List.set_cons_succ])))
        refine nsettle_nil ?_
        intro ρ w4 hS hF
        obtain ⟨wa, ha1, ha2, ha3, ha4⟩ := hF 29 (FPush w1 B 9 1 (.slice VB bd'.length cb) (bd'.length + 1) (strs bd' ++ [.string nm])) (by repeat (first | exact List.mem_cons_self | apply List.mem_cons_of_mem))
        clear hF hS hS1 keepS hR
        dsimp only
        generalize ρ 29 = v4 at ha3 ha4 ⊢
        have hB4 := ((HT.out.own.later ha1).put (i := 0) (r := strRw (.slice VB bd'.length cb) bd') rfl (n' := (bd' ++ [nm]).length) (xs' := strs (bd' ++ [nm])) (by simpa [strs, strRw] using ha3) ha2 ha4).1
        have hend : ∀ w5, Blk w5 g 210 [v4, vfw1] → w4.grownBy w5 (some g) → WkTo B W0 (WkT g vb' bd' vf' fs') w5 g v4 (bd' ++ [nm]) vfw1 (Sr.use bd' fs' ea) := fun w5 b5 g5 =>
          (HT.out.later ha1).step ((HT.out.own.later ha1).put_to (i := 0) (r := strRw (.slice VB bd'.length cb) bd') rfl (n' := (bd' ++ [nm]).length) (xs' := strs (bd' ++ [nm])) (by simpa [strs, strRw] using ha3) ha2 ha4 b5 g5)
        obtain ⟨V4, c4, rfl, -, -⟩ := own_slice ha3
        clear ha1 ha2 ha3 ha4
        go_wp2_with (first | (refine wpl_set_blk hB4 0 _ (by kernel_rfl) (by simp) rfl rfl rfl rfl rfl rfl ?_; intro w5 hB5 hg5; have Tw5 := hend w5 hB5 hg5; clear hB4 hB5 hg5 hend) | fail)
        have TE := (HW.out.later hbA).step Tw5
        have HE := Lib.hid TE
        clear TE Tw5 hbA
        try go_wp2_with fail
        go_roundw
        case rel => exact ⟨k + 1, rest, _, _, _, _, by omega, by go_num, by rw [show n - (k + 1) = n - k - 1 by omega]; exact hPR.out, HE.out, by rw [← HQ.out.1]; simp [Sr.bda, Ex.ba_data], by rw [← HQ.out.2.1]; simp [Sr.fr, Ex.ba_data], by have := HQ.out; omega, by have := HQ.out.2.2.2.2.1; rw [St.P.size] at this; first | omega | (simp only [List.length_append, List.length_singleton]; omega), by have := HQ.out.2.2.2.2.2.1; rw [St.P.size] at this; omega⟩
        case measure => simp [intOf]; omega
      · go_wp2_with fail
        generalize (wr.alloc (.cells #[.int .i64 3, .string nm, .int .i64 ak, .int .i64 an, .string sa, .slice aA al ac, .int .i64 bk, .int .i64 bn, .string sb, .slice bA bl bc, .slice D dl dc, .slice E el ec] 40)) = W0 at hbA hX T0 hWs ⊢
        rw [← hQQ.out]
        clear c0 c1 c2 c3 c4 c5 c6 c7 c8 c9 c10 c11
        obtain ⟨c0, c1, c2, c3, c4, c5, c6, c7, c8, c9, c10, c11⟩ := hX.cells _ T0.kp
        obtain ⟨xa, xb, pb, pe⟩ := hX.read _ T0.kp
        refine (uses_any ea B _ g _ _ _ _ _ T0.own xa (by have := HQ.out; omega) (by have := HQ.out; omega)).mono ?_
        rintro r w1 ⟨rfl, vbw1, vfw1, hw1⟩
        have Tw1 := T0.step hw1
        have Uw1 := Sr.use_length bd' fs' ea
        clear hw1
        obtain ⟨c0, c1, c2, c3, c4, c5, c6, c7, c8, c9, c10, c11⟩ := hX.cells _ Tw1.kp
        obtain ⟨xa, xb, pb, pe⟩ := hX.read _ Tw1.kp
        clear T0 hWs
        go_wp2_with fail
        refine (uses_any eb B _ g _ _ _ _ _ Tw1.own xb (by have := HQ.out; omega) (by have := HQ.out; omega)).mono ?_
        rintro r w2 ⟨rfl, vbw2, vfw2, hw2⟩
        have Tw2 := Tw1.step hw2
        have Uw2 := Sr.use_length bd' (Sr.use bd' fs' ea) eb
        clear hw2
        clear c0 c1 c2 c3 c4 c5 c6 c7 c8 c9 c10 c11 xa xb pb pe Tw1 hX
        have TE := (HW.out.later hbA).step Tw2
        have HE := Lib.hid TE
        clear TE Tw2 hbA
        try go_wp2_with fail
        go_roundw
        case rel => exact ⟨k + 1, rest, _, _, _, _, by omega, by go_num, by rw [show n - (k + 1) = n - k - 1 by omega]; exact hPR.out, HE.out, by rw [← HQ.out.1]; simp [Sr.bda, Ex.ba_data], by rw [← HQ.out.2.1]; simp [Sr.fr, Ex.ba_data], by have := HQ.out; omega, by have := HQ.out.2.2.2.2.1; rw [St.P.size] at this; first | omega | (simp only [List.length_append, List.length_singleton]; omega), by have := HQ.out.2.2.2.2.2.1; rw [St.P.size] at this; omega⟩
        case measure => simp [intOf]; omega
      · go_wp2_with fail
        generalize (wr.alloc (.cells #[.int .i64 4, .string nm, .int .i64 ak, .int .i64 an, .string sa, .slice aA al ac, .int .i64 bk, .int .i64 bn, .string sb, .slice bA bl bc, .slice D dl dc, .slice E el ec] 40)) = W0 at hbA hX T0 hWs ⊢
        rw [← hQQ.out]
        clear c0 c1 c2 c3 c4 c5 c6 c7 c8 c9 c10 c11
        obtain ⟨c0, c1, c2, c3, c4, c5, c6, c7, c8, c9, c10, c11⟩ := hX.cells _ T0.kp
        obtain ⟨xa, xb, pb, pe⟩ := hX.read _ T0.kp
        refine (sc_within body (ih body (by have := HQ.out; omega)) _ B dl dc g D _ _ (.slice none 0 0) bd' _ [] pb hd1 hd2 T0.own (SlV.nil _ 1) (by have := HQ.out; simp only [List.length_nil, List.length_singleton]; omega) (by have := HQ.out; omega)).mono ?_
        rintro r w1 ⟨rfl, vbw1, vfw1, hw1⟩
        have Tw1 := T0.step hw1
        have Uw1 := Sr.fr_length body (bd' ++ []) fs'
        try rw [List.append_nil] at Tw1 Uw1
        clear hw1
        clear c0 c1 c2 c3 c4 c5 c6 c7 c8 c9 c10 c11 xa xb pb pe T0 hX hWs
        have TE := (HW.out.later hbA).step Tw1
        have HE := Lib.hid TE
        clear TE Tw1 hbA
        try go_wp2_with fail
        go_roundw
        case rel => exact ⟨k + 1, rest, _, _, _, _, by omega, by go_num, by rw [show n - (k + 1) = n - k - 1 by omega]; exact hPR.out, HE.out, by rw [← HQ.out.1]; simp [Sr.bda, Ex.ba_data], by rw [← HQ.out.2.1]; simp [Sr.fr, Ex.ba_data], by have := HQ.out; omega, by have := HQ.out.2.2.2.2.1; rw [St.P.size] at this; first | omega | (simp only [List.length_append, List.length_singleton]; omega), by have := HQ.out.2.2.2.2.2.1; rw [St.P.size] at this; omega⟩
        case measure => simp [intOf]; omega
      · go_wp2_with fail
        generalize (wr.alloc (.cells #[.int .i64 5, .string nm, .int .i64 ak, .int .i64 an, .string sa, .slice aA al ac, .int .i64 bk, .int .i64 bn, .string sb, .slice bA bl bc, .slice D dl dc, .slice E el ec] 40)) = W0 at hbA hX T0 hWs ⊢
        rw [← hQQ.out]
        clear c0 c1 c2 c3 c4 c5 c6 c7 c8 c9 c10 c11
        obtain ⟨c0, c1, c2, c3, c4, c5, c6, c7, c8, c9, c10, c11⟩ := hX.cells _ T0.kp
        obtain ⟨xa, xb, pb, pe⟩ := hX.read _ T0.kp
        refine (sc_within body (ih body (by have := HQ.out; omega)) _ B dl dc g D _ _ (.slice none 0 0) bd' _ [] pb hd1 hd2 T0.own (SlV.nil _ 1) (by have := HQ.out; simp only [List.length_nil, List.length_singleton]; omega) (by have := HQ.out; omega)).mono ?_
        rintro r w1 ⟨rfl, vbw1, vfw1, hw1⟩
        have Tw1 := T0.step hw1
        have Uw1 := Sr.fr_length body (bd' ++ []) fs'
        try rw [List.append_nil] at Tw1 Uw1
        clear hw1
        clear c0 c1 c2 c3 c4 c5 c6 c7 c8 c9 c10 c11 xa xb pb pe T0 hX hWs
        have TE := (HW.out.later hbA).step Tw1
        have HE := Lib.hid TE
        clear TE Tw1 hbA
        try go_wp2_with fail
        go_roundw
        case rel => exact ⟨k + 1, rest, _, _, _, _, by omega, by go_num, by rw [show n - (k + 1) = n - k - 1 by omega]; exact hPR.out, HE.out, by rw [← HQ.out.1]; simp [Sr.bda, Ex.ba_data], by rw [← HQ.out.2.1]; simp [Sr.fr, Ex.ba_data], by have := HQ.out; omega, by have := HQ.out.2.2.2.2.1; rw [St.P.size] at this; first | omega | (simp only [List.length_append, List.length_singleton]; omega), by have := HQ.out.2.2.2.2.2.1; rw [St.P.size] at this; omega⟩
        case measure => simp [intOf]; omega
      · go_wp2_with fail
        generalize (wr.alloc (.cells #[.int .i64 6, .string nm, .int .i64 ak, .int .i64 an, .string sa, .slice aA al ac, .int .i64 bk, .int .i64 bn, .string sb, .slice bA bl bc, .slice D dl dc, .slice E el ec] 40)) = W0 at hbA hX T0 hWs ⊢
        rw [← hQQ.out]
        clear c0 c1 c2 c3 c4 c5 c6 c7 c8 c9 c10 c11
        obtain ⟨c0, c1, c2, c3, c4, c5, c6, c7, c8, c9, c10, c11⟩ := hX.cells _ T0.kp
        obtain ⟨xa, xb, pb, pe⟩ := hX.read _ T0.kp
        refine (uses_any ea B _ g _ _ _ _ _ T0.own xa (by have := HQ.out; omega) (by have := HQ.out; omega)).mono ?_
        rintro r w1 ⟨rfl, vbw1, vfw1, hw1⟩
        have Tw1 := T0.step hw1
        have Uw1 := Sr.use_length bd' fs' ea
        clear hw1
        obtain ⟨c0, c1, c2, c3, c4, c5, c6, c7, c8, c9, c10, c11⟩ := hX.cells _ Tw1.kp
        obtain ⟨xa, xb, pb, pe⟩ := hX.read _ Tw1.kp
        clear T0 hWs
        go_wp2_with fail
        refine (sc_within body (ih body (by have := HQ.out; omega)) _ B dl dc g D _ _ (.slice none 0 0) bd' _ [] pb hd1 hd2 Tw1.own (SlV.nil _ 1) (by have := HQ.out; simp only [List.length_nil, List.length_singleton]; omega) (by have := HQ.out; omega)).mono ?_
        rintro r w2 ⟨rfl, vbw2, vfw2, hw2⟩
        have Tw2 := Tw1.step hw2
        have Uw2 := Sr.fr_length body (bd' ++ []) (Sr.use bd' fs' ea)
        try rw [List.append_nil] at Tw2 Uw2
        clear hw2
        obtain ⟨c0, c1, c2, c3, c4, c5, c6, c7, c8, c9, c10, c11⟩ := hX.cells _ Tw2.kp
        obtain ⟨xa, xb, pb, pe⟩ := hX.read _ Tw2.kp
        clear Tw1
        go_wp2_with fail
        refine (sc_within els (ih els (by have := HQ.out; omega)) _ B el ec g E _ _ (.slice none 0 0) bd' _ [] pe he1 he2 Tw2.own (SlV.nil _ 1) (by have := HQ.out; simp only [List.length_nil, List.length_singleton]; omega) (by have := HQ.out; omega)).mono ?_
        rintro r w3 ⟨rfl, vbw3, vfw3, hw3⟩
        have Tw3 := Tw2.step hw3
        have Uw3 := Sr.fr_length els (bd' ++ []) (Sr.fr body bd' (Sr.use bd' fs' ea))
        try rw [List.append_nil] at Tw3 Uw3
        clear hw3
        clear c0 c1 c2 c3 c4 c5 c6 c7 c8 c9 c10 c11 xa xb pb pe Tw2 hX
        have TE := (HW.out.later hbA).step Tw3
        have HE := Lib.hid TE
        clear TE Tw3 hbA
        try go_wp2_with fail
        go_roundw
        case rel => exact ⟨k + 1, rest, _, _, _, _, by omega, by go_num, by rw [show n - (k + 1) = n - k - 1 by omega]; exact hPR.out, HE.out, by rw [← HQ.out.1]; simp [Sr.bda, Ex.ba_data], by rw [← HQ.out.2.1]; simp [Sr.fr, Ex.ba_data], by have := HQ.out; omega, by have := HQ.out.2.2.2.2.1; rw [St.P.size] at this; first | omega | (simp only [List.length_append, List.length_singleton]; omega), by have := HQ.out.2.2.2.2.2.1; rw [St.P.size] at this; omega⟩
        case measure => simp [intOf]; omega
      · go_wp2_with fail
        generalize (wr.alloc (.cells #[.int .i64 7, .string nm, .int .i64 ak, .int .i64 an, .string sa, .slice aA al ac, .int .i64 bk, .int .i64 bn, .string sb, .slice bA bl bc, .slice D dl dc, .slice E el ec] 40)) = W0 at hbA hX T0 hWs ⊢
        rw [← hQQ.out]
        clear c0 c1 c2 c3 c4 c5 c6 c7 c8 c9 c10 c11
        obtain ⟨c0, c1, c2, c3, c4, c5, c6, c7, c8, c9, c10, c11⟩ := hX.cells _ T0.kp
        obtain ⟨xa, xb, pb, pe⟩ := hX.read _ T0.kp
        refine (uses_any ea B _ g _ _ _ _ _ T0.own xa (by have := HQ.out; omega) (by have := HQ.out; omega)).mono ?_
        rintro r w1 ⟨rfl, vbw1, vfw1, hw1⟩
        have Tw1 := T0.step hw1
        have Uw1 := Sr.use_length bd' fs' ea
        clear hw1
        obtain ⟨c0, c1, c2, c3, c4, c5, c6, c7, c8, c9, c10, c11⟩ := hX.cells _ Tw1.kp
        obtain ⟨xa, xb, pb, pe⟩ := hX.read _ Tw1.kp
        clear T0 hWs
        go_wp2_with fail
        refine (uses_any eb B _ g _ _ _ _ _ Tw1.own xb (by have := HQ.out; omega) (by have := HQ.out; omega)).mono ?_
        rintro r w2 ⟨rfl, vbw2, vfw2, hw2⟩
        have Tw2 := Tw1.step hw2
        have Uw2 := Sr.use_length bd' (Sr.use bd' fs' ea) eb
        clear hw2
        obtain ⟨c0, c1, c2, c3, c4, c5, c6, c7, c8, c9, c10, c11⟩ := hX.cells _ Tw2.kp
        obtain ⟨xa, xb, pb, pe⟩ := hX.read _ Tw2.kp
        clear Tw1
        have TA := Tw2.later (below_alloc (Below.refl _ _) (.cells #[.string nm] 9))
        have hm := SlV.lit w2 [.string nm] 9 1 1 rfl (by decide)
        obtain ⟨-, -, pb', -⟩ := hX.read _ TA.kp
        go_wp2_with fail
        refine (sc_within body (ih body (by have := HQ.out; omega)) _ B dl dc g D _ _ _ bd' _ [nm] pb' hd1 hd2 TA.own hm (by have := HQ.out; simp only [List.length_nil, List.length_singleton]; omega) (by have := HQ.out; omega)).mono ?_
        rintro r w3 ⟨rfl, vbw3, vfw3, hw3⟩
        have Tw3 := TA.step hw3
        have Uw3 := Sr.fr_length body (bd' ++ [nm]) (Sr.use bd' (Sr.use bd' fs' ea) eb)
        try rw [List.append_nil] at Tw3 Uw3
        clear hw3
        clear c0 c1 c2 c3 c4 c5 c6 c7 c8 c9 c10 c11 xa xb pb pe pb' hm TA Tw2 hX
        have TE := (HW.out.later hbA).step Tw3
        have HE := Lib.hid TE
        clear TE Tw3 hbA
        try go_wp2_with fail
        go_roundw
        case rel => exact ⟨k + 1, rest, _, _, _, _, by omega, by go_num, by rw [show n - (k + 1) = n - k - 1 by omega]; exact hPR.out, HE.out, by rw [← HQ.out.1]; simp [Sr.bda, Ex.ba_data], by rw [← HQ.out.2.1]; simp [Sr.fr, Ex.ba_data], by have := HQ.out; omega, by have := HQ.out.2.2.2.2.1; rw [St.P.size] at this; first | omega | (simp only [List.length_append, List.length_singleton]; omega), by have := HQ.out.2.2.2.2.2.1; rw [St.P.size] at this; omega⟩
        case measure => simp [intOf]; omega
      · have K := Lib.hid (show kd ≠ 1 ∧ kd ≠ 2 ∧ kd ≠ 3 ∧ kd ≠ 4 ∧ kd ≠ 5 ∧ kd ≠ 6 ∧ kd ≠ 7 by simp at k1 k2 k3 k4 k5 k6 k7; omega)
        go_wp2_with fail
        generalize (wr.alloc (.cells #[.int .i64 kd, .string nm, .int .i64 ak, .int .i64 an, .string sa, .slice aA al ac, .int .i64 bk, .int .i64 bn, .string sb, .slice bA bl bc, .slice D dl dc, .slice E el ec] 40)) = W0 at hbA hX T0 hWs ⊢
        clear c0 c1 c2 c3 c4 c5 c6 c7 c8 c9 c10 c11 k1 k2 k3 k4 k5 k6 k7
        have TE := (HW.out.later hbA).step T0
        have HE := Lib.hid TE
        clear TE T0 hbA
        try go_wp2_with fail
        go_roundw
        case rel => exact ⟨k + 1, rest, _, _, _, _, by omega, by go_num, by rw [show n - (k + 1) = n - k - 1 by omega]; exact hPR.out, HE.out, by rw [← HQ.out.1]; simp [Sr.bda, Ex.ba_data, K.out], by rw [← HQ.out.2.1]; simp [Sr.fr, Ex.ba_data, K.out], by have := HQ.out; omega, by have := HQ.out.2.2.2.2.1; rw [St.P.size] at this; first | omega | (simp only [List.length_append, List.length_singleton]; omega), by have := HQ.out.2.2.2.2.2.1; rw [St.P.size] at this; omega⟩
        case measure => simp [intOf]; omega
    · obtain rfl : k = n := by omega
      rw [Nat.sub_self] at hq
      have hq' := hq.zero
      subst hq'
      go_wp2_with fail
      go_end0
      exact ⟨rfl, vb', vf', by rw [← hbda, ← hfr]; exact hW⟩
theorem stmts_any (p : St.P) : StmtsOK p := by
  suffices h : ∀ n, ∀ q : St.P, q.size ≤ n → StmtsOK q from h _ p (Nat.le_refl _)
  intro n
  induction n with
  | zero => exact fun q hq => stmts_step q fun r hr => by omega
  | succ n ih => exact fun q hq => stmts_step q fun r hr => ih r (by omega)

/-- **scope.Free** -/
theorem free_any (p : St.P) (w : World) (B n c : Nat) (A : Option Addr) (hB : B ≤ w.heap.size) (hp : PR B w A n p) (hnc : n ≤ c) (hc : c ≤ maxLen) (hsz : p.size ≤ 549755813888) :
    Calls Tryd.prog 108 #[.slice A n c] w fun e w' => ∃ v, e = .returned v ∧ w'.ownsRow w.heap.size 9 1 v (Sr.free p).length (strs (Sr.free p)) ∧ Below w.heap.size w w' := by
  have hb0 : Below w.heap.size w (w.alloc (.cells #[.slice none 0 0, .slice none 0 0] 210)) := below_alloc (Below.refl _ _) _
  have hO : WkO w.heap.size (w.alloc (.cells #[.slice none 0 0, .slice none 0 0] 210)) w.heap.size (.slice none 0 0) [] (.slice none 0 0) [] := by
    refine ⟨Blk.new w 210 [.slice none 0 0, .slice none 0 0], fun r hr => ?_, fun i j r s hr hs hij k hk => ?_, fun r hr => ?_, by simp, Nat.le_refl _⟩
    · simp [strRw] at hr
      subst hr
      exact World.ownsRow_nil _ _ _ _
    · match i, hr with
      | 0, hr => injection hr with hr; subst hr; cases hk
      | 1, hr => injection hr with hr; subst hr; cases hk
    · simp [strRw] at hr
      subst hr
      simp [Value.ownBlock]
  have hs := stmts_any p _ w.heap.size n c w.heap.size A (.slice none 0 0) (.slice none 0 0) [] [] ((hp.later (hb0.mono hB)).up hB) hnc hc hO (by simpa using hsz) (by simpa using hsz)
  clear hO hp
  go_enter Tryd.func108, Tryd.ntmps108
  go_wp2_with fail
  refine hs.mono ?_
  rintro e w1 ⟨rfl, vb1, vf1, hT⟩
  have c1 : w1.cell? ⟨w.heap.size, 1, none⟩ = some vf1 := (hT.own.blk.cell 1).trans rfl
  have r1 : w1.ownsRow w.heap.size 9 1 vf1 (Sr.fr p [] []).length (strs (Sr.fr p [] [])) := hT.own.row 1 rfl
  have hb : Below w.heap.size w w1 := hb0.trans (hT.kp.below (by simp) (fun i hi => hi.elim (fun e => by omega) (fun ⟨r, hr, e⟩ => by simp [strRw] at hr; subst hr; cases e)))
  obtain ⟨V, cV, rfl, -, -⟩ := own_slice r1
  have HR := Lib.hid (And.intro r1 hb)
  clear hs hT r1 hb hb0
  go_wp2
  go_ret
  exact ⟨_, rfl, HR.out⟩
end Go.Proofs.YtkjmddgnfgbioaaDoor


namespace Go.Proofs.YtkjmddgnfgbioaaDoor
set_option linter.unusedVariables false
set_option linter.unusedSimpArgs false
set_option maxRecDepth 100000
open Go.RowKit

/-- bindings in memory, that the runner does not turn -/
structure EnvAt (w : World) (T : Nat → Prop) (ve : Value) (zs : List Ex.Bd) : Prop where
  sl : SlV w 2 ve zs.length (Ex.bindcs zs)
  lt : ∀ i, ve.ownBlock = some i → i < w.heap.size
  off : ∀ i, ve.ownBlock = some i → ¬ T i
  rg : ∀ z ∈ zs, Ex.rng z.2
theorem EnvAt.step {w w' : World} {T T' : Nat → Prop} {ve : Value} {zs : List Ex.Bd} (h : EnvAt w T ve zs) (k : Keeps T w w') (nw : ∀ i, T' i → T i ∨ w.heap.size ≤ i) : EnvAt w' T' ve zs := by
  refine ⟨?_, fun i hi => Nat.lt_of_lt_of_le (h.lt i hi) k.size, fun i hi ht => ?_, h.rg⟩
  · obtain ⟨A, c, rfl, h1, h2, h3, h4⟩ := h.sl
    refine ⟨A, c, rfl, h1, h2, h3, ?_⟩
    by_cases hne : Ex.bindcs zs = []
    · rw [hne]; exact Cells.nil _ _ _
    · obtain ⟨b, o, rfl, hb, hc⟩ := h4.at_ hne
      exact ⟨b, o, fun _ => ⟨rfl, Nat.lt_of_lt_of_le hb k.size⟩, fun j u hu => k.cell (hc j u hu) (h.off b rfl)⟩
  · rcases nw i ht with h1 | h1
    · exact h.off i hi h1
    · have := h.lt i hi
      omega
theorem EnvAt.later {w w' : World} {T : Nat → Prop} {ve : Value} {zs : List Ex.Bd} (h : EnvAt w T ve zs) (hb : Below w.heap.size w w') : EnvAt w' T ve zs :=
  h.step (Keeps.of_below hb T) fun i hi => .inl hi
theorem EnvAt.addr {w : World} {T : Nat → Prop} {A : Option Addr} {n c : Nat} {zs : List Ex.Bd} (h : EnvAt w T (.slice A n c) zs) : n = zs.length ∧ n ≤ c ∧ c ≤ maxLen ∧ (A = none → n = 0) := by
  obtain ⟨A', c', he, h1, h2, h3, h4⟩ := h.sl
  injection he with e1 e2 e3
  subst e1 e2 e3
  refine ⟨rfl, h1, h2, fun hA => ?_⟩
  subst hA
  apply Classical.byContradiction
  intro h0
  have hz : Ex.bindcs zs ≠ [] := fun e => h0 (by rw [Ex.bindcs_length] at h3; have : (Ex.bindcs zs).length = 0 := by rw [e]; rfl
                                                 rw [Ex.bindcs_length] at this; omega)
  obtain ⟨_, _, h, _⟩ := h4.at_ hz
  cases h
theorem EnvAt.rng {w : World} {T : Nat → Prop} {ve : Value} {zs : List Ex.Bd} (h : EnvAt w T ve zs) : ∀ b ∈ Ex.bs zs, Ex.rng b.2 := fun b hb => by
  obtain ⟨z, hz, rfl⟩ := List.mem_map.1 hb
  exact h.rg z hz
theorem bs_snoc (zs : List Ex.Bd) (z : Ex.Bd) : Ex.bs (zs ++ [z]) = Ex.bs zs ++ [(z.1.data.toList, z.2)] := by simp [Ex.bs]
/-- one binding more, in a row of its own -/
theorem EnvAt.grown {w w' : World} {T : Nat → Prop} {ve v' : Value} {zs : List Ex.Bd} (h : EnvAt w T ve zs) {z : Ex.Bd} (hz : Ex.rng z.2) (hT : ∀ i, T i → i < w.heap.size)
    (hown : w'.ownsRow w.heap.size 203 2 v' (zs.length + 1) (Ex.bindcs zs ++ Ex.bindc z)) : EnvAt w' T v' (zs ++ [z]) := by
  refine ⟨?_, fun i hi => (hown.lt i hi).2, fun i hi ht => ?_, fun x hx => ?_⟩
  · have := SlV.of_own hown
    simpa [Ex.bindcs] using this
  · have := hT i ht
    have := (hown.lt i hi).1
    omega
  · rcases List.mem_append.1 hx with hx | hx
    · exact h.rg x hx
    · rw [List.mem_singleton.1 hx]; exact hz

/-- a run goes on, or ends for lack of fuel -/
def RnEnd (B : Nat) (w : World) (T : Nat → Prop) (g F : Nat) (m : Sr.M) : Ending → World → Prop := fun e w' =>
  (m.steps ≤ F ∧ e = .returned (.tuple #[]) ∧ ∃ vt, RuTo B w T w' g F m vt) ∨ (F < m.steps ∧ e = .panicked spent ∧ Keeps T w w')
def BlockOK (p : St.P) : Prop := ∀ (w : World) (B n c g F : Nat) (A : Option Addr) (vt ve : Value) (m : Sr.M) (zs : List Ex.Bd) (l : Nat), PR B w A n p → n ≤ c → c ≤ maxLen → RuO B w g F m vt → Sr.Fit F m → F ≤ 2000 → EnvAt w (RuT g m vt) ve zs →
  zs.length + p.size ≤ 549755813888 → l + p.size ≤ 576460752303423488 →
  Calls Tryd.prog 104 #[.pointer (some ⟨g, 0, none⟩), .slice A n c, ve, .int .i64 (l : Int)] w (RnEnd B w (RuT g m vt) g F (Sr.run p (Ex.bs zs) l m))

theorem bindc_one (z : Ex.Bd) : ∀ u ∈ Ex.bindc z, u.oneCell' = true := by
  intro u hu
  rcases List.mem_cons.1 hu with rfl | hu
  · rfl
  · rcases List.mem_singleton.1 hu with rfl
    rfl
theorem info_bnd : (Tryd.prog.info? 203).map (fun i => (i.zero, i.size, i.bytes)) = some (some (.agg #[.string ⟨#[]⟩, .int .i64 0]), 2, 24) := by kernel_rfl

set_option maxHeartbeats 2000000 in
theorem loop_any (body : St.P) (ih : BlockOK body) (w : World) (B g F : Nat) (vt ve : Value) (m : Sr.M) (zs : List Ex.Bd) (l : Nat) (kd : Int) (nm : ByteArray) (ak an : Int) (sa : ByteArray) (aA : Option Addr) (al ac : Nat) (bk bn : Int) (sb : ByteArray) (bA : Option Addr) (bl bc : Nat) (D : Option Addr) (dl dc : Nat) (E : Option Addr) (el ec : Nat) (ea eb : Ex.X) (els : St.P)
    (xa : XR B w (xcells ak an sa aA al ac) ea) (xb : XR B w (xcells bk bn sb bA bl bc) eb) (pb : PR B w D dl body) (pe : PR B w E el els) (hd1 : dl ≤ dc) (hd2 : dc ≤ maxLen)
    (hO : RuO B w g F m vt) (hf : Sr.Fit F m) (hF : F ≤ 2000) (hv : EnvAt w (RuT g m vt) ve zs) (hz : zs.length + 1 + body.size ≤ 549755813888) (hl : l + body.size ≤ 576460752303423488) :
    Calls Tryd.prog 139 #[.pointer (some ⟨g, 0, none⟩), .agg (stcells kd nm (xcells ak an sa aA al ac) (xcells bk bn sb bA bl bc) D dl dc E el ec).toArray, ve, .int .i64 (l : Int)] w
      (RnEnd B w (RuT g m vt) g F (Sr.iter (Ex.evl (Ex.bs zs) eb - Ex.evl (Ex.bs zs) ea).toNat (Ex.evl (Ex.bs zs) ea) (fun i m => Sr.run body (Ex.bs zs ++ [(nm.data.toList, i)]) l m.step) m)) := by
  obtain ⟨VE, ce, rfl, -⟩ := hv.sl
  obtain ⟨-, hce1, hce2, hce3⟩ := hv.addr
  obtain ⟨Q, hQq⟩ : ∃ Q, Q = w.heap.size := ⟨_, rfl⟩
  have hbA : Below w.heap.size w (w.alloc (.cells (stcells kd nm (xcells ak an sa aA al ac) (xcells bk bn sb bA bl bc) D dl dc E el ec).toArray 40)) := below_alloc (Below.refl _ _) _
  have hX : StBox B Q (w.alloc (.cells (stcells kd nm (xcells ak an sa aA al ac) (xcells bk bn sb bA bl bc) D dl dc E el ec).toArray 40)) (RuT g m vt) kd nm ak an sa aA al ac bk bn sb bA bl bc D dl dc E el ec ea eb body els := by
    refine StBox.of (t := 40) hbA hO.base (fun i hi => hO.ge hi) (fun h => by have := hO.lt h; omega) ?_ xa xb pb pe
    rw [hQq]
    exact Blk.new _ _ _
  have T0 : RuTo B (w.alloc (.cells (stcells kd nm (xcells ak an sa aA al ac) (xcells bk bn sb bA bl bc) D dl dc E el ec).toArray 40)) (RuT g m vt) (w.alloc (.cells (stcells kd nm (xcells ak an sa aA al ac) (xcells bk bn sb bA bl bc) D dl dc E el ec).toArray 40)) g F m vt := OwnTo.start (hO.later hbA)
  have hv0 := hv.later hbA
  have hra := Ex.evl_rng _ hv.rng _ xa.ok
  have hrb := Ex.evl_rng _ hv.rng _ xb.ok
  have hpk := pb.ok
  obtain ⟨a, ha⟩ : ∃ a, a = Ex.evl (Ex.bs zs) ea := ⟨_, rfl⟩
  obtain ⟨b, hb⟩ : ∃ b, b = Ex.evl (Ex.bs zs) eb := ⟨_, rfl⟩
  obtain ⟨f, hfq⟩ : ∃ f, f = (fun (i : Int) (m : Sr.M) => Sr.run body (Ex.bs zs ++ [(nm.data.toList, i)]) l m.step) := ⟨_, rfl⟩
  have hon : ∀ i m, Sr.On m (f i m) := fun i m => by rw [hfq]; exact (Sr.On.step m).trans (Sr.run_on _ _ _ _)
  have hrn : ∀ i m, Ex.rng i → (∀ x ∈ m.heap, Ex.rng x) → ∀ x ∈ (f i m).heap, Ex.rng x := fun i m hi hm => by
    rw [hfq]
    exact Sr.run_rng body _ _ _ hpk (Sr.env_snoc hv0.rng _ hi) hm
  rw [← ha, ← hb, ← hfq]
  rw [← ha] at hra
  rw [← hb] at hrb
  have HA := Lib.hid (And.intro ha (And.intro hb hfq))
  obtain ⟨R, hR⟩ : ∃ R, R = Sr.iter (b - a).toNat a f m := ⟨_, rfl⟩
  rw [← hR]
  have HR := Lib.hid (And.intro hR (And.intro hon hrn))
  clear ha hb hfq hR hon hrn
  have hQQ := Lib.hid hQq
  have HO := Lib.hid (And.intro hO (And.intro hf hv))
  unfold stcells xcells at hbA hX T0 hv0 ⊢
  simp only [List.cons_append, List.nil_append] at hbA hX T0 hv0 ⊢
  clear xa xb pb pe hO hf hv hQq
  go_enter Tryd.func139, Tryd.ntmps139
  go_wp2_with fail
  generalize (w.alloc (.cells #[.int .i64 kd, .string nm, .int .i64 ak, .int .i64 an, .string sa, .slice aA al ac, .int .i64 bk, .int .i64 bn, .string sb, .slice bA bl bc, .slice D dl dc, .slice E el ec] 40)) = W0 at hbA hX T0 hv0 ⊢
  rw [← hQQ.out]
  have gE : ∀ (w' : World) (ck cn : Int) (sc : ByteArray) (cA : Option Addr) (cl cc : Nat) (x : Ex.X) (y : Int), y = Ex.evl (Ex.bs zs) x → Below W0.heap.size W0 w' → XR B w' (xcells ck cn sc cA cl cc) x → Calls Tryd.prog 112 #[.agg #[.int .i64 ck, .int .i64 cn, .string sc, .slice cA cl cc], .slice VE zs.length ce] w' fun r w'' => r = .returned (.int .i64 y) ∧ Below w'.heap.size w' w'' := fun w' ck cn sc cA cl cc x y hy hb hx => by
    rw [hy]
    exact eval_ok (.slice VE zs.length ce) zs (by omega) x w' _ (hx.up (T0.later hb).own.base) (hv0.later hb).sl
  have keepS : ∀ w', Below W0.heap.size W0 w' → (Below W0.heap.size W0 w' ∧ w'.cell? ⟨Q, 2, none⟩ = some (.int .i64 ak) ∧ w'.cell? ⟨Q, 3, none⟩ = some (.int .i64 an) ∧ w'.cell? ⟨Q, 4, none⟩ = some (.string sa) ∧ w'.cell? ⟨Q, 5, none⟩ = some (.slice aA al ac) ∧
    w'.cell? ⟨Q, 6, none⟩ = some (.int .i64 bk) ∧ w'.cell? ⟨Q, 7, none⟩ = some (.int .i64 bn) ∧ w'.cell? ⟨Q, 8, none⟩ = some (.string sb) ∧ w'.cell? ⟨Q, 9, none⟩ = some (.slice bA bl bc)) := fun w' hb => by
    obtain ⟨c0, c1, c2, c3, c4, c5, c6, c7, c8, c9, c10, c11⟩ := hX.cells w' (Keeps.of_below hb _)
    exact ⟨hb, c2, c3, c4, c5, c6, c7, c8, c9⟩
  have gX : ∀ w', Below W0.heap.size W0 w' → XR B w' (xcells ak an sa aA al ac) ea ∧ XR B w' (xcells bk bn sb bA bl bc) eb := fun w' hb => ⟨(hX.read w' (Keeps.of_below hb _)).1, (hX.read w' (Keeps.of_below hb _)).2.1⟩
  have hS0 := keepS _ (below_drew (Below.refl _ _))
  refine wp_walk (by kernel_rfl) (by kernel_rfl) (fun w w' => Below w.heap.size w w') (fun w' => (Below W0.heap.size W0 w' ∧ w'.cell? ⟨Q, 2, none⟩ = some (.int .i64 ak) ∧ w'.cell? ⟨Q, 3, none⟩ = some (.int .i64 an) ∧ w'.cell? ⟨Q, 4, none⟩ = some (.string sa) ∧ w'.cell? ⟨Q, 5, none⟩ = some (.slice aA al ac) ∧ w'.cell? ⟨Q, 6, none⟩ = some (.int .i64 bk) ∧ w'.cell? ⟨Q, 7, none⟩ = some (.int .i64 bn) ∧ w'.cell? ⟨Q, 8, none⟩ = some (.string sb) ∧ w'.cell? ⟨Q, 9, none⟩ = some (.slice bA bl bc))) hS0 ?_
  repeat (first | (refine settle_skip (fun _ => by rfl) ?_; (simp only [Act.put, List.setIfInBounds_toArray, List.set_cons_zero, List.set_cons_succ])) | (refine' settle_run (fun _ _ => Below.refl _ _) (fun _ => by rfl) ?_ ?_; rotate_left; (focus (intro ρ w hS hF; (try dsimp only at hS); go_split_ands; go_simp; try with_reducible rfl)); (simp only [Act.put, List.setIfInBounds_toArray, List.set_cons_zero, List.set_cons_succ])))
  (refine' settle_step (fun _ => by rfl) ?_ ?_; rotate_left; (focus (intro ρ w hS hF K hK; (simp only [Act.put, List.setIfInBounds_toArray, List.set_cons_zero, List.set_cons_succ] at hK); go_simp; (refine (gE _ _ _ _ _ _ _ _ a HA.out.1 hS.1 (gX _ hS.1).1).mono ?_; rintro e w' ⟨rfl, hb'⟩; have hS' := keepS _ (below_next hb' hS.1); have hE' := hb'); exact hK _ hS' hE')); (simp only [Act.put, List.setIfInBounds_toArray, List.set_cons_zero, List.set_cons_succ]))
  repeat (first | (refine settle_skip (fun _ => by rfl) ?_; (simp only [Act.put, List.setIfInBounds_toArray, List.set_cons_zero, List.set_cons_succ])) | (refine' settle_run (fun _ _ => Below.refl _ _) (fun _ => by rfl) ?_ ?_; rotate_left; (focus (intro ρ w hS hF; (try dsimp only at hS); go_split_ands; go_simp; try with_reducible rfl)); (simp only [Act.put, List.setIfInBounds_toArray, List.set_cons_zero, List.set_cons_succ])))
  (refine' settle_step (fun _ => by rfl) ?_ ?_; rotate_left; (focus (intro ρ w hS hF K hK; (simp only [Act.put, List.setIfInBounds_toArray, List.set_cons_zero, List.set_cons_succ] at hK); go_simp; (refine (gE _ _ _ _ _ _ _ _ b HA.out.2.1 hS.1 (gX _ hS.1).2).mono ?_; rintro e w' ⟨rfl, hb'⟩; have hS' := keepS _ (below_next hb' hS.1); have hE' := hb'); exact hK _ hS' hE')); (simp only [Act.put, List.setIfInBounds_toArray, List.set_cons_zero, List.set_cons_succ]))
  repeat (first | (refine settle_skip (fun _ => by rfl) ?_; (simp only [Act.put, List.setIfInBounds_toArray, List.set_cons_zero, List.set_cons_succ])) | (refine' settle_run (fun _ _ => Below.refl _ _) (fun _ => by rfl) ?_ ?_; rotate_left; (focus (intro ρ w hS hF; (try dsimp only at hS); go_split_ands; go_simp; try with_reducible rfl)); (simp only [Act.put, List.setIfInBounds_toArray, List.set_cons_zero, List.set_cons_succ])))
  refine settle_nil ?_
  intro ρ w4 hS hF
  have T4 := T0.later hS.1
  have hfit := HO.out.2.1
  have HB := Lib.hid (And.intro hbA (And.intro hv0 hX))
  have HE := Lib.hid (And.intro hce1 (And.intro hce2 hce3))
  clear hF hS hS0 keepS gX gE T0 hv0 hX hbA hce1 hce2 hce3
  unfold Ex.rng at hra hrb
  dsimp only
  go_wp2_with fail
  go_loopw [8] (fun v wr => ∃ (i : Int) (mj : Sr.M) (vtj : Value), v = .int .i64 i ∧ a ≤ i ∧ (a = i ∨ i ≤ b) ∧ RuTo B W0 (RuT g m vt) wr g F mj vtj ∧ Sr.Fit F mj ∧ Sr.iter (b - i).toNat i f mj = R) (fun v _ => (b - intOf v).toNat)
  case atStart => exact ⟨a, m, vt, rfl, Int.le_refl _, .inl rfl, T4, hfit, HR.out.1.symm⟩
  case round =>
    clear T4 hfit
    obtain ⟨i, mj, vtj, rfl, hai, hib, hT, hfj, hit⟩ := hrel
    by_cases hlt : i < b
    · have hn : (b - i).toNat = (b - (i + 1)).toNat + 1 := by omega
      rw [hn, Sr.iter] at hit
      have hon1 := Sr.On.iter HR.out.2.1 (b - (i + 1)).toNat (i + 1) (f i mj)
      rw [hit] at hon1
      have hri : Ex.rng i := by unfold Ex.rng; omega
      have hst1 : mj.steps + 1 ≤ (f i mj).steps := by
        rw [HA.out.2.2]
        exact (Sr.run_on body _ _ mj.step).steps
      by_cases hst : mj.steps = F
      · have hg := step_out B wr g F mj vtj hT.own hfj.len hst
        have hend : ∀ w1, Below wr.heap.size wr w1 → F < R.steps ∧ Keeps (RuT g m vt) w w1 := fun w1 hb1 => ⟨by have := hon1.steps; omega, ((Keeps.of_below HB.out.1 _).trans hT.kp).trans (Keeps.of_below hb1 _)⟩
        have HH := Lib.hid hend
        clear hend hT hfj hit hon1 hst hst1
        go_wp2_with fail
        refine hg.mono ?_
        rintro e w1 ⟨rfl, hb1⟩
        obtain ⟨h1, h2⟩ := HH.out w1 hb1
        clear hg hb1
        go_wp2
        exact ⟨rfl, .inr ⟨h1, rfl, h2⟩⟩
      · have hg := step_ok B wr g F mj vtj hT.own hfj.len (by have := hfj.st; omega) hF
        have hfs : Sr.Fit F mj.step := ⟨hfj.len, hfj.rg, by have := hfj.st; show mj.steps + 1 ≤ F; omega, by have := hfj.tr; show mj.trace.length ≤ mj.steps + 1; omega⟩
        go_wp2_with fail
        refine hg.mono ?_
        rintro e w1 ⟨rfl, h1⟩
        have T1 := hT.step h1
        have v1 := HB.out.2.1.step T1.kp T1.nw
        have hlow : ∀ k, RuT g mj.step vtj k → k < w1.heap.size := fun k hk => T1.own.lt hk
        obtain ⟨-, c1, -, -, -, -, -, -, -, -, c10, -⟩ := HB.out.2.2.cells w1 T1.kp
        have hcc : ∀ w', Below w1.heap.size w1 w' → Keeps (RuT g m vt) W0 w' := fun w' hb => T1.kp.trans (Keeps.of_below hb _)
        have keepS : ∀ w', Below w1.heap.size w1 w' → (Below w1.heap.size w1 w' ∧ w'.cell? ⟨Q, 1, none⟩ = some (.string nm) ∧ w'.cell? ⟨Q, 10, none⟩ = some (.slice D dl dc)) := fun w' hb => by
          obtain ⟨-, c1, -, -, -, -, -, -, -, -, c10, -⟩ := HB.out.2.2.cells w' (hcc w' hb)
          exact ⟨hb, c1, c10⟩
        have gS : ∀ w', Below w1.heap.size w1 w' → SlV w' 2 (.slice VE zs.length zs.length) zs.length (Ex.bindcs zs) := fun w' hb => by
          obtain ⟨A', c', e', q1, q2, q3, q4⟩ := (v1.later hb).sl
          injection e' with e1 e2 e3
          subst e1
          exact ⟨VE, zs.length, rfl, Nat.le_refl _, by have := HE.out; omega, q3, q4⟩
        have hS0 := keepS _ (below_drew (Below.refl _ _))
        have hn63 : zs.length + 1 ≤ maxLen := by unfold maxLen; omega
        have hn47 : (zs.length + 1) * 24 ≤ 140737488355328 := by omega
        have hcl : ∀ w', Calls Tryd.prog 137 #[.slice VE zs.length ce] w' fun e w'' => e = .returned (.slice VE zs.length zs.length) ∧ w' = w'' := fun w' => clip_any w' VE zs.length ce HE.out.1 HE.out.2.1 HE.out.2.2
        have HT := Lib.hid (And.intro T1 (And.intro v1 (And.intro hlow (And.intro hit (And.intro hon1 hfj)))))
        clear hg hT hfj h1 T1 v1 hlow c1 c10 hcc hit hon1
        go_wp2_with fail
        refine wp_walk_last (by kernel_rfl) (by kernel_rfl) (fun w w' => Below w.heap.size w w') (fun w' => (Below w1.heap.size w1 w' ∧ w'.cell? ⟨Q, 1, none⟩ = some (.string nm) ∧ w'.cell? ⟨Q, 10, none⟩ = some (.slice D dl dc))) hS0 ?_
        simp only [List.length_cons, List.length_nil, Nat.reduceAdd, Nat.reduceSub, List.take_succ_cons, List.take_zero, List.drop_succ_cons, List.drop_zero]
        repeat (first | (refine settle_skip (fun _ => by rfl) ?_; (simp only [Act.put, List.setIfInBounds_toArray, List.set_cons_zero, List.set_cons_succ])) | (refine' settle_run (fun _ _ => Below.refl _ _) (fun _ => by rfl) ?_ ?_; rotate_left; (focus (intro ρ w hS hF; (try dsimp only at hS); go_split_ands; go_simp; try with_reducible rfl)); (simp only [Act.put, List.setIfInBounds_toArray, List.set_cons_zero, List.set_cons_succ])))
        (refine' settle_step (fun _ => by rfl) ?_ ?_; rotate_left; (focus (intro ρ w hS hF K hK; (simp only [Act.put, List.setIfInBounds_toArray, List.set_cons_zero, List.set_cons_succ] at hK); go_simp; (refine (hcl _).mono ?_; rintro e w' ⟨rfl, rfl⟩; have hS' := hS; have hE' := Below.refl w.heap.size w); exact hK _ hS' hE')); (simp only [Act.put, List.setIfInBounds_toArray, List.set_cons_zero, List.set_cons_succ]))
        repeat (first | (refine settle_skip (fun _ => by rfl) ?_; (simp only [Act.put, List.setIfInBounds_toArray, List.set_cons_zero, List.set_cons_succ])) | (refine' settle_run (fun _ _ => Below.refl _ _) (fun _ => by rfl) ?_ ?_; rotate_left; (focus (intro ρ w hS hF; (try dsimp only at hS); go_split_ands; go_simp; try with_reducible rfl)); (simp only [Act.put, List.setIfInBounds_toArray, List.set_cons_zero, List.set_cons_succ])))
        (refine settle_known (FSl 2 1 [.string nm, .int .i64 i]) (by rfl) (fun _ => by rfl)  ?_ ?_; (focus (intro ρ w hS hF K hK; (simp only [Act.put, List.setIfInBounds_toArray, List.set_cons_zero, List.set_cons_succ] at hK); go_simp; exact hK _ _ (SlV.lit w [.string nm, .int .i64 i] 203 2 1 rfl (by decide)) (keepS _ (below_alloc hS.1 _)) (below_alloc (Below.refl _ _) _))); (simp only [Act.put, List.setIfInBounds_toArray, List.set_cons_zero, List.set_cons_succ]))
        (refine settle_known (FRow w1.heap.size 203 2 (zs.length + 1) (Ex.bindcs zs ++ ([.string nm, .int .i64 i] : List Value))) (by rfl) (fun _ => by rfl) ?_ ?_; (focus (intro ρ w hS hF K hK; refine oper_full (.tmp 29) (.tmp 34) _ _ _ _ _ Tryd.underlying162 info_bnd rfl (by decide) (gS w hS.1) (hF.1 (by rfl)) (bindc_one (nm, i)) (by decide) hn63 hn47 rfl rfl rfl ?_; intro v' w' hown hb; exact hK v' w' (own_base hown hS.1.size) (keepS _ (below_next hb hS.1)) hb)); (simp only [Act.put, List.setIfInBounds_toArray, List.set_cons_zero, List.set_cons_succ]))
        repeat (first | (refine settle_skip (fun _ => by rfl) ?_; (simp only [Act.put, List.setIfInBounds_toArray, List.set_cons_zero, List.set_cons_succ])) | (refine' settle_run (fun _ _ => Below.refl _ _) (fun _ => by rfl) ?_ ?_; rotate_left; (focus (intro ρ w hS hF; (try dsimp only at hS); go_split_ands; go_simp; try with_reducible rfl)); (simp only [Act.put, List.setIfInBounds_toArray, List.set_cons_zero, List.set_cons_succ])))
        refine settle_nil ?_
        intro ρ w4 hS hF
        have hrow : w4.ownsRow w1.heap.size 203 2 (ρ 35) (zs.length + 1) (Ex.bindcs zs ++ Ex.bindc (nm, i)) := hF 35 (FRow w1.heap.size 203 2 (zs.length + 1) (Ex.bindcs zs ++ ([.string nm, .int .i64 i] : List Value))) (by repeat (first | exact List.mem_cons_self | apply List.mem_cons_of_mem))
        have hb4 := hS.1
        clear hF hS hS0 keepS gS hcl
        dsimp only
        generalize ρ 35 = v4 at hrow ⊢
        obtain ⟨T1, v1, hlow, hit, hon1, hfj⟩ := HT.out
        have T4 := T1.later hb4
        have e5 : EnvAt w4 (RuT g mj.step vtj) v4 (zs ++ [(nm, i)]) := v1.grown hri hlow hrow
        have p4 := (HB.out.2.2.read w4 T4.kp).2.2.1
        have hblk := ih w4 B dl dc g F D vtj v4 mj.step (zs ++ [(nm, i)]) l p4 hd1 hd2 T4.own hfs hF e5 (by rw [List.length_append, List.length_singleton]; omega) hl
        rw [bs_snoc] at hblk
        have hfi : Sr.run body (Ex.bs zs ++ [((nm, i).1.data.toList, (nm, i).2)]) l mj.step = f i mj := by rw [HA.out.2.2]
        rw [hfi] at hblk
        obtain ⟨V4, c4, rfl, -, -⟩ := own_slice hrow
        have HZ := Lib.hid (And.intro T4 (And.intro hit (And.intro hon1 hfj)))
        clear HT T1 v1 hlow hit hon1 hfj T4 e5 p4 hrow hfi hst hst1 hb4
        go_wp2_with fail
        refine hblk.mono ?_
        rintro e w5 (⟨h1, rfl, vt5, h2⟩ | ⟨h1, rfl, h2⟩)
        · have T5 := HZ.out.1.step h2
          have hf5 : Sr.Fit F (f i mj) := HZ.out.2.2.2.on (HR.out.2.1 i mj) (HR.out.2.2 i mj hri HZ.out.2.2.2.rg) h1
          have HY := Lib.hid (And.intro T5 (And.intro hf5 HZ.out.2.1))
          clear hblk h2 T5 hf5
          go_wp2_with fail
          go_roundw
          case rel => exact ⟨i + 1, _, _, by go_num, by omega, .inr (by omega), HY.out.1, HY.out.2.1, HY.out.2.2⟩
          case measure => simp [intOf]; omega
        · have hk : Keeps (RuT g m vt) w w5 := ((Keeps.of_below HB.out.1 _).trans HZ.out.1.kp).step h2 (fun k hk ht => (HZ.out.1.nw k ht).resolve_right (by have := HB.out.1.size; omega))
          have hlt' : F < R.steps := by have := HZ.out.2.2.1.steps; omega
          clear hblk h2
          go_wp2
          exact ⟨rfl, .inr ⟨hlt', rfl, hk⟩⟩
    · have h0 : (b - i).toNat = 0 := by omega
      rw [h0, Sr.iter] at hit
      subst hit
      have HY := Lib.hid (And.intro hT hfj)
      clear hT hfj
      go_wp2_with fail
      go_end0
      exact .inl ⟨HY.out.2.st, rfl, vtj, HY.out.1.since HB.out.1⟩
end Go.Proofs.YtkjmddgnfgbioaaDoor


namespace Go.Proofs.YtkjmddgnfgbioaaDoor
set_option linter.unusedVariables false
set_option linter.unusedSimpArgs false
set_option maxRecDepth 100000
open Go.RowKit

namespace Un
def bcells (F : Nat) (m : Sr.M) : List Value := ints .i64 m.heap ++ [.int .i64 (F : Int), .int .i64 (m.steps : Int)]
theorem bcells_get {F : Nat} {m : Sr.M} (hl : m.heap.length = 8) : (∀ c, c < 8 → (bcells F m)[c]? = some (.int .i64 (m.heap.getD c 0))) ∧ (bcells F m)[8]? = some (.int .i64 (F : Int)) ∧ (bcells F m)[9]? = some (.int .i64 (m.steps : Int)) := by
  obtain ⟨a, b, c, d, e, f, g, i, h8⟩ := Sr.heap8 hl
  unfold bcells
  rw [h8]
  refine ⟨fun c hc => ?_, rfl, rfl⟩
  match c, hc with
  | 0, _ => rfl
  | 1, _ => rfl
  | 2, _ => rfl
  | 3, _ => rfl
  | 4, _ => rfl
  | 5, _ => rfl
  | 6, _ => rfl
  | 7, _ => rfl
end Un
/-- what ends it for lack of fuel -/
def spentU : List PanicEntry := [{ v := .iface 122 (.agg #[]), recovered := false }]

theorem ustep_ok (w : World) (g F : Nat) (m : Sr.M) (hB : Blk w g 126 (Un.bcells F m)) (hl : m.heap.length = 8) (hs : m.steps < F) (hF : F ≤ 2000) :
    Calls Tryd.prog 111 #[.pointer (some ⟨g, 0, none⟩)] w fun e w' => e = .returned (.tuple #[]) ∧ Blk w' g 126 (Un.bcells F m.step) ∧ w.grownBy w' (some g) := by
  obtain ⟨r0, r8, r9⟩ := Un.bcells_get (F := F) hl
  have c8 : w.cell? ⟨g, 8, none⟩ = some (.int .i64 (F : Int)) := (hB.cell 8).trans r8
  have c9 : w.cell? ⟨g, 9, none⟩ = some (.int .i64 (m.steps : Int)) := (hB.cell 9).trans r9
  have g1 : ((m.steps : Int) == (F : Int)) = false := by simp; omega
  have hend : ∀ w2, Blk w2 g 126 ((Un.bcells F m).set 9 (.int .i64 ((m.steps : Int) + 1))) → Blk w2 g 126 (Un.bcells F m.step) := fun w2 b2 => by
    obtain ⟨a, b, c, d, e, f, g', i, h8⟩ := Sr.heap8 hl
    have e : (Un.bcells F m).set 9 (.int .i64 ((m.steps : Int) + 1)) = Un.bcells F m.step := by
      unfold Un.bcells Sr.M.step
      rw [h8]
      rfl
    rw [e] at b2
    exact b2
  have HE := Lib.hid hend
  clear hend r0 r8 r9
  go_enter Tryd.func111, Tryd.ntmps111
  go_wp2_with fail
  go_quiet (fail)
  go_wp2_with (first | (refine wpl_set_blk hB 9 (.int .i64 ((m.steps : Int) + 1)) (by kernel_rfl) (by simp [Un.bcells, ints_length, hl]) rfl rfl rfl rfl rfl rfl ?_; intro w2 hB2 hg2) | fail)
  go_end0
  exact ⟨rfl, HE.out w2 hB2, grown_undrewN hg2⟩

theorem ustep_out (w : World) (g F : Nat) (m : Sr.M) (hB : Blk w g 126 (Un.bcells F m)) (hl : m.heap.length = 8) (hs : m.steps = F) :
    Calls Tryd.prog 111 #[.pointer (some ⟨g, 0, none⟩)] w fun e w' => e = .panicked spentU ∧ Below w.heap.size w w' := by
  obtain ⟨r0, r8, r9⟩ := Un.bcells_get (F := F) hl
  have c8 : w.cell? ⟨g, 8, none⟩ = some (.int .i64 (F : Int)) := (hB.cell 8).trans r8
  have c9 : w.cell? ⟨g, 9, none⟩ = some (.int .i64 (m.steps : Int)) := (hB.cell 9).trans r9
  have g1 : ((m.steps : Int) == (F : Int)) = true := by simp; omega
  clear r0 r8 r9
  go_enter Tryd.func111, Tryd.ntmps111
  go_wp2_with fail
  go_quiet (fail)
  go_wp2
  exact ⟨rfl, rfl, below_drewN (Below.refl _ _) _⟩

theorem nothing_any (w : World) : Calls Tryd.prog 79 #[] w fun e w' => e = .returned (.agg (tcells 0 0 false 0 none 0 0).toArray) ∧ Below w.heap.size w w' := by
  have hb : Below w.heap.size w (w.alloc (.cells #[.int .i64 0, .int .i64 0, .bool false, .int .i64 0, .slice none 0 0] 59)) := below_alloc (Below.refl _ _) _
  have B0 := Blk.new w 59 [.int .i64 0, .int .i64 0, .bool false, .int .i64 0, .slice none 0 0]
  obtain ⟨q, hq⟩ : ∃ q, q = w.heap.size := ⟨_, rfl⟩
  go_enter Tryd.func79, Tryd.ntmps79
  go_upto_region 1 with (fail)
  generalize (w.alloc (.cells #[.int .i64 0, .int .i64 0, .bool false, .int .i64 0, .slice none 0 0] 59)) = W at hb B0 ⊢
  rw [← hq] at B0 ⊢
  go_wp2_with (first | (refine wpl_put_blk B0 [.int .i64 0, .int .i64 0, .bool false, .int .i64 0, .slice none 0 0] (by kernel_rfl) rfl (by intro v hv; simp at hv; rcases hv with rfl | rfl | rfl | rfl | rfl <;> rfl) rfl rfl rfl rfl ?_; intro w2 hB2 hg2) | fail)
  have hb2 : Below w.heap.size w w2 := hb.trans (below_of_grown hg2 hb.size (by omega))
  exact ret_blk hB2 rfl rfl Tryd.underlying59 rfl (by kernel_rfl) rfl ⟨rfl, hb2⟩
end Go.Proofs.YtkjmddgnfgbioaaDoor


namespace Go.Proofs.YtkjmddgnfgbioaaDoor
set_option linter.unusedVariables false
set_option linter.unusedSimpArgs false
set_option maxRecDepth 100000
open Go.RowKit

theorem Ks.form_one : ∀ {a : Ks}, a.len = 1 → ∃ k c b l kids, a = .cons k c b l kids .nil
  | .nil, h => by simp [Ks.len] at h
  | .cons k c b l kids .nil, _ => ⟨k, c, b, l, kids, rfl⟩
  | .cons _ _ _ _ _ (.cons _ _ _ _ _ _), h => by simp [Ks.len] at h
theorem KN.form_one {lo : Nat} {w : World} {cs : List Value} {a : Ks} (h : KN lo w cs a) (hl : a.len = 1) : ∃ k c b l A n cap, cs = tcells k c b l A n cap := by
  obtain ⟨k, c, b, l, kids, rfl⟩ := Ks.form_one hl
  obtain ⟨A, cap, ds, rfl, -, -, -, h2⟩ := KsR.head h
  cases h2
  exact ⟨k, c, b, l, A, kids.len, cap, by simp⟩
def zterm : List Value := [.int .i64 0, .int .i64 0, .bool false, .int .i64 0, .slice none 0 0]

set_option maxHeartbeats 2000000 in
theorem two_any (kd : Int) (a b : Ks) (ca cb : List Value) (w : World) (lo : Nat) (ha : KN lo w ca a) (hb : KN lo w cb b) (la : a.len = 1) (lb : b.len = 1) (hlo : lo ≤ w.heap.size) :
    Calls Tryd.prog 115 #[.int .i64 kd, .agg ca.toArray, .agg cb.toArray] w fun e w' => ∃ cs, e = .returned (.agg cs.toArray) ∧ KN lo w' cs (.cons kd 0 false 0 (a.app b) .nil) ∧ Below w.heap.size w w' := by
  obtain ⟨k1, c1, b1, l1, A1, n1, p1, rfl⟩ := ha.form_one la
  obtain ⟨k2, c2, b2, l2, A2, n2, p2, rfl⟩ := hb.form_one lb
  have hend : ∀ W W3 W5 : World, ∀ q, q = w.heap.size → Below w.heap.size w W → W.heap.size = q + 1 + 1 + 1 → W3 = W.alloc (.cells (tcells k1 c1 b1 l1 A1 n1 p1 ++ tcells k2 c2 b2 l2 A2 n2 p2).toArray 59) → W3.grownBy W5 (some (q + 1 + 1)) →
      KN lo W5 (tcells kd 0 false 0 (some ⟨W.heap.size, 0, none⟩) 2 2) (.cons kd 0 false 0 (a.app b) .nil) ∧ Below w.heap.size w W5 := fun W W3 W5 q hq h1 hz h3 h5 => by
    have hlit := World.ownsRow_lit (e := 59) (size := 5) (base := lo) W (tcells k1 c1 b1 l1 A1 n1 p1 ++ tcells k2 c2 b2 l2 A2 n2 p2).toArray 2 (by omega) (by decide) (by simp [tcells])
    rw [← h3] at hlit
    have hs3 : W3.heap.size = W.heap.size + 1 := by rw [h3]; simp
    have h13 : Below w.heap.size w W3 := by rw [h3]; exact below_alloc h1 _
    have h15 := h13.trans (below_of_grown h5 (by omega) (by omega))
    have r5 := own_keeps hlit (Keeps.of_grown h5) (fun i hi e => by simp [Value.ownBlock] at hi; injection e; omega)
    have d5 : KN lo W5 _ (a.app b) := (ha.below h15).app (hb.below h15)
    have hlen : (a.app b).len = 2 := by rw [Ks.app_len, la, lb]
    refine ⟨?_, h15⟩
    have := KN.term (kids := a.app b) (k := kd) (c := 0) (b := false) (l := 0) (A := some ⟨W.heap.size, 0, none⟩) (cap := 2) (lo := lo) (w := W5) (by rw [hlen]; exact r5) d5
    rwa [hlen] at this
  have hb0 : Below w.heap.size w (((w.alloc (.cells (tcells k1 c1 b1 l1 A1 n1 p1).toArray 59)).alloc (.cells (tcells k2 c2 b2 l2 A2 n2 p2).toArray 59)).alloc (.cells zterm.toArray 59)) := below_alloc (below_alloc (below_alloc (Below.refl _ _) _) _) _
  have x0 := ((Blk.new w 59 (tcells k1 c1 b1 l1 A1 n1 p1)).alloc (.cells (tcells k2 c2 b2 l2 A2 n2 p2).toArray 59)).alloc (.cells zterm.toArray 59)
  have y0 := (Blk.new (w.alloc (.cells (tcells k1 c1 b1 l1 A1 n1 p1).toArray 59)) 59 (tcells k2 c2 b2 l2 A2 n2 p2)).alloc (.cells zterm.toArray 59)
  have z0 := Blk.new ((w.alloc (.cells (tcells k1 c1 b1 l1 A1 n1 p1).toArray 59)).alloc (.cells (tcells k2 c2 b2 l2 A2 n2 p2).toArray 59)) 59 zterm
  have hz : (((w.alloc (.cells (tcells k1 c1 b1 l1 A1 n1 p1).toArray 59)).alloc (.cells (tcells k2 c2 b2 l2 A2 n2 p2).toArray 59)).alloc (.cells zterm.toArray 59)).heap.size = w.heap.size + 1 + 1 + 1 := by simp
  simp only [World.size_alloc] at y0 z0
  obtain ⟨q, hq⟩ : ∃ q, q = w.heap.size := ⟨_, rfl⟩
  have HE := Lib.hid (And.intro hend (And.intro hq (And.intro hb0 hz)))
  clear hend ha hb la lb hlo
  unfold tcells zterm at *
  go_enter Tryd.func115, Tryd.ntmps115
  go_upto_region 1 with (fail)
  obtain ⟨hend, hq', hb0', hz'⟩ := HE.out
  clear HE hb0 hz
  generalize (((w.alloc (.cells #[.int .i64 k1, .int .i64 c1, .bool b1, .int .i64 l1, .slice A1 n1 p1] 59)).alloc (.cells #[.int .i64 k2, .int .i64 c2, .bool b2, .int .i64 l2, .slice A2 n2 p2] 59)).alloc (.cells #[.int .i64 0, .int .i64 0, .bool false, .int .i64 0, .slice none 0 0] 59)) = W at x0 y0 z0 hb0' hz' ⊢
  rw [← hq] at x0 y0 z0 ⊢
  have HE := Lib.hid (And.intro hend (And.intro hb0' (And.intro hz' hq')))
  clear hend hb0' hz' hq'
  have u0 : W.cell? ⟨q, 0, none⟩ = some (.int .i64 k1) := (x0.cell 0).trans rfl
  have u1 : W.cell? ⟨q, 1, none⟩ = some (.int .i64 c1) := (x0.cell 1).trans rfl
  have u2 : W.cell? ⟨q, 2, none⟩ = some (.bool b1) := (x0.cell 2).trans rfl
  have u3 : W.cell? ⟨q, 3, none⟩ = some (.int .i64 l1) := (x0.cell 3).trans rfl
  have u4 : W.cell? ⟨q, 4, none⟩ = some (.slice A1 n1 p1) := (x0.cell 4).trans rfl
  have v0 : W.cell? ⟨q + 1, 0, none⟩ = some (.int .i64 k2) := (y0.cell 0).trans rfl
  have v1 : W.cell? ⟨q + 1, 1, none⟩ = some (.int .i64 c2) := (y0.cell 1).trans rfl
  have v2 : W.cell? ⟨q + 1, 2, none⟩ = some (.bool b2) := (y0.cell 2).trans rfl
  have v3 : W.cell? ⟨q + 1, 3, none⟩ = some (.int .i64 l2) := (y0.cell 3).trans rfl
  have v4 : W.cell? ⟨q + 1, 4, none⟩ = some (.slice A2 n2 p2) := (y0.cell 4).trans rfl
  clear x0 y0 hq
  go_wp2_with (first | (refine wpl_put_blk (z0.alloc _) [.int .i64 kd, .int .i64 0, .bool false, .int .i64 0, .slice (some ⟨W.heap.size, 0, none⟩) 2 2] (by kernel_rfl) rfl (by intro v hv; simp at hv; rcases hv with rfl | rfl | rfl | rfl | rfl <;> rfl) rfl rfl rfl rfl ?_; intro w5 hB5 hg5) | fail)
  obtain ⟨hend, hb0', hz', hq'⟩ := HE.out
  exact ret_blk hB5 rfl rfl Tryd.underlying59 rfl (by kernel_rfl) rfl ⟨_, rfl, hend W _ w5 q hq' hb0' (by rw [hz', hq']) rfl hg5⟩

set_option maxHeartbeats 2000000 in
theorem ubind_any (w : World) (VE : Option Addr) (ce : Nat) (nm : ByteArray) (v : Int) (zs : List Ex.Bd) (hsl : SlV w 2 (.slice VE zs.length ce) zs.length (Ex.bindcs zs)) (h1 : zs.length ≤ ce) (h2 : ce ≤ maxLen) (h3 : VE = none → zs.length = 0) (h4 : zs.length ≤ 549755813888) :
    Calls Tryd.prog 113 #[.slice VE zs.length ce, .string nm, .int .i64 v] w fun e w' => ∃ v4, e = .returned v4 ∧ w'.ownsRow w.heap.size 203 2 v4 (zs.length + 1) (Ex.bindcs zs ++ Ex.bindc (nm, v)) ∧ Below w.heap.size w w' := by
  have hsl' : SlV w 2 (.slice VE zs.length zs.length) zs.length (Ex.bindcs zs) := by
    obtain ⟨A', c', e', q1, q2, q3, q4⟩ := hsl
    injection e' with e1 e2 e3
    subst e1
    exact ⟨VE, zs.length, rfl, Nat.le_refl _, by omega, q3, q4⟩
  have hlit := SlV.lit w [.string nm, .int .i64 v] 203 2 1 rfl (by decide)
  have hsl2 := hsl'.below (below_alloc (Below.refl w.heap.size w) (.cells #[.string nm, .int .i64 v] 203))
  have hbA : Below w.heap.size w (w.alloc (.cells #[.string nm, .int .i64 v] 203)) := below_alloc (Below.refl _ _) _
  have hn63 : zs.length + 1 ≤ maxLen := by unfold maxLen; omega
  have hn47 : (zs.length + 1) * 24 ≤ 140737488355328 := by omega
  have HB := Lib.hid hbA
  clear hsl hsl' hbA
  go_enter Tryd.func113, Tryd.ntmps113
  go_wp2_with fail
  refine (clip_any w VE zs.length ce h1 h2 h3).mono ?_
  rintro e w' ⟨rfl, rfl⟩
  clear h1 h2 h3
  go_wp2_with (first | (refine wpList_want rfl fun K hK => ?_; refine oper_full (.tmp 8) (.tmp 12) _ _ _ _ _ Tryd.underlying162 info_bnd rfl (by decide) hsl2 hlit (bindc_one (nm, v)) (by decide) hn63 hn47 rfl rfl rfl ?_; intro v4 w4 hown hb4; refine hK _ _ ?_) | fail)
  go_ret
  exact ⟨_, rfl, own_base hown HB.out.size, HB.out.trans (hb4.mono HB.out.size)⟩
end Go.Proofs.YtkjmddgnfgbioaaDoor


namespace Go.Proofs.YtkjmddgnfgbioaaDoor
set_option linter.unusedVariables false
set_option linter.unusedSimpArgs false
set_option maxRecDepth 100000
open Go.RowKit

/-- done, or ended for lack of fuel -/
def UnEnd (w : World) (g F : Nat) (r : Sp.T × Sr.M) : Ending → World → Prop := fun e w' =>
  (r.2.steps ≤ F ∧ (∃ cs, e = .returned (.agg cs.toArray) ∧ KN w.heap.size w' cs (Ks.of r.1)) ∧ Blk w' g 126 (Un.bcells F r.2) ∧ Keeps (fun i => i = g) w w') ∨ (F < r.2.steps ∧ e = .panicked spentU ∧ Keeps (fun i => i = g) w w')
/-- what is left: called, it does this -/
structure RestOK (w : World) (g F : Nat) (k : Sr.M → Sp.T × Sr.M) (v : Value) : Prop where
  ex : ∃ id caps, v = .func (.func id) #[] caps ∧ (∀ (args : Array Value) (w : World), (callFunc id args).run Tryd.prog w = .ok (.enter id args) w) ∧ ∀ w' m, Keeps (fun i => i = g) w w' → Blk w' g 126 (Un.bcells F m) → Sr.Fit F m → Calls Tryd.prog id caps w' (UnEnd w' g F (k m))
  on : ∀ m : Sr.M, m.steps ≤ (k m).2.steps
theorem RestOK.keep {w w1 : World} {g F : Nat} {k : Sr.M → Sp.T × Sr.M} {v : Value} (h : RestOK w g F k v) (hk : Keeps (fun i => i = g) w w1) : RestOK w1 g F k v := by
  obtain ⟨id, caps, h1, h2, h3⟩ := h.ex
  exact ⟨⟨id, caps, h1, h2, fun w' m hk' hb hf => h3 w' m (hk.trans hk') hb hf⟩, h.on⟩
theorem rest_nothing (w : World) (g F : Nat) (hg : g < w.heap.size) : RestOK w g F Un.k0 (.func (.func 79) #[] #[]) := by
  refine ⟨⟨79, #[], rfl, fun _ _ => by rfl, fun w' m hk hb hf => (nothing_any w').mono ?_⟩, fun m => Nat.le_refl _⟩
  rintro e w2 ⟨rfl, hb2⟩
  refine .inl ⟨hf.st, ⟨_, rfl, ?_⟩, hb.below hb2, Keeps.of_below hb2 _⟩
  have := KsR.cons (B := w2.heap.size) (w := only w2 fun g => w'.heap.size ≤ g) 0 0 false 0 none 0 [] [] .nil .nil (Nat.le_refl _) (Nat.zero_le _) (Cells.nil _ _ _) .nil .nil
  rw [List.append_nil] at this
  exact this

theorem un_back {w w1 w2 w3 : World} {g F q : Nat} {r : Sp.T × Sr.M} {cs : List Value} (hk : Keeps (fun i => i = g) w w1) (hw : w.heap.size ≤ q) (hq : q < w1.heap.size) (hg : g < w.heap.size) (h1 : r.2.steps ≤ F) (hkn : KN w1.heap.size w2 cs (Ks.of r.1)) (hb : Blk w2 g 126 (Un.bcells F r.2)) (hk2 : Keeps (fun i => i = g) w1 w2)
    (h3 : w2.grownBy w3 (some q)) : UnEnd w g F r (.returned (.agg cs.toArray)) w3 :=
  .inl ⟨h1, ⟨cs, rfl, (hkn.grown h3 hq).low (Nat.le_trans hw (Nat.le_of_lt hq))⟩, hb.grown h3 (by intro e; injection e; omega), (hk.trans hk2).step (Keeps.of_grown h3) (fun i hi e => by injection e; omega)⟩
theorem un_stop {w w1 w2 : World} {g F : Nat} {r : Sp.T × Sr.M} (hk : Keeps (fun i => i = g) w w1) (h : F < r.2.steps) (hk2 : Keeps (fun i => i = g) w1 w2) : UnEnd w g F r (.panicked spentU) w2 := .inr ⟨h, rfl, hk.trans hk2⟩
theorem Ks.of_cells {lo : Nat} {w : World} {cs : List Value} {t : Sp.T} (h : KN lo w cs (Ks.of t)) : cs.length = 5 ∧ ∀ u ∈ cs, u.oneCell' = true := ⟨by rw [h.len, Ks.of_len], KsR.one h⟩

/-- the same, with the result yet to be laid into block q -/
def UnMid (w : World) (g F q : Nat) (r : Sp.T × Sr.M) (w1 : World) : Ending → World → Prop := fun e w2 =>
  (∃ cs : List Value, e = .returned (.agg cs.toArray) ∧ (cs.length = 5 ∧ ∀ u ∈ cs, u.oneCell' = true) ∧ Keeps (fun i => i = g) w1 w2 ∧ ∀ w3, w2.grownBy w3 (some q) → UnEnd w g F r (.returned (.agg cs.toArray)) w3) ∨ (e = .panicked spentU ∧ UnEnd w g F r (.panicked spentU) w2)
theorem UnEnd.mid {w w1 w2 : World} {g F q : Nat} {r : Sp.T × Sr.M} {e : Ending} (hk : Keeps (fun i => i = g) w w1) (hq1 : w.heap.size ≤ q) (hq2 : q < w1.heap.size) (hg : g < w.heap.size) (h : UnEnd w1 g F r e w2) : UnMid w g F q r w1 e w2 := by
  rcases h with ⟨h1, ⟨cs, rfl, h2⟩, h3, h4⟩ | ⟨h1, rfl, h4⟩
  · exact .inl ⟨cs, rfl, Ks.of_cells h2, h4, fun w3 hg3 => un_back hk hq1 hq2 hg h1 h2 h3 h4 hg3⟩
  · exact .inr ⟨rfl, un_stop hk h1 h4⟩

/-- what block's contract says of statements -/
def BlockU (p : St.P) : Prop := ∀ (w : World) (B n c g F : Nat) (A : Option Addr) (v ve : Value) (m : Sr.M) (zs : List Ex.Bd) (l : Nat) (k : Sr.M → Sp.T × Sr.M), PR B w A n p → n ≤ c → c ≤ maxLen → B ≤ g → Blk w g 126 (Un.bcells F m) → Sr.Fit F m → F ≤ 2000 → EnvAt w (fun i => i = g) ve zs →
  zs.length + p.size ≤ 549755813888 → l + p.size ≤ 576460752303423488 → RestOK w g F k v →
  Calls Tryd.prog 78 #[.pointer (some ⟨g, 0, none⟩), .slice A n c, ve, .int .i64 (l : Int), v] w (UnEnd w g F (Un.un p (Ex.bs zs) l k m))

theorem EnvAt.keep {w w' : World} {g : Nat} {ve : Value} {zs : List Ex.Bd} (h : EnvAt w (fun i => i = g) ve zs) (hk : Keeps (fun i => i = g) w w') : EnvAt w' (fun i => i = g) ve zs := h.step hk fun _ h => .inl h
theorem PR.keepU {B n g : Nat} {A : Option Addr} {p : St.P} {w w' : World} (hp : PR B w A n p) (hk : Keeps (fun i => i = g) w w') (hB : B ≤ g) (hg : g < w.heap.size) : PR B w' A n p := hp.later (hk.below (by omega) (fun i hi => by omega))

set_option maxHeartbeats 2000000 in
theorem on_rest (rest : St.P) (ih : BlockU rest) (w : World) (B n c g F gA o : Nat) (v ve : Value) (zs : List Ex.Bd) (l : Nat) (k : Sr.M → Sp.T × Sr.M) (pb pl pe ph pt : Nat)
    (hp : PR B w (some ⟨gA, o + 12, none⟩) n rest) (hnc : n + 1 ≤ c) (hc : c ≤ maxLen) (hB : B ≤ g) (hg : g < w.heap.size) (hF : F ≤ 2000) (hv : EnvAt w (fun i => i = g) ve zs) (hz : zs.length + rest.size ≤ 549755813888) (hl : l + rest.size ≤ 576460752303423488) (hk : RestOK w g F k v)
    (c0 : w.cell? ⟨pb, 0, none⟩ = some (.pointer (some ⟨g, 0, none⟩))) (c1 : w.cell? ⟨pl, 0, none⟩ = some (.slice (some ⟨gA, o, none⟩) (n + 1) c)) (c2 : w.cell? ⟨pe, 0, none⟩ = some ve) (c3 : w.cell? ⟨ph, 0, none⟩ = some (.int .i64 (l : Int))) (c4 : w.cell? ⟨pt, 0, none⟩ = some v)
    (n0 : pb ≠ g) (n1 : pl ≠ g) (n2 : pe ≠ g) (n3 : ph ≠ g) (n4 : pt ≠ g) :
    RestOK w g F (fun m => Un.un rest (Ex.bs zs) l k m) (.func (.func 110) #[] #[.pointer (some ⟨pb, 0, none⟩), .pointer (some ⟨pl, 0, none⟩), .pointer (some ⟨pe, 0, none⟩), .pointer (some ⟨ph, 0, none⟩), .pointer (some ⟨pt, 0, none⟩)]) := by
  refine ⟨⟨_, _, rfl, fun _ _ => by rfl, fun w' m hkw hb hf => ?_⟩, fun m => ?_⟩
  · obtain ⟨A', hA'⟩ : ∃ A', (if c = 1 then some (⟨gA, o, none⟩ : Addr) else some ⟨gA, o + 12, none⟩) = A' := ⟨_, rfl⟩
    have hp' : PR B w A' n rest := by
      by_cases h1 : c = 1
      · have hn0 : n = 0 := by omega
        subst hn0
        rw [hp.zero]
        exact .nil _
      · rw [if_neg h1] at hA'
        exact hA' ▸ hp
    have hn1 : (1 : Int) ≤ (n : Int) + 1 := by omega
    have hon : ∀ w1, Below w'.heap.size w' w1 → ∀ q, w'.heap.size ≤ q → q < w1.heap.size → Calls Tryd.prog 78 #[.pointer (some ⟨g, 0, none⟩), .slice A' n (c - 1), ve, .int .i64 (l : Int), v] w1 (UnMid w' g F q (Un.un rest (Ex.bs zs) l k m) w1) := fun w1 hb1 q hq1 hq2 => by
      have hkk : Keeps (fun i => i = g) w w1 := hkw.trans (Keeps.of_below hb1 _)
      refine (ih w1 B n (c - 1) g F _ v ve m zs l k (hp'.keepU hkk hB hg) (by omega) (by omega) hB (hb.below hb1) hf hF (hv.keep hkk) hz hl (hk.keep hkk)).mono ?_
      exact fun e w2 h => h.mid (Keeps.of_below hb1 _) hq1 hq2 (Nat.lt_of_lt_of_le hg hkw.size)
    have hbA : Below w'.heap.size w' (w'.alloc (.cells zterm.toArray 59)) := below_alloc (Below.refl _ _) _
    have z0 := Blk.new w' 59 zterm
    obtain ⟨q, hq⟩ : ∃ q, q = w'.heap.size := ⟨_, rfl⟩
    have hgw : g < w'.heap.size := Nat.lt_of_lt_of_le hg hkw.size
    have k0 := hkw.cell c0 n0
    have k1 := hkw.cell c1 n1
    have k2 := hkw.cell c2 n2
    have k3 := hkw.cell c3 n3
    have k4 := hkw.cell c4 n4
    have HO := Lib.hid (And.intro hon hq)
    clear hon hp hp' hc hv hk hkw hb hf c0 c1 c2 c3 c4 hz hl
    unfold zterm at z0 hbA
    go_enter Tryd.func110, Tryd.ntmps110
    go_upto_region 1 with (fail)
    generalize (w'.alloc (.cells #[.int .i64 0, .int .i64 0, .bool false, .int .i64 0, .slice none 0 0] 59)) = W at hbA z0 ⊢
    rw [← hq] at z0 ⊢
    clear hq
    have hkc : ∀ w1, Below W.heap.size W w1 → (Below W.heap.size W w1 ∧ w1.cell? ⟨pb, 0, none⟩ = some (.pointer (some ⟨g, 0, none⟩)) ∧ w1.cell? ⟨pl, 0, none⟩ = some (.slice (some ⟨gA, o, none⟩) (n + 1) c) ∧ w1.cell? ⟨pe, 0, none⟩ = some ve ∧ w1.cell? ⟨ph, 0, none⟩ = some (.int .i64 (l : Int)) ∧ w1.cell? ⟨pt, 0, none⟩ = some v) := fun w1 h1 => by
      have h2 := hbA.trans (h1.mono hbA.size)
      exact ⟨h1, (h2.cell (World.block_lt_of_cell? _ _ k0)).trans k0, (h2.cell (World.block_lt_of_cell? _ _ k1)).trans k1, (h2.cell (World.block_lt_of_cell? _ _ k2)).trans k2, (h2.cell (World.block_lt_of_cell? _ _ k3)).trans k3, (h2.cell (World.block_lt_of_cell? _ _ k4)).trans k4⟩
    have hS0 := hkc _ (below_drew (Below.refl _ _))
    have HB := Lib.hid hbA
    clear k0 k1 k2 k3 k4 hkc hbA
    refine wp_walk_tail 6 (by kernel_rfl) (by kernel_rfl) (fun _ _ => True) (fun w1 => (Below W.heap.size W w1 ∧ w1.cell? ⟨pb, 0, none⟩ = some (.pointer (some ⟨g, 0, none⟩)) ∧ w1.cell? ⟨pl, 0, none⟩ = some (.slice (some ⟨gA, o, none⟩) (n + 1) c) ∧ w1.cell? ⟨pe, 0, none⟩ = some ve ∧ w1.cell? ⟨ph, 0, none⟩ = some (.int .i64 (l : Int)) ∧ w1.cell? ⟨pt, 0, none⟩ = some v)) hS0 ?_
    simp only [List.length_cons, List.length_nil, Nat.reduceAdd, Nat.reduceSub, List.take_succ_cons, List.take_zero, List.drop_succ_cons, List.drop_zero]
    repeat (first | (refine settle_skip (fun _ => by rfl) ?_; (simp only [Act.put, List.setIfInBounds_toArray, List.set_cons_zero, List.set_cons_succ])) | (refine' settle_run (fun _ _ => trivial) (fun _ => by rfl) ?_ ?_; rotate_left; (focus (intro ρ w hS hF; (try dsimp only at hS); go_split_ands; go_simp; try with_reducible rfl)); (simp only [Act.put, List.setIfInBounds_toArray, List.set_cons_zero, List.set_cons_succ])))
    refine settle_nil ?_
    intro ρ w4 hS hF
    clear hS0 hF
    dsimp only
    have hz4 := z0.below hS.1
    have hwq : w'.heap.size ≤ q := Nat.le_of_eq HO.out.2.symm
    refine wpList_want rfl fun K hK => ?_
    go_simp
    go_at_call 78
    refine (HO.out.1 w4 (HB.out.trans (hS.1.mono HB.out.size)) q hwq hz4.lt).mono ?_
    rintro e w5 (⟨cs, rfl, ⟨h5, h1⟩, hk5, hend⟩ | ⟨rfl, hend⟩)
    · have hz5 := hz4.keeps hk5 (by intro e; omega)
      refine hK _ _ ?_
      refine wpl_put_blk hz5 cs (by kernel_rfl) h5 h1 rfl rfl rfl rfl ?_
      intro w6 hB6 hg6
      go_wp2
      exact ret_blk hB6 rfl rfl Tryd.underlying59 rfl (by rw [h5]; kernel_rfl) rfl (hend w6 hg6)
    · go_wp2
      exact ⟨rfl, hend⟩
  · show m.steps ≤ _
    rw [Un.un_state]
    exact Nat.le_trans (Sr.run_on rest _ _ m).steps (hk.on _)
end Go.Proofs.YtkjmddgnfgbioaaDoor


namespace Go.Proofs.YtkjmddgnfgbioaaDoor
set_option linter.unusedVariables false
set_option linter.unusedSimpArgs false
set_option maxRecDepth 100000
open Go.RowKit

theorem wp_put_blk {P : Program} {w : World} {g : Nat} {t : TypeId} {cs : List Value} {o : Oper} {a : Act} {K : Act → World → Prop} {Q : Exit → Act → World → Prop} (h : Blk w g t cs) (vs : List Value) {ty : TypeId} (hi : (P.info? ty).map (·.size) = some cs.length) (hv : vs.length = cs.length) (h1 : ∀ v ∈ vs, v.oneCell' = true)
    {x y : Operand} (ho : o.op = .store ty x y) (hx : a.eval x = .pointer (some ⟨g, 0, none⟩)) (hy : a.eval y = .agg vs.toArray) (hK : ∀ w', Blk w' g t vs → w.grownBy w' (some g) → K (a.put o.dst undef) w') : o.wp P a w K Q := by
  refine wp_store_blk h ty x y 0 cs.length vs hi hv (by omega) h1 ho hx hy (hK _ ?_ (grown_setRow _ _ _))
  have := h.row (cs.take 0 ++ vs ++ cs.drop (0 + cs.length))
  rwa [whole_put rfl] at this ⊢

theorem KN.keepU {lo g : Nat} {w w' : World} {cs : List Value} {s : Ks} (h : KN lo w cs s) (hk : Keeps (fun i => i = g) w w') (hg : g < lo) : KN lo w' cs s :=
  h.grown (g := g) ⟨hk.os, hk.tape, hk.output, hk.size, fun i hi hn => hk.block i hi (fun e => hn (by rw [e]))⟩ hg
theorem KN.one_ (lo : Nat) (w : World) (c : Int) (b : Bool) (l : Int) : KN lo w (tcells 1 c b l none 0 0) (Ks.of (.one c b l)) := by
  have := KsR.cons (B := w.heap.size) (w := only w fun g => lo ≤ g) 1 c b l none 0 [] [] .nil .nil (Nat.le_refl _) (Nat.zero_le _) (Cells.nil _ _ _) .nil .nil
  rw [List.append_nil] at this
  exact this
/-- the rest behind a term that stands: two of them -/
theorem two_rest {w w1 w2 : World} {g F q : Nat} {par : Bool} {s : Sp.T} {r : Sp.T × Sr.M} {ca cs : List Value} (kd : Int) (hkd : kd = if par then 3 else 2) (hk : Keeps (fun i => i = g) w w1) (hw : w.heap.size ≤ q) (hq : q < w1.heap.size) (hg : g < w.heap.size) (lo : Nat) (hlo1 : w.heap.size ≤ lo) (hlo2 : lo ≤ w1.heap.size) (hqlo : q < lo)
    (ha : KN lo w2 ca (Ks.of s)) (h1 : r.2.steps ≤ F) (h2 : KN w1.heap.size w2 cs (Ks.of r.1)) (h3 : Blk w2 g 126 (Un.bcells F r.2)) (h4 : Keeps (fun i => i = g) w1 w2) :
    Calls Tryd.prog 115 #[.int .i64 kd, .agg ca.toArray, .agg cs.toArray] w2 fun e w3 => ∃ cs' : List Value, e = .returned (.agg cs'.toArray) ∧ (cs'.length = 5 ∧ ∀ u ∈ cs', u.oneCell' = true) ∧ Below w2.heap.size w2 w3 ∧ ∀ w4, w3.grownBy w4 (some q) → UnEnd w g F (Un.seq par s r) (.returned (.agg cs'.toArray)) w4 := by
  refine (two_any kd (Ks.of s) (Ks.of r.1) ca cs w2 lo ha (h2.low hlo2) (Ks.of_len _) (Ks.of_len _) (Nat.le_trans hlo2 h4.size)).mono ?_
  rintro e w3 ⟨cs', rfl, h5, h6⟩
  have h5' : KN lo w3 cs' (Ks.of (.two par s r.1)) := by
    rw [hkd] at h5
    exact h5
  refine ⟨cs', rfl, Ks.of_cells h5', h6, fun w4 h7 => .inl ⟨h1, ⟨cs', rfl, (h5'.grown h7 hqlo).low hlo1⟩, (h3.below h6).grown h7 (by intro e; injection e; omega), ?_⟩⟩
  exact ((hk.trans h4).trans (Keeps.of_below h6 _)).step (Keeps.of_grown h7) (fun i hi e => by injection e; omega)


set_option maxHeartbeats 2000000 in
theorem uone_any (w : World) (g F c l : Nat) (m : Sr.M) (k : Sr.M → Sp.T × Sr.M) (v : Value) (wr : Bool) (hk : RestOK w g F k v) (hb : Blk w g 126 (Un.bcells F m)) (hf : Sr.Fit F m) :
    Calls Tryd.prog 114 #[.pointer (some ⟨g, 0, none⟩), .int .i64 (c : Int), .bool wr, .int .i64 (l : Int), v] w (UnEnd w g F (Un.seq false (.one (c : Int) wr (l : Int)) (k m))) := by
  have hg := hb.lt
  obtain ⟨id, caps, rfl, hcf, h3⟩ := hk.ex
  have hbA : Below w.heap.size w ((w.alloc (.cells zterm.toArray 59)).alloc (.cells (tcells 1 c wr l none 0 0).toArray 59)) := below_alloc (below_alloc (Below.refl _ _) _) _
  have z0 := (Blk.new w 59 zterm).alloc (.cells (tcells 1 c wr l none 0 0).toArray 59)
  have y0 := Blk.new (w.alloc (.cells zterm.toArray 59)) 59 (tcells 1 c wr l none 0 0)
  have hsz : ((w.alloc (.cells zterm.toArray 59)).alloc (.cells (tcells 1 c wr l none 0 0).toArray 59)).heap.size = w.heap.size + 1 + 1 := by simp
  simp only [World.size_alloc] at y0
  obtain ⟨q, hq⟩ : ∃ q, q = w.heap.size := ⟨_, rfl⟩
  have HK := Lib.hid (And.intro h3 (And.intro hb (And.intro hf hq)))
  unfold zterm tcells at *
  clear h3 hb hf hk
  go_enter Tryd.func114, Tryd.ntmps114
  go_upto_region 2 with (fail)
  generalize ((w.alloc (.cells #[.int .i64 0, .int .i64 0, .bool false, .int .i64 0, .slice none 0 0] 59)).alloc (.cells #[.int .i64 1, .int .i64 (c : Int), .bool wr, .int .i64 (l : Int), .slice none 0 0] 59)) = W at hbA z0 y0 hsz ⊢
  rw [← hq] at z0 y0 hsz ⊢
  clear hq
  have hC : ∀ w1, Below w.heap.size w w1 → Calls Tryd.prog id caps w1 (UnEnd w1 g F (k m)) := fun w1 h1 => HK.out.1 w1 m (Keeps.of_below h1 _) (HK.out.2.1.below h1) HK.out.2.2.1
  have hwq : w.heap.size ≤ q := Nat.le_of_eq HK.out.2.2.2.symm
  refine wp_region_any (by kernel_rfl) ?_
  change wpAny _ _ _ _ _ _ _ (World.drew _)
  have hb1 : Below w.heap.size w W.drew := below_drew hbA
  have z1 := z0.drew
  have y1 := y0.drew
  have hq1 : q + 1 < W.drew.heap.size := by show q + 1 < W.heap.size; omega
  generalize W.drew = W1 at hb1 z1 y1 hq1 ⊢
  have x0 : W1.cell? ⟨q + 1, 0, none⟩ = some (.int .i64 1) := (y1.cell 0).trans rfl
  have x1 : W1.cell? ⟨q + 1, 1, none⟩ = some (.int .i64 (c : Int)) := (y1.cell 1).trans rfl
  have x2 : W1.cell? ⟨q + 1, 2, none⟩ = some (.bool wr) := (y1.cell 2).trans rfl
  have x3 : W1.cell? ⟨q + 1, 3, none⟩ = some (.int .i64 (l : Int)) := (y1.cell 3).trans rfl
  have x4 : W1.cell? ⟨q + 1, 4, none⟩ = some (.slice none 0 0) := (y1.cell 4).trans rfl
  have HC := Lib.hid hC
  have hqg : q ≠ g := by have := hwq; omega
  have hqg1 : q + 1 ≠ g := by have := hwq; omega
  clear hC hbA z0 y0 hsz
  refine wpAny_take (i := 1) (v := .func (.func id) #[] caps) rfl (by kernel_rfl) (by kernel_rfl) (by kernel_rfl) (fun _ _ _ h => h) (Or.inl ⟨by rfl, (by intro w; go_simp)⟩) ?_
  refine wpAny_ready (rs := [0, 2]) (by kernel_rfl) (by simp) ?_
  refine AllReady.cons rfl (fun K hK => ?_) (AllReady.cons rfl (fun K hK => ?_) AllReady.nil)
  · go_simp
    refine hK _ _ ?_
    clear hK K
    refine wpAny_ready (rs := [2]) (by kernel_rfl) (by simp) (AllReady.cons rfl (fun K hK => ?_) AllReady.nil)
    go_simp
    refine (HC.out W1 hb1).mono ?_
    rintro e w2 (⟨h1, ⟨cs, rfl, h2⟩, h3, h4⟩ | ⟨h1, rfl, h4⟩)
    · refine hK _ _ ?_
      clear hK K
      refine wpAny_ready (rs := [3]) (by kernel_rfl) (by simp) (AllReady.cons rfl (fun K hK => ?_) AllReady.nil)
      go_simp
      refine (two_rest (par := false) (s := .one (c : Int) wr (l : Int)) (q := q) 2 rfl (Keeps.of_below hb1 _) hwq (by omega) hg W1.heap.size hb1.size (Nat.le_refl _) (by omega) (KN.one_ _ _ _ _ _) h1 h2 h3 h4).mono ?_
      rintro e w3 ⟨cs', rfl, ⟨h5, h6⟩, hb3, hend⟩
      refine hK _ _ ?_
      clear hK K
      have z3 := (z1.keeps h4 hqg).below hb3
      refine wpAny_ready (rs := [4]) (by kernel_rfl) (by simp) (AllReady.cons rfl (fun K hK => ?_) AllReady.nil)
      rw [if_pos (by rfl)]
      refine wp_put_blk z3 cs' (by kernel_rfl) h5 h6 rfl rfl rfl ?_
      intro w4 hB4 hg4
      refine hK _ _ ?_
      clear hK K
      refine wpAny_done (by kernel_rfl) ?_ _
      go_wp2
      exact ret_blk hB4 rfl rfl Tryd.underlying59 rfl (by rw [h5]; kernel_rfl) rfl (hend w4 hg4)
    · go_wp2
      exact ⟨rfl, un_stop (r := Un.seq false _ (k m)) (Keeps.of_below hb1 _) h1 h4⟩
  · clear x0 x1 x2 x3 x4
    go_simp
    refine (HC.out W1 hb1).mono ?_
    rintro e w2 (⟨h1, ⟨cs, rfl, h2⟩, h3, h4⟩ | ⟨h1, rfl, h4⟩)
    · refine hK _ _ ?_
      clear hK K
      refine wpAny_ready (rs := [0]) (by kernel_rfl) (by simp) (AllReady.cons rfl (fun K hK => ?_) AllReady.nil)
      have y2 := y1.keeps h4 hqg1
      have x0 : w2.cell? ⟨q + 1, 0, none⟩ = some (.int .i64 1) := (y2.cell 0).trans rfl
      have x1 : w2.cell? ⟨q + 1, 1, none⟩ = some (.int .i64 (c : Int)) := (y2.cell 1).trans rfl
      have x2 : w2.cell? ⟨q + 1, 2, none⟩ = some (.bool wr) := (y2.cell 2).trans rfl
      have x3 : w2.cell? ⟨q + 1, 3, none⟩ = some (.int .i64 (l : Int)) := (y2.cell 3).trans rfl
      have x4 : w2.cell? ⟨q + 1, 4, none⟩ = some (.slice none 0 0) := (y2.cell 4).trans rfl
      go_simp
      refine hK _ _ ?_
      clear hK K
      refine wpAny_ready (rs := [3]) (by kernel_rfl) (by simp) (AllReady.cons rfl (fun K hK => ?_) AllReady.nil)
      go_simp
      refine (two_rest (par := false) (s := .one (c : Int) wr (l : Int)) (q := q) 2 rfl (Keeps.of_below hb1 _) hwq (by omega) hg W1.heap.size hb1.size (Nat.le_refl _) (by omega) (KN.one_ _ _ _ _ _) h1 h2 h3 h4).mono ?_
      rintro e w3 ⟨cs', rfl, ⟨h5, h6⟩, hb3, hend⟩
      refine hK _ _ ?_
      clear hK K
      have z3 := (z1.keeps h4 hqg).below hb3
      refine wpAny_ready (rs := [4]) (by kernel_rfl) (by simp) (AllReady.cons rfl (fun K hK => ?_) AllReady.nil)
      rw [if_pos (by rfl)]
      refine wp_put_blk z3 cs' (by kernel_rfl) h5 h6 rfl rfl rfl ?_
      intro w4 hB4 hg4
      refine hK _ _ ?_
      clear hK K
      refine wpAny_done (by kernel_rfl) ?_ _
      go_wp2
      exact ret_blk hB4 rfl rfl Tryd.underlying59 rfl (by rw [h5]; kernel_rfl) rfl (hend w4 hg4)
    · go_wp2
      exact ⟨rfl, un_stop (r := Un.seq false _ (k m)) (Keeps.of_below hb1 _) h1 h4⟩
end Go.Proofs.YtkjmddgnfgbioaaDoor


namespace Go.Proofs.YtkjmddgnfgbioaaDoor
set_option linter.unusedVariables false
set_option linter.unusedSimpArgs false
set_option maxRecDepth 100000
open Go.RowKit

namespace Un
theorem un_on (p : St.P) (env : Sr.Env) (l : Nat) (k : Sr.M → Sp.T × Sr.M) (m : Sr.M) (hk : ∀ m : Sr.M, m.steps ≤ (k m).2.steps) : m.steps ≤ (un p env l k m).2.steps := by
  rw [un_state]
  exact Nat.le_trans (Sr.run_on p _ _ m).steps (hk _)
theorem iter_on {f : Int → (Sr.M → Sp.T × Sr.M) → Sr.M → Sp.T × Sr.M} (hf : ∀ i k (m : Sr.M), (∀ m : Sr.M, m.steps ≤ (k m).2.steps) → m.steps ≤ (f i k m).2.steps) {k : Sr.M → Sp.T × Sr.M} (hk : ∀ m : Sr.M, m.steps ≤ (k m).2.steps) : ∀ n i (m : Sr.M), m.steps ≤ (iter n i f k m).2.steps
  | 0, _, m => hk m
  | n + 1, i, m => hf i _ m fun m => iter_on hf hk n (i + 1) m
end Un
def LoopOK (body : St.P) (n : Nat) : Prop := ∀ (w : World) (B g F : Nat) (m : Sr.M) (VE : Option Addr) (ce : Nat) (zs : List Ex.Bd) (l : Nat) (k : Sr.M → Sp.T × Sr.M) (v : Value) (i b : Int) (kd : Int) (nm : ByteArray) (ak an : Int) (sa : ByteArray) (aA : Option Addr) (al ac : Nat) (bk bn : Int) (sb : ByteArray) (bA : Option Addr) (bl bc : Nat) (D : Option Addr) (dl dc : Nat) (E : Option Addr) (el ec : Nat),
  (b - i).toNat = n → Ex.rng i → Ex.rng b → PR B w D dl body → dl ≤ dc → dc ≤ maxLen → B ≤ g → Blk w g 126 (Un.bcells F m) → Sr.Fit F m → F ≤ 2000 → EnvAt w (fun i => i = g) (.slice VE zs.length ce) zs → zs.length + 1 + body.size ≤ 549755813888 → l + body.size ≤ 576460752303423488 → RestOK w g F k v →
  Calls Tryd.prog 116 #[.pointer (some ⟨g, 0, none⟩), .agg (stcells kd nm (xcells ak an sa aA al ac) (xcells bk bn sb bA bl bc) D dl dc E el ec).toArray, .slice VE zs.length ce, .int .i64 (l : Int), .int .i64 i, .int .i64 b, v] w (UnEnd w g F (Un.iter n i (fun (i : Int) (k : Sr.M → Sp.T × Sr.M) (m : Sr.M) => Un.un body (Ex.bs zs ++ [(nm.data.toList, i)]) l k m.step) k m))

set_option maxHeartbeats 2000000 in
theorem loop_rest (body : St.P) (n : Nat) (ih : LoopOK body n) (w : World) (B g F : Nat) (VE : Option Addr) (ce : Nat) (zs : List Ex.Bd) (l : Nat) (k : Sr.M → Sp.T × Sr.M) (v : Value) (i b : Int) (kd : Int) (nm : ByteArray) (ak an : Int) (sa : ByteArray) (aA : Option Addr) (al ac : Nat) (bk bn : Int) (sb : ByteArray) (bA : Option Addr) (bl bc : Nat) (D : Option Addr) (dl dc : Nat) (E : Option Addr) (el ec : Nat) (pb ps pe pl pi pj pt : Nat)
    (hn : (b - i).toNat = n + 1) (hi : Ex.rng i) (hb : Ex.rng b) (hp : PR B w D dl body) (hd1 : dl ≤ dc) (hd2 : dc ≤ maxLen) (hB : B ≤ g) (hg : g < w.heap.size) (hF : F ≤ 2000) (hv : EnvAt w (fun i => i = g) (.slice VE zs.length ce) zs) (hz : zs.length + 1 + body.size ≤ 549755813888) (hl : l + body.size ≤ 576460752303423488) (hk : RestOK w g F k v)
    (c0 : w.cell? ⟨pb, 0, none⟩ = some (.pointer (some ⟨g, 0, none⟩))) (c1 : w.cell? ⟨ps, 0, none⟩ = some (.int .i64 kd)) (c2 : w.cell? ⟨ps, 1, none⟩ = some (.string nm)) (c3 : w.cell? ⟨ps, 2, none⟩ = some (.int .i64 ak)) (c4 : w.cell? ⟨ps, 3, none⟩ = some (.int .i64 an)) (c5 : w.cell? ⟨ps, 4, none⟩ = some (.string sa)) (c6 : w.cell? ⟨ps, 5, none⟩ = some (.slice aA al ac)) (c7 : w.cell? ⟨ps, 6, none⟩ = some (.int .i64 bk)) (c8 : w.cell? ⟨ps, 7, none⟩ = some (.int .i64 bn)) (c9 : w.cell? ⟨ps, 8, none⟩ = some (.string sb)) (c10 : w.cell? ⟨ps, 9, none⟩ = some (.slice bA bl bc)) (c11 : w.cell? ⟨ps, 10, none⟩ = some (.slice D dl dc)) (c12 : w.cell? ⟨ps, 11, none⟩ = some (.slice E el ec)) (c13 : w.cell? ⟨pe, 0, none⟩ = some (.slice VE zs.length ce)) (c14 : w.cell? ⟨pl, 0, none⟩ = some (.int .i64 (l : Int))) (c15 : w.cell? ⟨pi, 0, none⟩ = some (.int .i64 i)) (c16 : w.cell? ⟨pj, 0, none⟩ = some (.int .i64 b)) (c17 : w.cell? ⟨pt, 0, none⟩ = some v)
    (n0 : pb ≠ g) (n1 : ps ≠ g) (n2 : pe ≠ g) (n3 : pl ≠ g) (n4 : pi ≠ g) (n5 : pj ≠ g) (n6 : pt ≠ g) :
    RestOK w g F (fun m => Un.iter n (i + 1) (fun (i : Int) (k : Sr.M → Sp.T × Sr.M) (m : Sr.M) => Un.un body (Ex.bs zs ++ [(nm.data.toList, i)]) l k m.step) k m) (.func (.func 145) #[] #[.pointer (some ⟨pb, 0, none⟩), .pointer (some ⟨ps, 0, none⟩), .pointer (some ⟨pe, 0, none⟩), .pointer (some ⟨pl, 0, none⟩), .pointer (some ⟨pi, 0, none⟩), .pointer (some ⟨pj, 0, none⟩), .pointer (some ⟨pt, 0, none⟩)]) := by
  refine ⟨⟨_, _, rfl, fun _ _ => by rfl, fun w' m hkw hbl hf => ?_⟩, fun m => ?_⟩
  · have hlt : i < b := by omega
    have hwr : IntKind.i64.wrap (i + 1) = i + 1 := by
      unfold Ex.rng at hi hb
      rw [IntKind.wrap_i64]
      omega
    have hon : ∀ w1, Below w'.heap.size w' w1 → ∀ q, w'.heap.size ≤ q → q < w1.heap.size → Calls Tryd.prog 116 #[.pointer (some ⟨g, 0, none⟩), .agg (stcells kd nm (xcells ak an sa aA al ac) (xcells bk bn sb bA bl bc) D dl dc E el ec).toArray, .slice VE zs.length ce, .int .i64 (l : Int), .int .i64 (i + 1), .int .i64 b, v] w1 (UnMid w' g F q (Un.iter n (i + 1) (fun (i : Int) (k : Sr.M → Sp.T × Sr.M) (m : Sr.M) => Un.un body (Ex.bs zs ++ [(nm.data.toList, i)]) l k m.step) k m) w1) := fun w1 hb1 q hq1 hq2 => by
      have hkk : Keeps (fun i => i = g) w w1 := hkw.trans (Keeps.of_below hb1 _)
      refine (ih w1 B g F m VE ce zs l k v (i + 1) b kd nm ak an sa aA al ac bk bn sb bA bl bc D dl dc E el ec (by omega) (by unfold Ex.rng at *; omega) hb (hp.keepU hkk hB hg) hd1 hd2 hB (hbl.below hb1) hf hF (hv.keep hkk) hz hl (hk.keep hkk)).mono ?_
      exact fun e w2 h => h.mid (Keeps.of_below hb1 _) hq1 hq2 (Nat.lt_of_lt_of_le hg hkw.size)
    have hbA : Below w'.heap.size w' (w'.alloc (.cells zterm.toArray 59)) := below_alloc (Below.refl _ _) _
    have z0 := Blk.new w' 59 zterm
    obtain ⟨q, hq⟩ : ∃ q, q = w'.heap.size := ⟨_, rfl⟩
    have hgw : g < w'.heap.size := Nat.lt_of_lt_of_le hg hkw.size
    have k0 := hkw.cell c0 n0
    have k1 := hkw.cell c1 n1
    have k2 := hkw.cell c2 n1
    have k3 := hkw.cell c3 n1
    have k4 := hkw.cell c4 n1
    have k5 := hkw.cell c5 n1
    have k6 := hkw.cell c6 n1
    have k7 := hkw.cell c7 n1
    have k8 := hkw.cell c8 n1
    have k9 := hkw.cell c9 n1
    have k10 := hkw.cell c10 n1
    have k11 := hkw.cell c11 n1
    have k12 := hkw.cell c12 n1
    have k13 := hkw.cell c13 n2
    have k14 := hkw.cell c14 n3
    have k15 := hkw.cell c15 n4
    have k16 := hkw.cell c16 n5
    have k17 := hkw.cell c17 n6
    have HO := Lib.hid (And.intro hon hq)
    clear hon hp hd1 hd2 hv hk hkw hbl hf hz hl hlt hn c0 c1 c2 c3 c4 c5 c6 c7 c8 c9 c10 c11 c12 c13 c14 c15 c16 c17
    unfold zterm at z0 hbA
    unfold stcells xcells at HO
    go_enter Tryd.func145, Tryd.ntmps145
    go_upto_region 1 with (fail)
    generalize (w'.alloc (.cells #[.int .i64 0, .int .i64 0, .bool false, .int .i64 0, .slice none 0 0] 59)) = W at hbA z0 ⊢
    rw [← hq] at z0 ⊢
    clear hq
    replace k0 := (hbA.cell (World.block_lt_of_cell? _ _ k0)).trans k0
    replace k1 := (hbA.cell (World.block_lt_of_cell? _ _ k1)).trans k1
    replace k2 := (hbA.cell (World.block_lt_of_cell? _ _ k2)).trans k2
    replace k3 := (hbA.cell (World.block_lt_of_cell? _ _ k3)).trans k3
    replace k4 := (hbA.cell (World.block_lt_of_cell? _ _ k4)).trans k4
    replace k5 := (hbA.cell (World.block_lt_of_cell? _ _ k5)).trans k5
    replace k6 := (hbA.cell (World.block_lt_of_cell? _ _ k6)).trans k6
    replace k7 := (hbA.cell (World.block_lt_of_cell? _ _ k7)).trans k7
    replace k8 := (hbA.cell (World.block_lt_of_cell? _ _ k8)).trans k8
    replace k9 := (hbA.cell (World.block_lt_of_cell? _ _ k9)).trans k9
    replace k10 := (hbA.cell (World.block_lt_of_cell? _ _ k10)).trans k10
    replace k11 := (hbA.cell (World.block_lt_of_cell? _ _ k11)).trans k11
    replace k12 := (hbA.cell (World.block_lt_of_cell? _ _ k12)).trans k12
    replace k13 := (hbA.cell (World.block_lt_of_cell? _ _ k13)).trans k13
    replace k14 := (hbA.cell (World.block_lt_of_cell? _ _ k14)).trans k14
    replace k15 := (hbA.cell (World.block_lt_of_cell? _ _ k15)).trans k15
    replace k16 := (hbA.cell (World.block_lt_of_cell? _ _ k16)).trans k16
    replace k17 := (hbA.cell (World.block_lt_of_cell? _ _ k17)).trans k17
    have HB := Lib.hid hbA
    clear hbA
    go_wp2_with fail
    refine (HO.out.1 W HB.out q (Nat.le_of_eq HO.out.2.symm) z0.lt).mono ?_
    rintro e w5 (⟨cs, rfl, ⟨h5, h1⟩, hk5, hend⟩ | ⟨rfl, hend⟩)
    · have hqg : q ≠ g := by have := HO.out.2; omega
      have hz5 := z0.keeps hk5 hqg
      have HE := Lib.hid (And.intro hend h5)
      clear hend
      go_wp2_with (first | (refine wpl_put_blk hz5 cs (by kernel_rfl) HE.out.2 h1 rfl rfl rfl rfl ?_; intro w6 hB6 hg6) | fail)
      exact ret_blk hB6 rfl rfl Tryd.underlying59 rfl (by rw [HE.out.2]; kernel_rfl) rfl (HE.out.1 w6 hg6)
    · go_wp2
      exact ⟨rfl, hend⟩
  · exact Un.iter_on (fun i k m hk => Nat.le_trans (Nat.le_succ _) (Un.un_on body _ _ k m.step hk)) hk.on _ _ _
end Go.Proofs.YtkjmddgnfgbioaaDoor


namespace Go.Proofs.YtkjmddgnfgbioaaDoor
set_option linter.unusedVariables false
set_option linter.unusedSimpArgs false
set_option maxRecDepth 100000
open Go.RowKit

set_option maxHeartbeats 4000000 in
theorem uloop_any (body : St.P) (ih : BlockU body) : ∀ n : Nat, LoopOK body n := by
  intro n
  induction n with
  | zero =>
    intro w B g F m VE ce zs l k v i b kd nm ak an sa aA al ac bk bn sb bA bl bc D dl dc E el ec hn hi hb hp hd1 hd2 hB hbl hf hF hv hz hl hk
    obtain ⟨id, caps, rfl, hcf, h3⟩ := hk.ex
    have hb0 : Below w.heap.size w ((((((((w.alloc (.cells #[.pointer (some ⟨g, 0, none⟩)] 124)).alloc (.cells #[.int .i64 kd, .string nm, .int .i64 ak, .int .i64 an, .string sa, .slice aA al ac, .int .i64 bk, .int .i64 bn, .string sb, .slice bA bl bc, .slice D dl dc, .slice E el ec] 40)).alloc (.cells #[.slice VE zs.length ce] 162)).alloc (.cells #[.int .i64 (l : Int)] 3)).alloc (.cells #[.int .i64 i] 3)).alloc (.cells #[.int .i64 b] 3)).alloc (.cells #[.func (.func id) #[] caps] 163)).alloc (.cells #[.int .i64 0, .int .i64 0, .bool false, .int .i64 0, .slice none 0 0] 59)) := below_alloc (below_alloc (below_alloc (below_alloc (below_alloc (below_alloc (below_alloc (below_alloc (Below.refl _ _) _) _) _) _) _) _) _) _
    have x0 := ((((((((Blk.new w 124 [.pointer (some ⟨g, 0, none⟩)]).alloc (.cells #[.int .i64 kd, .string nm, .int .i64 ak, .int .i64 an, .string sa, .slice aA al ac, .int .i64 bk, .int .i64 bn, .string sb, .slice bA bl bc, .slice D dl dc, .slice E el ec] 40)).alloc (.cells #[.slice VE zs.length ce] 162)).alloc (.cells #[.int .i64 (l : Int)] 3)).alloc (.cells #[.int .i64 i] 3)).alloc (.cells #[.int .i64 b] 3)).alloc (.cells #[.func (.func id) #[] caps] 163)).alloc (.cells #[.int .i64 0, .int .i64 0, .bool false, .int .i64 0, .slice none 0 0] 59))
    have x1 := (((((((Blk.new (w.alloc (.cells #[.pointer (some ⟨g, 0, none⟩)] 124)) 40 [.int .i64 kd, .string nm, .int .i64 ak, .int .i64 an, .string sa, .slice aA al ac, .int .i64 bk, .int .i64 bn, .string sb, .slice bA bl bc, .slice D dl dc, .slice E el ec]).alloc (.cells #[.slice VE zs.length ce] 162)).alloc (.cells #[.int .i64 (l : Int)] 3)).alloc (.cells #[.int .i64 i] 3)).alloc (.cells #[.int .i64 b] 3)).alloc (.cells #[.func (.func id) #[] caps] 163)).alloc (.cells #[.int .i64 0, .int .i64 0, .bool false, .int .i64 0, .slice none 0 0] 59))
    have x2 := ((((((Blk.new ((w.alloc (.cells #[.pointer (some ⟨g, 0, none⟩)] 124)).alloc (.cells #[.int .i64 kd, .string nm, .int .i64 ak, .int .i64 an, .string sa, .slice aA al ac, .int .i64 bk, .int .i64 bn, .string sb, .slice bA bl bc, .slice D dl dc, .slice E el ec] 40)) 162 [.slice VE zs.length ce]).alloc (.cells #[.int .i64 (l : Int)] 3)).alloc (.cells #[.int .i64 i] 3)).alloc (.cells #[.int .i64 b] 3)).alloc (.cells #[.func (.func id) #[] caps] 163)).alloc (.cells #[.int .i64 0, .int .i64 0, .bool false, .int .i64 0, .slice none 0 0] 59))
    have x3 := (((((Blk.new (((w.alloc (.cells #[.pointer (some ⟨g, 0, none⟩)] 124)).alloc (.cells #[.int .i64 kd, .string nm, .int .i64 ak, .int .i64 an, .string sa, .slice aA al ac, .int .i64 bk, .int .i64 bn, .string sb, .slice bA bl bc, .slice D dl dc, .slice E el ec] 40)).alloc (.cells #[.slice VE zs.length ce] 162)) 3 [.int .i64 (l : Int)]).alloc (.cells #[.int .i64 i] 3)).alloc (.cells #[.int .i64 b] 3)).alloc (.cells #[.func (.func id) #[] caps] 163)).alloc (.cells #[.int .i64 0, .int .i64 0, .bool false, .int .i64 0, .slice none 0 0] 59))
    have x4 := ((((Blk.new ((((w.alloc (.cells #[.pointer (some ⟨g, 0, none⟩)] 124)).alloc (.cells #[.int .i64 kd, .string nm, .int .i64 ak, .int .i64 an, .string sa, .slice aA al ac, .int .i64 bk, .int .i64 bn, .string sb, .slice bA bl bc, .slice D dl dc, .slice E el ec] 40)).alloc (.cells #[.slice VE zs.length ce] 162)).alloc (.cells #[.int .i64 (l : Int)] 3)) 3 [.int .i64 i]).alloc (.cells #[.int .i64 b] 3)).alloc (.cells #[.func (.func id) #[] caps] 163)).alloc (.cells #[.int .i64 0, .int .i64 0, .bool false, .int .i64 0, .slice none 0 0] 59))
    have x5 := (((Blk.new (((((w.alloc (.cells #[.pointer (some ⟨g, 0, none⟩)] 124)).alloc (.cells #[.int .i64 kd, .string nm, .int .i64 ak, .int .i64 an, .string sa, .slice aA al ac, .int .i64 bk, .int .i64 bn, .string sb, .slice bA bl bc, .slice D dl dc, .slice E el ec] 40)).alloc (.cells #[.slice VE zs.length ce] 162)).alloc (.cells #[.int .i64 (l : Int)] 3)).alloc (.cells #[.int .i64 i] 3)) 3 [.int .i64 b]).alloc (.cells #[.func (.func id) #[] caps] 163)).alloc (.cells #[.int .i64 0, .int .i64 0, .bool false, .int .i64 0, .slice none 0 0] 59))
    have x6 := ((Blk.new ((((((w.alloc (.cells #[.pointer (some ⟨g, 0, none⟩)] 124)).alloc (.cells #[.int .i64 kd, .string nm, .int .i64 ak, .int .i64 an, .string sa, .slice aA al ac, .int .i64 bk, .int .i64 bn, .string sb, .slice bA bl bc, .slice D dl dc, .slice E el ec] 40)).alloc (.cells #[.slice VE zs.length ce] 162)).alloc (.cells #[.int .i64 (l : Int)] 3)).alloc (.cells #[.int .i64 i] 3)).alloc (.cells #[.int .i64 b] 3)) 163 [.func (.func id) #[] caps]).alloc (.cells #[.int .i64 0, .int .i64 0, .bool false, .int .i64 0, .slice none 0 0] 59))
    have x7 := (Blk.new (((((((w.alloc (.cells #[.pointer (some ⟨g, 0, none⟩)] 124)).alloc (.cells #[.int .i64 kd, .string nm, .int .i64 ak, .int .i64 an, .string sa, .slice aA al ac, .int .i64 bk, .int .i64 bn, .string sb, .slice bA bl bc, .slice D dl dc, .slice E el ec] 40)).alloc (.cells #[.slice VE zs.length ce] 162)).alloc (.cells #[.int .i64 (l : Int)] 3)).alloc (.cells #[.int .i64 i] 3)).alloc (.cells #[.int .i64 b] 3)).alloc (.cells #[.func (.func id) #[] caps] 163)) 59 [.int .i64 0, .int .i64 0, .bool false, .int .i64 0, .slice none 0 0])
    simp only [World.size_alloc] at x1 x2 x3 x4 x5 x6 x7
    obtain ⟨Q, hq⟩ : ∃ q, q = w.heap.size := ⟨_, rfl⟩
    have HO := Lib.hid (And.intro (fun w' (hb : Below w.heap.size w w') m h1 h2 => h3 w' m (Keeps.of_below hb _) h1 h2) (And.intro (show g < w.heap.size from hbl.lt) hq))
    have HK := Lib.hid hk
    clear h3
    unfold stcells xcells at *
    simp only [List.cons_append, List.nil_append] at *
    go_enter Tryd.func116, Tryd.ntmps116
    have hge : b ≤ i := by omega
    go_upto_region 1 with (fail)
    generalize ((((((((w.alloc (.cells #[.pointer (some ⟨g, 0, none⟩)] 124)).alloc (.cells #[.int .i64 kd, .string nm, .int .i64 ak, .int .i64 an, .string sa, .slice aA al ac, .int .i64 bk, .int .i64 bn, .string sb, .slice bA bl bc, .slice D dl dc, .slice E el ec] 40)).alloc (.cells #[.slice VE zs.length ce] 162)).alloc (.cells #[.int .i64 (l : Int)] 3)).alloc (.cells #[.int .i64 i] 3)).alloc (.cells #[.int .i64 b] 3)).alloc (.cells #[.func (.func id) #[] caps] 163)).alloc (.cells #[.int .i64 0, .int .i64 0, .bool false, .int .i64 0, .slice none 0 0] 59)) = W at hb0 x0 x1 x2 x3 x4 x5 x6 x7 ⊢
    rw [← hq] at x0 x1 x2 x3 x4 x5 x6 x7 ⊢
    have HB := Lib.hid hb0
    clear hq hb0
    have c0 : W.cell? ⟨Q, 0, none⟩ = some (.pointer (some ⟨g, 0, none⟩)) := (x0.cell 0).trans rfl
    have c1 : W.cell? ⟨Q + 1, 0, none⟩ = some (.int .i64 kd) := (x1.cell 0).trans rfl
    have c2 : W.cell? ⟨Q + 1, 1, none⟩ = some (.string nm) := (x1.cell 1).trans rfl
    have c3 : W.cell? ⟨Q + 1, 2, none⟩ = some (.int .i64 ak) := (x1.cell 2).trans rfl
    have c4 : W.cell? ⟨Q + 1, 3, none⟩ = some (.int .i64 an) := (x1.cell 3).trans rfl
    have c5 : W.cell? ⟨Q + 1, 4, none⟩ = some (.string sa) := (x1.cell 4).trans rfl
    have c6 : W.cell? ⟨Q + 1, 5, none⟩ = some (.slice aA al ac) := (x1.cell 5).trans rfl
    have c7 : W.cell? ⟨Q + 1, 6, none⟩ = some (.int .i64 bk) := (x1.cell 6).trans rfl
    have c8 : W.cell? ⟨Q + 1, 7, none⟩ = some (.int .i64 bn) := (x1.cell 7).trans rfl
    have c9 : W.cell? ⟨Q + 1, 8, none⟩ = some (.string sb) := (x1.cell 8).trans rfl
    have c10 : W.cell? ⟨Q + 1, 9, none⟩ = some (.slice bA bl bc) := (x1.cell 9).trans rfl
    have c11 : W.cell? ⟨Q + 1, 10, none⟩ = some (.slice D dl dc) := (x1.cell 10).trans rfl
    have c12 : W.cell? ⟨Q + 1, 11, none⟩ = some (.slice E el ec) := (x1.cell 11).trans rfl
    have c13 : W.cell? ⟨Q + 1 + 1, 0, none⟩ = some (.slice VE zs.length ce) := (x2.cell 0).trans rfl
    have c14 : W.cell? ⟨Q + 1 + 1 + 1, 0, none⟩ = some (.int .i64 (l : Int)) := (x3.cell 0).trans rfl
    have c15 : W.cell? ⟨Q + 1 + 1 + 1 + 1, 0, none⟩ = some (.int .i64 i) := (x4.cell 0).trans rfl
    have c16 : W.cell? ⟨Q + 1 + 1 + 1 + 1 + 1, 0, none⟩ = some (.int .i64 b) := (x5.cell 0).trans rfl
    have c17 : W.cell? ⟨Q + 1 + 1 + 1 + 1 + 1 + 1, 0, none⟩ = some (.func (.func id) #[] caps) := (x6.cell 0).trans rfl
    have z0 := x7
    clear x0 x1 x2 x3 x4 x5 x6 x7
    go_wp2_with fail
    refine ((HO.out.1 W HB.out m (hbl.below HB.out) hf).mono (fun e w2 h => UnEnd.mid (q := Q + 1 + 1 + 1 + 1 + 1 + 1 + 1) (Keeps.of_below HB.out _) (by have := HO.out.2.2; omega) z0.lt HO.out.2.1 h)).mono ?_
    rintro e w5 (⟨cs, rfl, ⟨h5, h1⟩, hk5, hend⟩ | ⟨rfl, hend⟩)
    · have hqg : Q + 1 + 1 + 1 + 1 + 1 + 1 + 1 ≠ g := by have := HO.out.2; omega
      have hz5 := z0.keeps hk5 hqg
      have HE := Lib.hid (And.intro hend h5)
      clear hend
      go_wp2_with (first | (refine wpl_put_blk hz5 cs (by kernel_rfl) HE.out.2 h1 rfl rfl rfl rfl ?_; intro w6 hB6 hg6) | fail)
      exact ret_blk hB6 rfl rfl Tryd.underlying59 rfl (by rw [HE.out.2]; kernel_rfl) rfl (HE.out.1 w6 hg6)
    · go_wp2
      exact ⟨rfl, hend⟩
  | succ n ihn =>
    intro w B g F m VE ce zs l k v i b kd nm ak an sa aA al ac bk bn sb bA bl bc D dl dc E el ec hn hi hb hp hd1 hd2 hB hbl hf hF hv hz hl hk
    obtain ⟨id, caps, rfl, hcf, h3⟩ := hk.ex
    have hb0 : Below w.heap.size w ((((((((w.alloc (.cells #[.pointer (some ⟨g, 0, none⟩)] 124)).alloc (.cells #[.int .i64 kd, .string nm, .int .i64 ak, .int .i64 an, .string sa, .slice aA al ac, .int .i64 bk, .int .i64 bn, .string sb, .slice bA bl bc, .slice D dl dc, .slice E el ec] 40)).alloc (.cells #[.slice VE zs.length ce] 162)).alloc (.cells #[.int .i64 (l : Int)] 3)).alloc (.cells #[.int .i64 i] 3)).alloc (.cells #[.int .i64 b] 3)).alloc (.cells #[.func (.func id) #[] caps] 163)).alloc (.cells #[.int .i64 0, .int .i64 0, .bool false, .int .i64 0, .slice none 0 0] 59)) := below_alloc (below_alloc (below_alloc (below_alloc (below_alloc (below_alloc (below_alloc (below_alloc (Below.refl _ _) _) _) _) _) _) _) _) _
    have x0 := ((((((((Blk.new w 124 [.pointer (some ⟨g, 0, none⟩)]).alloc (.cells #[.int .i64 kd, .string nm, .int .i64 ak, .int .i64 an, .string sa, .slice aA al ac, .int .i64 bk, .int .i64 bn, .string sb, .slice bA bl bc, .slice D dl dc, .slice E el ec] 40)).alloc (.cells #[.slice VE zs.length ce] 162)).alloc (.cells #[.int .i64 (l : Int)] 3)).alloc (.cells #[.int .i64 i] 3)).alloc (.cells #[.int .i64 b] 3)).alloc (.cells #[.func (.func id) #[] caps] 163)).alloc (.cells #[.int .i64 0, .int .i64 0, .bool false, .int .i64 0, .slice none 0 0] 59))
    have x1 := (((((((Blk.new (w.alloc (.cells #[.pointer (some ⟨g, 0, none⟩)] 124)) 40 [.int .i64 kd, .string nm, .int .i64 ak, .int .i64 an, .string sa, .slice aA al ac, .int .i64 bk, .int .i64 bn, .string sb, .slice bA bl bc, .slice D dl dc, .slice E el ec]).alloc (.cells #[.slice VE zs.length ce] 162)).alloc (.cells #[.int .i64 (l : Int)] 3)).alloc (.cells #[.int .i64 i] 3)).alloc (.cells #[.int .i64 b] 3)).alloc (.cells #[.func (.func id) #[] caps] 163)).alloc (.cells #[.int .i64 0, .int .i64 0, .bool false, .int .i64 0, .slice none 0 0] 59))
    have x2 := ((((((Blk.new ((w.alloc (.cells #[.pointer (some ⟨g, 0, none⟩)] 124)).alloc (.cells #[.int .i64 kd, .string nm, .int .i64 ak, .int .i64 an, .string sa, .slice aA al ac, .int .i64 bk, .int .i64 bn, .string sb, .slice bA bl bc, .slice D dl dc, .slice E el ec] 40)) 162 [.slice VE zs.length ce]).alloc (.cells #[.int .i64 (l : Int)] 3)).alloc (.cells #[.int .i64 i] 3)).alloc (.cells #[.int .i64 b] 3)).alloc (.cells #[.func (.func id) #[] caps] 163)).alloc (.cells #[.int .i64 0, .int .i64 0, .bool false, .int .i64 0, .slice none 0 0] 59))
    have x3 := (((((Blk.new (((w.alloc (.cells #[.pointer (some ⟨g, 0, none⟩)] 124)).alloc (.cells #[.int .i64 kd, .string nm, .int .i64 ak, .int .i64 an, .string sa, .slice aA al ac, .int .i64 bk, .int .i64 bn, .string sb, .slice bA bl bc, .slice D dl dc, .slice E el ec] 40)).alloc (.cells #[.slice VE zs.length ce] 162)) 3 [.int .i64 (l : Int)]).alloc (.cells #[.int .i64 i] 3)).alloc (.cells #[.int .i64 b] 3)).alloc (.cells #[.func (.func id) #[] caps] 163)).alloc (.cells #[.int .i64 0, .int .i64 0, .bool false, .int .i64 0, .slice none 0 0] 59))
    have x4 := ((((Blk.new ((((w.alloc (.cells #[.pointer (some ⟨g, 0, none⟩)] 124)).alloc (.cells #[.int .i64 kd, .string nm, .int .i64 ak, .int .i64 an, .string sa, .slice aA al ac, .int .i64 bk, .int .i64 bn, .string sb, .slice bA bl bc, .slice D dl dc, .slice E el ec] 40)).alloc (.cells #[.slice VE zs.length ce] 162)).alloc (.cells #[.int .i64 (l : Int)] 3)) 3 [.int .i64 i]).alloc (.cells #[.int .i64 b] 3)).alloc (.cells #[.func (.func id) #[] caps] 163)).alloc (.cells #[.int .i64 0, .int .i64 0, .bool false, .int .i64 0, .slice none 0 0] 59))
    have x5 := (((Blk.new (((((w.alloc (.cells #[.pointer (some ⟨g, 0, none⟩)] 124)).alloc (.cells #[.int .i64 kd, .string nm, .int .i64 ak, .int .i64 an, .string sa, .slice aA al ac, .int .i64 bk, .int .i64 bn, .string sb, .slice bA bl bc, .slice D dl dc, .slice E el ec] 40)).alloc (.cells #[.slice VE zs.length ce] 162)).alloc (.cells #[.int .i64 (l : Int)] 3)).alloc (.cells #[.int .i64 i] 3)) 3 [.int .i64 b]).alloc (.cells #[.func (.func id) #[] caps] 163)).alloc (.cells #[.int .i64 0, .int .i64 0, .bool false, .int .i64 0, .slice none 0 0] 59))
    have x6 := ((Blk.new ((((((w.alloc (.cells #[.pointer (some ⟨g, 0, none⟩)] 124)).alloc (.cells #[.int .i64 kd, .string nm, .int .i64 ak, .int .i64 an, .string sa, .slice aA al ac, .int .i64 bk, .int .i64 bn, .string sb, .slice bA bl bc, .slice D dl dc, .slice E el ec] 40)).alloc (.cells #[.slice VE zs.length ce] 162)).alloc (.cells #[.int .i64 (l : Int)] 3)).alloc (.cells #[.int .i64 i] 3)).alloc (.cells #[.int .i64 b] 3)) 163 [.func (.func id) #[] caps]).alloc (.cells #[.int .i64 0, .int .i64 0, .bool false, .int .i64 0, .slice none 0 0] 59))
    have x7 := (Blk.new (((((((w.alloc (.cells #[.pointer (some ⟨g, 0, none⟩)] 124)).alloc (.cells #[.int .i64 kd, .string nm, .int .i64 ak, .int .i64 an, .string sa, .slice aA al ac, .int .i64 bk, .int .i64 bn, .string sb, .slice bA bl bc, .slice D dl dc, .slice E el ec] 40)).alloc (.cells #[.slice VE zs.length ce] 162)).alloc (.cells #[.int .i64 (l : Int)] 3)).alloc (.cells #[.int .i64 i] 3)).alloc (.cells #[.int .i64 b] 3)).alloc (.cells #[.func (.func id) #[] caps] 163)) 59 [.int .i64 0, .int .i64 0, .bool false, .int .i64 0, .slice none 0 0])
    simp only [World.size_alloc] at x1 x2 x3 x4 x5 x6 x7
    obtain ⟨Q, hq⟩ : ∃ q, q = w.heap.size := ⟨_, rfl⟩
    have HO := Lib.hid (And.intro (fun w' (hb : Below w.heap.size w w') m h1 h2 => h3 w' m (Keeps.of_below hb _) h1 h2) (And.intro (show g < w.heap.size from hbl.lt) hq))
    have HK := Lib.hid hk
    clear h3
    unfold stcells xcells at *
    simp only [List.cons_append, List.nil_append] at *
    go_enter Tryd.func116, Tryd.ntmps116
    have hlt : ¬ b ≤ i := by omega
    go_upto_region 1 with (fail)
    generalize ((((((((w.alloc (.cells #[.pointer (some ⟨g, 0, none⟩)] 124)).alloc (.cells #[.int .i64 kd, .string nm, .int .i64 ak, .int .i64 an, .string sa, .slice aA al ac, .int .i64 bk, .int .i64 bn, .string sb, .slice bA bl bc, .slice D dl dc, .slice E el ec] 40)).alloc (.cells #[.slice VE zs.length ce] 162)).alloc (.cells #[.int .i64 (l : Int)] 3)).alloc (.cells #[.int .i64 i] 3)).alloc (.cells #[.int .i64 b] 3)).alloc (.cells #[.func (.func id) #[] caps] 163)).alloc (.cells #[.int .i64 0, .int .i64 0, .bool false, .int .i64 0, .slice none 0 0] 59)) = W at hb0 x0 x1 x2 x3 x4 x5 x6 x7 ⊢
    rw [← hq] at x0 x1 x2 x3 x4 x5 x6 x7 ⊢
    have HB := Lib.hid hb0
    clear hq hb0
    have c0 : W.cell? ⟨Q, 0, none⟩ = some (.pointer (some ⟨g, 0, none⟩)) := (x0.cell 0).trans rfl
    have c1 : W.cell? ⟨Q + 1, 0, none⟩ = some (.int .i64 kd) := (x1.cell 0).trans rfl
    have c2 : W.cell? ⟨Q + 1, 1, none⟩ = some (.string nm) := (x1.cell 1).trans rfl
    have c3 : W.cell? ⟨Q + 1, 2, none⟩ = some (.int .i64 ak) := (x1.cell 2).trans rfl
    have c4 : W.cell? ⟨Q + 1, 3, none⟩ = some (.int .i64 an) := (x1.cell 3).trans rfl
    have c5 : W.cell? ⟨Q + 1, 4, none⟩ = some (.string sa) := (x1.cell 4).trans rfl
    have c6 : W.cell? ⟨Q + 1, 5, none⟩ = some (.slice aA al ac) := (x1.cell 5).trans rfl
    have c7 : W.cell? ⟨Q + 1, 6, none⟩ = some (.int .i64 bk) := (x1.cell 6).trans rfl
    have c8 : W.cell? ⟨Q + 1, 7, none⟩ = some (.int .i64 bn) := (x1.cell 7).trans rfl
    have c9 : W.cell? ⟨Q + 1, 8, none⟩ = some (.string sb) := (x1.cell 8).trans rfl
    have c10 : W.cell? ⟨Q + 1, 9, none⟩ = some (.slice bA bl bc) := (x1.cell 9).trans rfl
    have c11 : W.cell? ⟨Q + 1, 10, none⟩ = some (.slice D dl dc) := (x1.cell 10).trans rfl
    have c12 : W.cell? ⟨Q + 1, 11, none⟩ = some (.slice E el ec) := (x1.cell 11).trans rfl
    have c13 : W.cell? ⟨Q + 1 + 1, 0, none⟩ = some (.slice VE zs.length ce) := (x2.cell 0).trans rfl
    have c14 : W.cell? ⟨Q + 1 + 1 + 1, 0, none⟩ = some (.int .i64 (l : Int)) := (x3.cell 0).trans rfl
    have c15 : W.cell? ⟨Q + 1 + 1 + 1 + 1, 0, none⟩ = some (.int .i64 i) := (x4.cell 0).trans rfl
    have c16 : W.cell? ⟨Q + 1 + 1 + 1 + 1 + 1, 0, none⟩ = some (.int .i64 b) := (x5.cell 0).trans rfl
    have c17 : W.cell? ⟨Q + 1 + 1 + 1 + 1 + 1 + 1, 0, none⟩ = some (.func (.func id) #[] caps) := (x6.cell 0).trans rfl
    have z0 := x7
    clear x0 x1 x2 x3 x4 x5 x6 x7
    have hmore : m.steps + 1 ≤ (Un.iter (n + 1) i (fun (i : Int) (k : Sr.M → Sp.T × Sr.M) (m : Sr.M) => Un.un body (Ex.bs zs ++ [(nm.data.toList, i)]) l k m.step) k m).2.steps := Un.un_on body _ _ _ m.step (fun m => Un.iter_on (fun i k m hk => Nat.le_trans (Nat.le_succ _) (Un.un_on body _ _ k m.step hk)) hk.on _ _ _)
    have blW := hbl.below HB.out
    by_cases hst : m.steps = F
    · have hg2 := ustep_out W g F m blW hf.len hst
      have hend : F < (Un.iter (n + 1) i (fun (i : Int) (k : Sr.M → Sp.T × Sr.M) (m : Sr.M) => Un.un body (Ex.bs zs ++ [(nm.data.toList, i)]) l k m.step) k m).2.steps := by omega
      have HH := Lib.hid hend
      clear hend hmore hst
      go_wp2_with fail
      refine hg2.mono ?_
      rintro e w1 ⟨rfl, hb1⟩
      go_wp2
      exact ⟨rfl, un_stop (Keeps.of_below HB.out _) HH.out (Keeps.of_below hb1 _)⟩
    · have hfs : Sr.Fit F m.step := ⟨hf.len, hf.rg, by have := hf.st; show m.steps + 1 ≤ F; omega, by have := hf.tr; show m.trace.length ≤ m.steps + 1; omega⟩
      have hg2 := ustep_ok W g F m blW hf.len (by have := hf.st; omega) hF
      clear hmore hst
      go_wp2_with fail
      refine hg2.mono ?_
      rintro e w1 ⟨rfl, bl1, hg1⟩
      have hk1 : Keeps (fun i => i = g) W w1 := (Keeps.of_grown hg1).mono fun i hi => by injection hi
      have hkw : Keeps (fun i => i = g) w w1 := (Keeps.of_below HB.out _).trans hk1
      obtain ⟨-, hgw, hQ⟩ := HO.out
      have d0 := hk1.cell c0 (by show Q ≠ g; omega)
      have d1 := hk1.cell c1 (by show Q + 1 ≠ g; omega)
      have d2 := hk1.cell c2 (by show Q + 1 ≠ g; omega)
      have d3 := hk1.cell c3 (by show Q + 1 ≠ g; omega)
      have d4 := hk1.cell c4 (by show Q + 1 ≠ g; omega)
      have d5 := hk1.cell c5 (by show Q + 1 ≠ g; omega)
      have d6 := hk1.cell c6 (by show Q + 1 ≠ g; omega)
      have d7 := hk1.cell c7 (by show Q + 1 ≠ g; omega)
      have d8 := hk1.cell c8 (by show Q + 1 ≠ g; omega)
      have d9 := hk1.cell c9 (by show Q + 1 ≠ g; omega)
      have d10 := hk1.cell c10 (by show Q + 1 ≠ g; omega)
      have d11 := hk1.cell c11 (by show Q + 1 ≠ g; omega)
      have d12 := hk1.cell c12 (by show Q + 1 ≠ g; omega)
      have d13 := hk1.cell c13 (by show Q + 1 + 1 ≠ g; omega)
      have d14 := hk1.cell c14 (by show Q + 1 + 1 + 1 ≠ g; omega)
      have d15 := hk1.cell c15 (by show Q + 1 + 1 + 1 + 1 ≠ g; omega)
      have d16 := hk1.cell c16 (by show Q + 1 + 1 + 1 + 1 + 1 ≠ g; omega)
      have d17 := hk1.cell c17 (by show Q + 1 + 1 + 1 + 1 + 1 + 1 ≠ g; omega)
      have z1 := z0.keeps hk1 (by omega)
      have v1 := (hv.keep hkw)
      have hce := v1.addr
      have keepS : ∀ w', Below w1.heap.size w1 w' → (Below w1.heap.size w1 w' ∧ w'.cell? ⟨Q, 0, none⟩ = some (.pointer (some ⟨g, 0, none⟩)) ∧ w'.cell? ⟨Q + 1, 1, none⟩ = some (.string nm) ∧ w'.cell? ⟨Q + 1, 10, none⟩ = some (.slice D dl dc) ∧ w'.cell? ⟨Q + 1 + 1, 0, none⟩ = some (.slice VE zs.length ce) ∧ w'.cell? ⟨Q + 1 + 1 + 1, 0, none⟩ = some (.int .i64 (l : Int)) ∧ w'.cell? ⟨Q + 1 + 1 + 1 + 1, 0, none⟩ = some (.int .i64 i)) := fun w' hb => ⟨hb, (hb.cell (World.block_lt_of_cell? _ _ d0)).trans d0, (hb.cell (World.block_lt_of_cell? _ _ d2)).trans d2, (hb.cell (World.block_lt_of_cell? _ _ d11)).trans d11, (hb.cell (World.block_lt_of_cell? _ _ d13)).trans d13, (hb.cell (World.block_lt_of_cell? _ _ d14)).trans d14, (hb.cell (World.block_lt_of_cell? _ _ d15)).trans d15⟩
      have hS0 := keepS _ (below_drew (Below.refl _ _))
      have HV := Lib.hid (And.intro v1 (And.intro hkw (And.intro bl1 (And.intro hgw hQ))))
      have gB : ∀ w', Below w1.heap.size w1 w' → Calls Tryd.prog 113 #[.slice VE zs.length ce, .string nm, .int .i64 i] w' fun e w'' => ∃ v4, e = .returned v4 ∧ w''.ownsRow w'.heap.size 203 2 v4 (zs.length + 1) (Ex.bindcs zs ++ Ex.bindc (nm, i)) ∧ Below w'.heap.size w' w'' := fun w' hb =>
        ubind_any w' VE ce nm i zs (HV.out.1.later hb).sl hce.2.1 hce.2.2.1 hce.2.2.2 (by omega)
      clear hg2 hk1 hkw v1 bl1 hgw hQ
      go_wp2_with fail
      refine wp_walk_tail 10 (by kernel_rfl) (by kernel_rfl) (fun w w' => Below w.heap.size w w') (fun w' => (Below w1.heap.size w1 w' ∧ w'.cell? ⟨Q, 0, none⟩ = some (.pointer (some ⟨g, 0, none⟩)) ∧ w'.cell? ⟨Q + 1, 1, none⟩ = some (.string nm) ∧ w'.cell? ⟨Q + 1, 10, none⟩ = some (.slice D dl dc) ∧ w'.cell? ⟨Q + 1 + 1, 0, none⟩ = some (.slice VE zs.length ce) ∧ w'.cell? ⟨Q + 1 + 1 + 1, 0, none⟩ = some (.int .i64 (l : Int)) ∧ w'.cell? ⟨Q + 1 + 1 + 1 + 1, 0, none⟩ = some (.int .i64 i))) hS0 ?_
      simp only [List.length_cons, List.length_nil, Nat.reduceAdd, Nat.reduceSub, List.take_succ_cons, List.take_zero, List.drop_succ_cons, List.drop_zero]
      repeat (first | (refine settle_skip (fun _ => by rfl) ?_; (simp only [Act.put, List.setIfInBounds_toArray, List.set_cons_zero, List.set_cons_succ])) | (refine' settle_run (fun _ _ => Below.refl _ _) (fun _ => by rfl) ?_ ?_; rotate_left; (focus (intro ρ w hS hF; (try dsimp only at hS); go_split_ands; go_simp; try with_reducible rfl)); (simp only [Act.put, List.setIfInBounds_toArray, List.set_cons_zero, List.set_cons_succ])))
      (refine settle_known (FRow w1.heap.size 203 2 (zs.length + 1) (Ex.bindcs zs ++ Ex.bindc (nm, i))) (by rfl) (fun _ => by rfl)  ?_ ?_; (focus (intro ρ w hS hF K hK; (simp only [Act.put, List.setIfInBounds_toArray, List.set_cons_zero, List.set_cons_succ] at hK); go_simp; (go_at_call 113; refine (gB _ hS.1).mono ?_; rintro e w' ⟨v4, rfl, hown, hb'⟩; exact hK _ _ (own_base hown hS.1.size) (keepS _ (below_next hb' hS.1)) hb'))); (simp only [Act.put, List.setIfInBounds_toArray, List.set_cons_zero, List.set_cons_succ]))
      repeat (first | (refine settle_skip (fun _ => by rfl) ?_; (simp only [Act.put, List.setIfInBounds_toArray, List.set_cons_zero, List.set_cons_succ])) | (refine' settle_run (fun _ _ => Below.refl _ _) (fun _ => by rfl) ?_ ?_; rotate_left; (focus (intro ρ w hS hF; (try dsimp only at hS); go_split_ands; go_simp; try with_reducible rfl)); (simp only [Act.put, List.setIfInBounds_toArray, List.set_cons_zero, List.set_cons_succ])))
      refine settle_nil ?_
      intro ρ w4 hS hF
      have hrow : w4.ownsRow w1.heap.size 203 2 (ρ 29) (zs.length + 1) (Ex.bindcs zs ++ Ex.bindc (nm, i)) := hF 29 (FRow w1.heap.size 203 2 (zs.length + 1) (Ex.bindcs zs ++ Ex.bindc (nm, i))) (by repeat (first | exact List.mem_cons_self | apply List.mem_cons_of_mem))
      have hb4 := hS.1
      clear hF hS hS0 keepS gB
      dsimp only
      generalize ρ 29 = v4 at hrow ⊢
      obtain ⟨v1, hkw, bl1, hgw, hQ⟩ := HV.out
      have hgw1 : g < w1.heap.size := Nat.lt_of_lt_of_le hgw hkw.size
      have hk14 : Keeps (fun i => i = g) w1 w4 := Keeps.of_below hb4 _
      have hkw4 := hkw.trans hk14
      have e4 : EnvAt w4 (fun i => i = g) v4 (zs ++ [(nm, i)]) := v1.grown hi (fun j hj => by omega) hrow
      have hg4 : g < w4.heap.size := Nat.lt_of_lt_of_le hgw hkw4.size
      have hr4 := loop_rest body n ihn w4 B g F VE ce zs l k (.func (.func id) #[] caps) i b kd nm ak an sa aA al ac bk bn sb bA bl bc D dl dc E el ec (Q) (Q + 1) (Q + 1 + 1) (Q + 1 + 1 + 1) (Q + 1 + 1 + 1 + 1) (Q + 1 + 1 + 1 + 1 + 1) (Q + 1 + 1 + 1 + 1 + 1 + 1) hn hi hb (hp.keepU hkw4 hB hgw) hd1 hd2 hB hg4 hF (hv.keep hkw4) hz hl (hk.keep hkw4)
        ((hb4.cell (World.block_lt_of_cell? _ _ d0)).trans d0) ((hb4.cell (World.block_lt_of_cell? _ _ d1)).trans d1) ((hb4.cell (World.block_lt_of_cell? _ _ d2)).trans d2) ((hb4.cell (World.block_lt_of_cell? _ _ d3)).trans d3) ((hb4.cell (World.block_lt_of_cell? _ _ d4)).trans d4) ((hb4.cell (World.block_lt_of_cell? _ _ d5)).trans d5) ((hb4.cell (World.block_lt_of_cell? _ _ d6)).trans d6) ((hb4.cell (World.block_lt_of_cell? _ _ d7)).trans d7) ((hb4.cell (World.block_lt_of_cell? _ _ d8)).trans d8) ((hb4.cell (World.block_lt_of_cell? _ _ d9)).trans d9) ((hb4.cell (World.block_lt_of_cell? _ _ d10)).trans d10) ((hb4.cell (World.block_lt_of_cell? _ _ d11)).trans d11) ((hb4.cell (World.block_lt_of_cell? _ _ d12)).trans d12) ((hb4.cell (World.block_lt_of_cell? _ _ d13)).trans d13) ((hb4.cell (World.block_lt_of_cell? _ _ d14)).trans d14) ((hb4.cell (World.block_lt_of_cell? _ _ d15)).trans d15) ((hb4.cell (World.block_lt_of_cell? _ _ d16)).trans d16) ((hb4.cell (World.block_lt_of_cell? _ _ d17)).trans d17)
        (by omega) (by omega) (by omega) (by omega) (by omega) (by omega) (by omega)
      have hblk := ih w4 B dl dc g F D _ v4 m.step (zs ++ [(nm, i)]) l _ (hp.keepU hkw4 hB hgw) hd1 hd2 hB (bl1.below hb4) hfs hF e4 (by rw [List.length_append, List.length_singleton]; omega) hl hr4
      rw [bs_snoc] at hblk
      have hz4 := z1.below hb4
      have hmid := hblk.mono (fun e w2 h => UnEnd.mid (w := w) (q := Q + 1 + 1 + 1 + 1 + 1 + 1 + 1) hkw4 (by omega) hz4.lt hgw h)
      have hqg : Q + 1 + 1 + 1 + 1 + 1 + 1 + 1 ≠ g := by omega
      clear hQ
      refine wpList_want rfl fun K hK => ?_
      go_simp
      go_at_call 78
      refine hmid.mono ?_
      rintro e w5 (⟨cs, rfl, ⟨h5, h1⟩, hk5, hend⟩ | ⟨rfl, hend⟩)
      · have hz5 := hz4.keeps hk5 hqg
        refine hK _ _ ?_
        refine wpl_put_blk hz5 cs (by kernel_rfl) h5 h1 rfl rfl rfl rfl ?_
        intro w6 hB6 hg6
        go_wp2
        exact ret_blk hB6 rfl rfl Tryd.underlying59 rfl (by rw [h5]; kernel_rfl) rfl (hend w6 hg6)
      · go_wp2
        exact ⟨rfl, hend⟩
end Go.Proofs.YtkjmddgnfgbioaaDoor


namespace Go.Proofs.YtkjmddgnfgbioaaDoor
set_option linter.unusedVariables false
set_option linter.unusedSimpArgs false
set_option maxRecDepth 100000
open Go

def PtrOld (w : World) (v : Value) : Prop := ∀ a, v = .pointer (some a) → a.block < w.heap.size
def PtrNew (w : World) (v : Value) : Prop := ∀ a, v = .pointer (some a) → w.heap.size ≤ a.block
end Go.Proofs.YtkjmddgnfgbioaaDoor


namespace Go.Proofs.YtkjmddgnfgbioaaDoor
set_option linter.unusedVariables false
set_option linter.unusedSimpArgs false
set_option maxRecDepth 100000
open Go.RowKit

set_option maxHeartbeats 2000000 in
theorem on_any (rest : St.P) (ih : BlockU rest) (w : World) (B n c g F gA o : Nat) (v : Value) (VE : Option Addr) (ce : Nat) (zs : List Ex.Bd) (l : Nat) (k : Sr.M → Sp.T × Sr.M) (pb pl ph pt : Nat)
    (hp : PR B w (some ⟨gA, o + 12, none⟩) n rest) (hnc : n + 1 ≤ c) (hc : c ≤ maxLen) (hB : B ≤ g) (hg : g < w.heap.size) (hF : F ≤ 2000) (hv : EnvAt w (fun i => i = g) (.slice VE zs.length ce) zs) (hz : zs.length + rest.size ≤ 549755813888) (hl : l + rest.size ≤ 576460752303423488) (hk : RestOK w g F k v)
    (c0 : w.cell? ⟨pb, 0, none⟩ = some (.pointer (some ⟨g, 0, none⟩))) (c1 : w.cell? ⟨pl, 0, none⟩ = some (.slice (some ⟨gA, o, none⟩) (n + 1) c)) (c3 : w.cell? ⟨ph, 0, none⟩ = some (.int .i64 (l : Int))) (c4 : w.cell? ⟨pt, 0, none⟩ = some v)
    (n0 : pb ≠ g) (n1 : pl ≠ g) (n3 : ph ≠ g) (n4 : pt ≠ g) :
    Calls Tryd.prog 109 #[.slice VE zs.length ce, .pointer (some ⟨pb, 0, none⟩), .pointer (some ⟨pl, 0, none⟩), .pointer (some ⟨ph, 0, none⟩), .pointer (some ⟨pt, 0, none⟩)] w fun e w' => ∃ id caps, e = .returned (.func (.func id) #[] caps) ∧ RestOK w' g F (fun m => Un.un rest (Ex.bs zs) l k m) (.func (.func id) #[] caps) ∧ Below w.heap.size w w' := by
  have hb : Below w.heap.size w (w.alloc (.cells #[.slice VE zs.length ce] 162)) := below_alloc (Below.refl _ _) _
  have hx := Blk.new w 162 [.slice VE zs.length ce]
  have hke : Keeps (fun i => i = g) w (w.alloc (.cells #[.slice VE zs.length ce] 162)) := Keeps.of_below hb _
  have hr := on_rest rest ih (w.alloc (.cells #[.slice VE zs.length ce] 162)) B n c g F gA o v (.slice VE zs.length ce) zs l k pb pl w.heap.size ph pt (hp.keepU hke hB hg) hnc hc hB (Nat.lt_of_lt_of_le hg hb.size) hF (hv.keep hke) hz hl (hk.keep hke) (hke.cell c0 n0) (hke.cell c1 n1) ((hx.cell 0).trans rfl) (hke.cell c3 n3) (hke.cell c4 n4) n0 n1 (by omega) n3 n4
  have HH := Lib.hid (And.intro hr hb)
  clear hr hb hx hke hv hk c0 c1 c3 c4 hp
  go_enter Tryd.func109, Tryd.ntmps109
  go_wp2_with fail
  go_ret
  exact ⟨_, _, rfl, HH.out.1, HH.out.2⟩

def FZu (B : Nat) (t : TypeId) (cs : List Value) : Fact (fun w w' => Below w.heap.size w w') := ⟨fun v w => ∃ g, v = .pointer (some ⟨g, 0, none⟩) ∧ B ≤ g ∧ Blk w g t cs, fun _ _ _ ⟨g, h1, h2, h3⟩ k => ⟨g, h1, h2, h3.below k⟩⟩
theorem FZu_old (B : Nat) (t : TypeId) (cs : List Value) : ∀ v w, (FZu B t cs).holds v w → PtrOld w v := by
  rintro _ _ ⟨_, rfl, _, hB⟩ _ h
  injection h with h
  injection h with h
  rw [← h]
  exact hB.lt
theorem new_ptru (w : World) (g : Nat) (hg : w.heap.size ≤ g) : PtrNew w (.pointer (some ⟨g, 0, none⟩)) := fun _ h => by
  injection h with h
  injection h with h
  rw [← h]
  exact hg
theorem stcells_oneU (k : Int) (nm : ByteArray) (ak an : Int) (sa : ByteArray) (aA : Option Addr) (al ac : Nat) (bk bn : Int) (sb : ByteArray) (bA : Option Addr) (bl bc : Nat) (D : Option Addr) (dl dc : Nat) (E : Option Addr) (el ec : Nat) : ∀ v ∈ stcells k nm (xcells ak an sa aA al ac) (xcells bk bn sb bA bl bc) D dl dc E el ec, v.oneCell' = true := by
  intro v hv
  simp [stcells, xcells] at hv
  rcases hv with rfl | rfl | rfl | rfl | rfl | rfl | rfl | rfl | rfl | rfl | rfl | rfl <;> rfl
theorem PR.one_U {B : Nat} {w : World} {gA o : Nat} {kd : Int} {nm : ByteArray} {ca cb : List Value} {D : Option Addr} {dl dc : Nat} {E : Option Addr} {el ec : Nat} {ea eb : Ex.X} {body els : St.P} (hg : gA < B) (hd : dl ≤ dc ∧ dc ≤ maxLen ∧ el ≤ ec ∧ ec ≤ maxLen) (hcs : ∀ j u, (stcells kd nm ca cb D dl dc E el ec)[j]? = some u → w.cell? ⟨gA, o + j, none⟩ = some u)
    (xa : XR B w ca ea) (xb : XR B w cb eb) (pb : PR B w D dl body) (pe : PR B w E el els) : PR B w (some ⟨gA, o, none⟩) 1 (.cons kd nm.data.toList ea eb body els .nil) :=
  .cons gA o 0 kd nm ca cb ea eb D dl dc E el ec body els .nil hg hd.1 hd.2.1 hd.2.2.1 hd.2.2.2 hcs xa xb pb pe (.nil _)

/-- where block stands, when the statement and what is behind it are known -/
structure AtU (w : World) (g F B : Nat) (W : World) (Q S H : Nat) (vt : Value) (behind : Nat) (rest : St.P) (k : Sr.M → Sp.T × Sr.M) (kd : Int) (nm : ByteArray) (ak an : Int) (sa : ByteArray) (aA : Option Addr) (al ac : Nat) (bk bn : Int) (sb : ByteArray) (bA : Option Addr) (bl bc : Nat) (D : Option Addr) (dl dc : Nat) (E : Option Addr) (el ec : Nat) (ea eb : Ex.X) (body els : St.P) : Prop where
  below : Below w.heap.size w W
  gw : g < w.heap.size
  hQ : Q = w.heap.size
  hS : w.heap.size ≤ S
  hH : w.heap.size ≤ H
  c0 : W.cell? ⟨Q, 0, none⟩ = some (.pointer (some ⟨g, 0, none⟩))
  c2 : W.cell? ⟨Q + 1 + 1, 0, none⟩ = some vt
  ch : W.cell? ⟨H, 0, none⟩ = some (.int .i64 (behind : Int))
  z : Blk W (Q + 1 + 1 + 1) 59 zterm
  st : Blk W S 40 [.int .i64 kd, .string nm, .int .i64 ak, .int .i64 an, .string sa, .slice aA al ac, .int .i64 bk, .int .i64 bn, .string sb, .slice bA bl bc, .slice D dl dc, .slice E el ec]
  on : ∀ w1, Keeps (fun i => i = g) W w1 → ∀ VE ce (zs : List Ex.Bd), EnvAt w1 (fun i => i = g) (.slice VE zs.length ce) zs → zs.length + rest.size ≤ 549755813888 → Calls Tryd.prog 109 #[.slice VE zs.length ce, .pointer (some ⟨Q, 0, none⟩), .pointer (some ⟨Q + 1, 0, none⟩), .pointer (some ⟨H, 0, none⟩), .pointer (some ⟨Q + 1 + 1, 0, none⟩)] w1 fun e w2 => ∃ id caps, e = .returned (.func (.func id) #[] caps) ∧ RestOK w2 g F (fun m => Un.un rest (Ex.bs zs) behind k m) (.func (.func id) #[] caps) ∧ Below w1.heap.size w1 w2
  xa : ∀ w1, Keeps (fun i => i = g) W w1 → XR B w1 (xcells ak an sa aA al ac) ea
  xb : ∀ w1, Keeps (fun i => i = g) W w1 → XR B w1 (xcells bk bn sb bA bl bc) eb
  pb : ∀ w1, Keeps (fun i => i = g) W w1 → PR B w1 D dl body
  pe : ∀ w1, Keeps (fun i => i = g) W w1 → PR B w1 E el els

set_option maxHeartbeats 4000000 in
theorem block_nil (w : World) (g F : Nat) (m : Sr.M) (A : Option Addr) (c : Nat) (v ve : Value) (l : Nat) (k : Sr.M → Sp.T × Sr.M) (hbl : Blk w g 126 (Un.bcells F m)) (hf : Sr.Fit F m) (VE : Option Addr) (nz ce : Nat) (hve : ve = .slice VE nz ce) (hk : RestOK w g F k v) :
    Calls Tryd.prog 78 #[.pointer (some ⟨g, 0, none⟩), .slice A 0 c, ve, .int .i64 (l : Int), v] w (UnEnd w g F (k m)) := by
  subst hve
  have hg := hbl.lt
  obtain ⟨id, caps, rfl, hcf, h3⟩ := hk.ex
  have hb0 : Below w.heap.size w ((((w.alloc (.cells #[.pointer (some ⟨g, 0, none⟩)] 124)).alloc (.cells #[.slice A 0 c] 34)).alloc (.cells #[.func (.func id) #[] caps] 163)).alloc (.cells #[.int .i64 0, .int .i64 0, .bool false, .int .i64 0, .slice none 0 0] 59)) := below_alloc (below_alloc (below_alloc (below_alloc (Below.refl _ _) _) _) _) _
  have x0 := ((((Blk.new w 124 [.pointer (some ⟨g, 0, none⟩)]).alloc (.cells #[.slice A 0 c] 34)).alloc (.cells #[.func (.func id) #[] caps] 163)).alloc (.cells #[.int .i64 0, .int .i64 0, .bool false, .int .i64 0, .slice none 0 0] 59))
  have x1 := (((Blk.new (w.alloc (.cells #[.pointer (some ⟨g, 0, none⟩)] 124)) 34 [.slice A 0 c]).alloc (.cells #[.func (.func id) #[] caps] 163)).alloc (.cells #[.int .i64 0, .int .i64 0, .bool false, .int .i64 0, .slice none 0 0] 59))
  have x2 := ((Blk.new ((w.alloc (.cells #[.pointer (some ⟨g, 0, none⟩)] 124)).alloc (.cells #[.slice A 0 c] 34)) 163 [.func (.func id) #[] caps]).alloc (.cells #[.int .i64 0, .int .i64 0, .bool false, .int .i64 0, .slice none 0 0] 59))
  have x3 := (Blk.new (((w.alloc (.cells #[.pointer (some ⟨g, 0, none⟩)] 124)).alloc (.cells #[.slice A 0 c] 34)).alloc (.cells #[.func (.func id) #[] caps] 163)) 59 [.int .i64 0, .int .i64 0, .bool false, .int .i64 0, .slice none 0 0])
  simp only [World.size_alloc] at x1 x2 x3
  obtain ⟨Q, hq⟩ : ∃ q, q = w.heap.size := ⟨_, rfl⟩
  have HO := Lib.hid (And.intro (fun w' (hb : Below w.heap.size w w') => h3 w' m (Keeps.of_below hb _) (hbl.below hb) hf) (And.intro hg hq))
  clear h3 hk hbl hf
  go_enter Tryd.func78, Tryd.ntmps78
  go_upto_region 1 with (fail)
  generalize ((((w.alloc (.cells #[.pointer (some ⟨g, 0, none⟩)] 124)).alloc (.cells #[.slice A 0 c] 34)).alloc (.cells #[.func (.func id) #[] caps] 163)).alloc (.cells #[.int .i64 0, .int .i64 0, .bool false, .int .i64 0, .slice none 0 0] 59)) = W at hb0 x0 x1 x2 x3 ⊢
  rw [← hq] at x0 x1 x2 x3 ⊢
  have HB := Lib.hid hb0
  clear hb0 hq
  have k1 : W.cell? ⟨Q + 1, 0, none⟩ = some (.slice A 0 c) := (x1.cell 0).trans rfl
  have k2 : W.cell? ⟨Q + 1 + 1, 0, none⟩ = some (.func (.func id) #[] caps) := (x2.cell 0).trans rfl
  go_wp2_with fail
  refine ((HO.out.1 W HB.out).mono (fun e w2 h => UnEnd.mid (q := Q + 1 + 1 + 1) (Keeps.of_below HB.out _) (by have := HO.out.2.2; omega) x3.lt HO.out.2.1 h)).mono ?_
  rintro e w5 (⟨cs, rfl, ⟨h5, h1⟩, hk5, hend⟩ | ⟨rfl, hend⟩)
  · have hqg : Q + 1 + 1 + 1 ≠ g := by have := HO.out.2; omega
    have hz5 := x3.keeps hk5 hqg
    have HE := Lib.hid (And.intro hend h5)
    clear hend
    go_wp2_with (first | (refine wpl_put_blk hz5 cs (by kernel_rfl) HE.out.2 h1 rfl rfl rfl rfl ?_; intro w6 hB6 hg6) | fail)
    exact ret_blk hB6 rfl rfl Tryd.underlying59 rfl (by rw [HE.out.2]; kernel_rfl) rfl (HE.out.1 w6 hg6)
  · go_wp2
    exact ⟨rfl, hend⟩
end Go.Proofs.YtkjmddgnfgbioaaDoor
