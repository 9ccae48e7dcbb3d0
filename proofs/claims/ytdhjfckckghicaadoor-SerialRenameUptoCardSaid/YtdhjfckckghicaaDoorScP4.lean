/-
  Renamed once is renamed: the law, walked.
-/
import Derived.Test.YtdhjfckckghicaaDoorScP3
import Derived.Test.YtdhjfckckghicaaDoorScP2
import Derived.Deep.DeepCutAuto
import Derived.Test.YtdhjfckckghicaaDoorScP1
import Derived.Test.YtdhjfckckghicaaDoorCards
import Derived.Test.YtdhjfckckghicaaDoorTie
import Derived.WalkKit
import Derived.ProofKit
import Derived.OpenShut
import Derived.LaidSub
import Derived.Deep.DeepHandedRow
import Derived.Lib.LaidTab

namespace Go.Proofs.YtdhjfckckghicaaDoor
set_option linter.unusedVariables false
set_option linter.unusedSimpArgs false
set_option maxRecDepth 100000
open Go.RowKit

theorem fr_kinds (k : Int) : k = 1 ∨ k = 2 ∨ k = 3 ∨ k = 4 ∨ k = 5 ∨ k = 6 ∨ k = 7 ∨ ((k == 1) = false ∧ (k == 2) = false ∧ (k == 3) = false ∧ (k == 4) = false ∧ (k == 5) = false ∧ (k == 6) = false ∧ (k == 7) = false) := by
  by_cases h1 : k = 1; · exact .inl h1
  by_cases h2 : k = 2; · exact .inr (.inl h2)
  by_cases h3 : k = 3; · exact .inr (.inr (.inl h3))
  by_cases h4 : k = 4; · exact .inr (.inr (.inr (.inl h4)))
  by_cases h5 : k = 5; · exact .inr (.inr (.inr (.inr (.inl h5))))
  by_cases h6 : k = 6; · exact .inr (.inr (.inr (.inr (.inr (.inl h6)))))
  by_cases h7 : k = 7; · exact .inr (.inr (.inr (.inr (.inr (.inr (.inl h7))))))
  exact .inr (.inr (.inr (.inr (.inr (.inr (.inr (by simp [h1, h2, h3, h4, h5, h6, h7])))))))

/-- what is known of the statement that is looked at, while the walker turns -/
structure StBox (B Q : Nat) (W : World) (T : Nat → Prop) (kd : Int) (nm : ByteArray) (ak an : Int) (sa : ByteArray) (aA : Option Addr) (al ac : Nat) (bk bn : Int) (sb : ByteArray) (bA : Option Addr) (bl bc : Nat) (D : Option Addr) (dl dc : Nat) (E : Option Addr) (el ec : Nat) (ea eb : Ex.X) (body els : St.P) : Prop where
  cells : ∀ w', Keeps T W w' → w'.cell? ⟨Q, 0, none⟩ = some (.int .i64 kd) ∧ w'.cell? ⟨Q, 1, none⟩ = some (.string nm) ∧
    w'.cell? ⟨Q, 2, none⟩ = some (.int .i64 ak) ∧ w'.cell? ⟨Q, 3, none⟩ = some (.int .i64 an) ∧ w'.cell? ⟨Q, 4, none⟩ = some (.string sa) ∧ w'.cell? ⟨Q, 5, none⟩ = some (.slice aA al ac) ∧
    w'.cell? ⟨Q, 6, none⟩ = some (.int .i64 bk) ∧ w'.cell? ⟨Q, 7, none⟩ = some (.int .i64 bn) ∧ w'.cell? ⟨Q, 8, none⟩ = some (.string sb) ∧ w'.cell? ⟨Q, 9, none⟩ = some (.slice bA bl bc) ∧
    w'.cell? ⟨Q, 10, none⟩ = some (.slice D dl dc) ∧ w'.cell? ⟨Q, 11, none⟩ = some (.slice E el ec)
  read : ∀ w', Keeps T W w' → XR B w' (xcells ak an sa aA al ac) ea ∧ XR B w' (xcells bk bn sb bA bl bc) eb ∧ PR B w' D dl body ∧ PR B w' E el els
theorem StBox.of {B Q : Nat} {w W : World} {T : Nat → Prop} {kd : Int} {nm : ByteArray} {ak an : Int} {sa : ByteArray} {aA : Option Addr} {al ac : Nat} {bk bn : Int} {sb : ByteArray} {bA : Option Addr} {bl bc : Nat} {D : Option Addr} {dl dc : Nat} {E : Option Addr} {el ec : Nat} {ea eb : Ex.X} {body els : St.P} {t : TypeId}
    (hb : Below w.heap.size w W) (hB : B ≤ w.heap.size) (hT : ∀ i, T i → B ≤ i) (hQ : ¬ T Q) (p : Blk W Q t [.int .i64 kd, .string nm, .int .i64 ak, .int .i64 an, .string sa, .slice aA al ac, .int .i64 bk, .int .i64 bn, .string sb, .slice bA bl bc, .slice D dl dc, .slice E el ec])
    (xa : XR B w (xcells ak an sa aA al ac) ea) (xb : XR B w (xcells bk bn sb bA bl bc) eb) (pb : PR B w D dl body) (pe : PR B w E el els) : StBox B Q W T kd nm ak an sa aA al ac bk bn sb bA bl bc D dl dc E el ec ea eb body els := by
  refine ⟨fun w' k => ?_, fun w' k => ?_⟩
  · have p' := p.keeps k hQ
    exact ⟨(p'.cell 0).trans rfl, (p'.cell 1).trans rfl, (p'.cell 2).trans rfl, (p'.cell 3).trans rfl, (p'.cell 4).trans rfl, (p'.cell 5).trans rfl, (p'.cell 6).trans rfl, (p'.cell 7).trans rfl, (p'.cell 8).trans rfl, (p'.cell 9).trans rfl, (p'.cell 10).trans rfl, (p'.cell 11).trans rfl⟩
  · have hk : Below B w w' := (hb.mono hB).trans (k.below (Nat.le_trans hB hb.size) hT)
    exact ⟨xa.later hk, xb.later hk, pb.later hk, pe.later hk⟩

theorem PR.tail {B n k g o : Nat} {w : World} {kd : Int} {nm : List UInt8} {ea eb : Ex.X} {body els rest : St.P} (h : PR B w (some ⟨g, o + k * 12, none⟩) n (.cons kd nm ea eb body els rest)) (hn : 0 < n) : PR B w (some ⟨g, o + (k + 1) * 12, none⟩) (n - 1) rest := by
  obtain ⟨_, _, _, _, _, _, _, _, _, _, _, _, _, _, _, _, _, _, _, _, _, _, body', els', rest', e1, -, -, -, -, -, -, -, pr0⟩ := h.next hn
  injection e1 with _ _ _ _ _ _ e1
  subst e1
  exact pr0


set_option maxHeartbeats 8000000 in
theorem stmts_step (p : St.P) (ih : ∀ q : St.P, q.size < p.size → StmtsOK q) : StmtsOK p := by
  intro w B n c g A vb vf bd fs hp hnc hcm hO hsb hsf
  obtain ⟨g0, o, hA, hpl⟩ := hp.place
  have hn63 : n ≤ 9223372036854775807 := by unfold maxLen at hcm; omega
  have hP0 : ∀ w' (A' : Option Addr) (m : Nat) (q : St.P), Keeps (WkT g vb bd vf fs) w w' → PR B w A' m q → PR B w' A' m q := fun w' A' m q k h => h.later (hO.below k)
  have HP0 := Lib.hid (And.intro hP0 hO)
  clear hP0 hp
  go_enter Tryd.func23, Tryd.ntmps23
  go_wp2
  go_loopw [8] (fun i wr => ∃ (k : Nat) (q : St.P) (vb' vf' : Value) (bd' fs' : List ByteArray), k ≤ n ∧ i = .int .i64 (k : Int) ∧ PR B w (some ⟨g0, o + k * 12, none⟩) (n - k) q ∧ WkTo B w (WkT g vb bd vf fs) wr g vb' bd' vf' fs' ∧ Sr.bda q bd' = Sr.bda p bd ∧ Sr.fr q bd' fs' = Sr.fr p bd fs ∧ q.size ≤ p.size ∧ bd'.length + q.size ≤ bd.length + p.size ∧ fs'.length + q.size ≤ fs.length + p.size) (fun i _ => n - (intOf i).toNat)
  case atStart => exact ⟨0, p, vb, vf, bd, fs, Nat.zero_le _, rfl, hpl, OwnTo.start hO, rfl, rfl, Nat.le_refl _, Nat.le_refl _, Nat.le_refl _⟩
  case round =>
    clear hO hpl
    obtain ⟨k, q, vb', vf', bd', fs', hk, rfl, hq0, hW, hbda, hfr, hqs, hqb, hqf⟩ := hrel
    have hq := HP0.out.1 wr _ _ _ hW.kp hq0
    by_cases hlt : k < n
    · obtain ⟨kd, nm, ak, an, bk, bn, sa, sb, aA, bA, al, ac, bl, bc, ea, eb, D, dl, dc, E, el, ec, body, els, rest, rfl, hg, ⟨hd1, hd2, he1, he2⟩, hcell, xa, xb, pb, pe, pr⟩ := hq.next (by omega)
      have pr0 := hq0.tail (by omega)
      have hAA := hA (by omega)
      subst hAA
      have hPR := Lib.hid pr0
      have c0 : wr.cell? ⟨g0, o + k * 12, none⟩ = some (.int .i64 kd) := hcell 0 _ rfl
      have c1 := hcell 1 _ rfl
      have c2 := hcell 2 _ rfl
      have c3 := hcell 3 _ rfl
      have c4 := hcell 4 _ rfl
      have c5 := hcell 5 _ rfl
      have c6 := hcell 6 _ rfl
      have c7 := hcell 7 _ rfl
      have c8 := hcell 8 _ rfl
      have c9 := hcell 9 _ rfl
      have c10 := hcell 10 _ rfl
      have c11 := hcell 11 _ rfl
      have hBr : B ≤ wr.heap.size := hW.own.base
      have hs : body.size < p.size ∧ els.size < p.size ∧ rest.size ≤ p.size := by rw [St.P.size] at hqs; omega
      have hz : ea.leaves + eb.leaves + body.size + els.size + rest.size + 1 ≤ 549755813888 := by rw [St.P.size] at hqs; omega
      have hzf : fs'.length + (1 + ea.leaves + eb.leaves + body.size + els.size + rest.size) ≤ 549755813888 := by rw [St.P.size] at hqf; omega
      have hzb : bd'.length + (1 + ea.leaves + eb.leaves + body.size + els.size + rest.size) ≤ 549755813888 := by rw [St.P.size] at hqb; omega
      obtain ⟨Q, hQq⟩ : ∃ Q, Q = wr.heap.size := ⟨_, rfl⟩
      have hbA : Below wr.heap.size wr (wr.alloc (.cells (stcells kd nm (xcells ak an sa aA al ac) (xcells bk bn sb bA bl bc) D dl dc E el ec).toArray 36)) := below_alloc (Below.refl _ _) _
      have hX : StBox B Q (wr.alloc (.cells (stcells kd nm (xcells ak an sa aA al ac) (xcells bk bn sb bA bl bc) D dl dc E el ec).toArray 36)) (WkT g vb' bd' vf' fs') kd nm ak an sa aA al ac bk bn sb bA bl bc D dl dc E el ec ea eb body els := by
        refine StBox.of (t := 36) hbA hBr (fun i hi => hW.own.ge hi) (fun h => by have := hW.own.lt h; omega) ?_ xa xb pb pe
        rw [hQq]
        exact Blk.new _ _ _
      have T0 : WkTo B (wr.alloc (.cells (stcells kd nm (xcells ak an sa aA al ac) (xcells bk bn sb bA bl bc) D dl dc E el ec).toArray 36)) (WkT g vb' bd' vf' fs') (wr.alloc (.cells (stcells kd nm (xcells ak an sa aA al ac) (xcells bk bn sb bA bl bc) D dl dc E el ec).toArray 36)) g vb' bd' vf' fs' := OwnTo.start (hW.own.later hbA)
      have hQQ := Lib.hid hQq
      have HQ := Lib.hid (And.intro hbda (And.intro hfr (And.intro hs (And.intro hqs (And.intro hqb (And.intro hqf (And.intro hz (And.intro hzf hzb))))))))
      have HW := Lib.hid hW
      clear hQq hcell hq hq0 hbda hfr hs hqs hqb hqf hz hzf hzb hW xa xb pb pe pr pr0
      unfold stcells xcells at hbA hX T0
      have hWs := hbA.size
      simp only [List.cons_append, List.nil_append] at hbA hX T0 hWs
      rcases fr_kinds kd with rfl | rfl | rfl | rfl | rfl | rfl | rfl | ⟨k1, k2, k3, k4, k5, k6, k7⟩
      · go_wp2_with fail
        generalize (wr.alloc (.cells #[.int .i64 1, .string nm, .int .i64 ak, .int .i64 an, .string sa, .slice aA al ac, .int .i64 bk, .int .i64 bn, .string sb, .slice bA bl bc, .slice D dl dc, .slice E el ec] 36)) = W0 at hbA hX T0 hWs ⊢
        rw [← hQQ.out]
        clear c0 c1 c2 c3 c4 c5 c6 c7 c8 c9 c10 c11
        obtain ⟨c0, c1, c2, c3, c4, c5, c6, c7, c8, c9, c10, c11⟩ := hX.cells _ T0.kp
        obtain ⟨xa, xb, pb, pe⟩ := hX.read _ T0.kp
        refine (uses_any ea B _ g _ _ _ _ _ T0.own xa (by have := HQ.out; omega) (by have := HQ.out; omega)).mono ?_
        rintro r w1 ⟨rfl, vbw1, vfw1, hw1⟩
        have Tw1 := T0.step hw1
        have Uw1 := Sr.use_length bd' fs' ea
        clear hw1
        clear c0 c1 c2 c3 c4 c5 c6 c7 c8 c9 c10 c11 xa xb pb pe
        have r1 : w1.ownsRow B 9 1 vbw1 bd'.length (strs bd') := Tw1.own.row 0 rfl
        obtain ⟨VB, cb, rfl, -, -⟩ := own_slice r1
        have hR : ∀ w', Below w1.heap.size w1 w' → w'.ownsRow B 9 1 (.slice VB bd'.length cb) bd'.length (strs bd') ∧ B ≤ w'.heap.size := fun w' hb => ⟨(Tw1.own.later hb).row 0 rfl, (Tw1.own.later hb).base⟩
        have keepS : ∀ w', Keeps (fun k => (Value.slice VB bd'.length cb).ownBlock = some k) w1 w' → Keeps (fun k => (Value.slice VB bd'.length cb).ownBlock = some k) w1 w' ∧ w'.cell? ⟨g, 0, none⟩ = some (.slice VB bd'.length cb) ∧ w'.cell? ⟨Q, 1, none⟩ = some (.string nm) := fun w' k => by
          have k2 : Keeps (WkT g vb' bd' vf' fs') W0 w' := Tw1.kp.step k (fun i hi e => (Tw1.nw i (.inr ⟨_, List.mem_cons_self, e⟩)).resolve_right (by omega))
          exact ⟨k, ((Tw1.own.blk.keeps k (Tw1.own.ng _ List.mem_cons_self)).cell 0).trans rfl, (hX.cells _ k2).2.1⟩
        have hS1 := keepS _ ((Keeps.refl _ w1).drewN 1)
        have hn63 : bd'.length + 1 ≤ maxLen := by have := HQ.out; unfold maxLen; omega
        have hn47 : (bd'.length + 1) * 16 ≤ 140737488355328 := by have := HQ.out; omega
        have HT := Lib.hid Tw1
        clear Tw1 r1 hX T0 hWs
        go_wp2_with fail
        refine wp_walk_mt 11 (fun i => ([8] : List Nat).contains i) (fun i => ([0,9,10] : List Nat).contains i) [8] (by intro m h; simpa using h) (by kernel_rfl) (by kernel_rfl) (by kernel_rfl) (fun w w' => Below w.heap.size w w')  (fun w' => Keeps (fun k => (Value.slice VB bd'.length cb).ownBlock = some k) w1 w' ∧ w'.cell? ⟨g, 0, none⟩ = some (.slice VB bd'.length cb) ∧ w'.cell? ⟨Q, 1, none⟩ = some (.string nm)) (fun w' => Below w1.heap.size w1 w') hS1 (below_drew (Below.refl _ _)) (fun _ _ h h' => below_next h' h) ?_
        simp only [List.length_cons, List.length_nil, Nat.reduceAdd, Nat.reduceSub, List.take_succ_cons, List.take_zero, List.drop_succ_cons, List.drop_zero]
        repeat (first | (refine nsettle_skip (by rfl) (fun _ => by rfl) ?_; (simp only [Act.put, List.setIfInBounds_toArray, List.set_cons_zero, List.set_cons_succ])) | (refine' nsettle_run (by rfl) (fun _ _ => Below.refl _ _) (fun _ => by rfl) ?_ ?_; rotate_left; (focus (intro ρ w hS hF hP; (try dsimp only at hS); go_split_ands; go_simp; try with_reducible rfl)); (simp only [Act.put, List.setIfInBounds_toArray, List.set_cons_zero, List.set_cons_succ])))
        (refine nsettle_known (FSl 1 1 [.string nm]) (by rfl) (by rfl) (by rfl) (fun _ => by rfl)  ?_ ?_; (focus (intro ρ w hS hF hP K hK; (simp only [Act.put, List.setIfInBounds_toArray, List.set_cons_zero, List.set_cons_succ] at hK); go_simp; exact hK _ _ (SlV.lit w [.string nm] 9 1 1 rfl (by decide)) (keepS _ (hS.1.alloc _)) (below_alloc (Below.refl _ _) _))); (simp only [Act.put, List.setIfInBounds_toArray, List.set_cons_zero, List.set_cons_succ]))
        (refine nsettle_mark (FPush w1 B 9 1 (.slice VB bd'.length cb) (bd'.length + 1) (strs bd' ++ [.string nm])) (by rfl) (by rfl) (by rfl) (fun _ => by rfl) ?_ ?_; (focus (intro ρ w hS hF hP K hK; refine oper_append (.tmp 25) (.tmp 28) B _ _ _ _ _ Tryd.underlying25 info_str rfl (by decide) (hR w (hP (by rfl))).1 (hF.1 (by rfl)) (strs_one [nm]) hn63 hn47 (hR w (hP (by rfl))).2 rfl rfl rfl ?_; intro v' w' hown hg hv _; exact hK v' w' ⟨w, hP (by rfl), hg, hown, hv.imp id fun e => ⟨_, Nat.le_refl _, e⟩⟩ (keepS _ (hS.1.trans ((Keeps.of_grown hg).mono fun i hi => hi.symm))))); (simp only [Act.put, List.setIfInBounds_toArray, List.set_cons_zero, List.set_cons_succ]))
        repeat (first | (refine nsettle_skip (by rfl) (fun _ => by rfl) ?_; (simp only [Act.put, List.setIfInBounds_toArray, List.set_cons_zero, List.set_cons_succ])) | (refine' nsettle_run (by rfl) (fun _ _ => Below.refl _ _) (fun _ => by rfl) ?_ ?_; rotate_left; (focus (intro ρ w hS hF hP; (try dsimp only at hS); go_split_ands; go_simp; try with_reducible rfl)); (simp only [Act.put, List.setIfInBounds_toArray, List.set_cons_zero, List.set_cons_succ])))
        refine nsettle_nil ?_
        intro ρ w4 hS hF
        obtain ⟨wa, ha1, ha2, ha3, ha4⟩ := hF 29 (FPush w1 B 9 1 (.slice VB bd'.length cb) (bd'.length + 1) (strs bd' ++ [.string nm])) (by repeat (first | exact List.mem_cons_self | apply List.mem_cons_of_mem))
        clear hF hS hS1 keepS hR
        dsimp only
        generalize ρ 29 = v4 at ha3 ha4 ⊢
        have hB4 := ((HT.out.own.later ha1).put (i := 0) (r := strRw (.slice VB bd'.length cb) bd') rfl (n' := (bd' ++ [nm]).length) (xs' := strs (bd' ++ [nm])) (by simpa [strs, strRw] using ha3) ha2 ha4).1
        have hend : ∀ w5, Blk w5 g 53 [v4, vfw1] → w4.grownBy w5 (some g) → WkTo B W0 (WkT g vb' bd' vf' fs') w5 g v4 (bd' ++ [nm]) vfw1 (Sr.use bd' fs' ea) := fun w5 b5 g5 =>
          (HT.out.later ha1).step ((HT.out.own.later ha1).put_to (i := 0) (r := strRw (.slice VB bd'.length cb) bd') rfl (n' := (bd' ++ [nm]).length) (xs' := strs (bd' ++ [nm])) (by simpa [strs, strRw] using ha3) ha2 ha4 b5 g5)
        obtain ⟨V4, c4, rfl, -, -⟩ := own_slice ha3
        clear ha1 ha2 ha3 ha4
        go_wp2_with (first | (refine wpl_set_blk hB4 0 _ (by kernel_rfl) (by simp) rfl rfl rfl rfl rfl rfl ?_; intro w5 hB5 hg5; have Tw5 := hend w5 hB5 hg5; clear hB4 hB5 hg5 hend) | fail)
        have TE := (HW.out.later hbA).step Tw5
        have HE := Lib.hid TE
        clear TE Tw5 hbA
        try go_wp2_with fail
        go_roundw
        case rel => exact ⟨k + 1, rest, _, _, _, _, by omega, by go_num, by rw [show n - (k + 1) = n - k - 1 by omega]; exact hPR.out, HE.out, by rw [← HQ.out.1]; simp [Sr.bda, Ex.ba_data], by rw [← HQ.out.2.1]; simp [Sr.fr, Ex.ba_data], by have := HQ.out; omega, by have := HQ.out.2.2.2.2.1; rw [St.P.size] at this; first | omega | (simp only [List.length_append, List.length_singleton]; omega), by have := HQ.out.2.2.2.2.2.1; rw [St.P.size] at this; omega⟩
        case measure => simp [intOf]; omega
      · go_wp2_with fail
        generalize (wr.alloc (.cells #[.int .i64 2, .string nm, .int .i64 ak, .int .i64 an, .string sa, .slice aA al ac, .int .i64 bk, .int .i64 bn, .string sb, .slice bA bl bc, .slice D dl dc, .slice E el ec] 36)) = W0 at hbA hX T0 hWs ⊢
        rw [← hQQ.out]
        clear c0 c1 c2 c3 c4 c5 c6 c7 c8 c9 c10 c11
        obtain ⟨c0, c1, c2, c3, c4, c5, c6, c7, c8, c9, c10, c11⟩ := hX.cells _ T0.kp
        obtain ⟨xa, xb, pb, pe⟩ := hX.read _ T0.kp
        refine (uses_any ea B _ g _ _ _ _ _ T0.own xa (by have := HQ.out; omega) (by have := HQ.out; omega)).mono ?_
        rintro r w1 ⟨rfl, vbw1, vfw1, hw1⟩
        have Tw1 := T0.step hw1
        have Uw1 := Sr.use_length bd' fs' ea
        clear hw1
        clear c0 c1 c2 c3 c4 c5 c6 c7 c8 c9 c10 c11 xa xb pb pe
        have r1 : w1.ownsRow B 9 1 vbw1 bd'.length (strs bd') := Tw1.own.row 0 rfl
        obtain ⟨VB, cb, rfl, -, -⟩ := own_slice r1
        have hR : ∀ w', Below w1.heap.size w1 w' → w'.ownsRow B 9 1 (.slice VB bd'.length cb) bd'.length (strs bd') ∧ B ≤ w'.heap.size := fun w' hb => ⟨(Tw1.own.later hb).row 0 rfl, (Tw1.own.later hb).base⟩
        have keepS : ∀ w', Keeps (fun k => (Value.slice VB bd'.length cb).ownBlock = some k) w1 w' → Keeps (fun k => (Value.slice VB bd'.length cb).ownBlock = some k) w1 w' ∧ w'.cell? ⟨g, 0, none⟩ = some (.slice VB bd'.length cb) ∧ w'.cell? ⟨Q, 1, none⟩ = some (.string nm) := fun w' k => by
          have k2 : Keeps (WkT g vb' bd' vf' fs') W0 w' := Tw1.kp.step k (fun i hi e => (Tw1.nw i (.inr ⟨_, List.mem_cons_self, e⟩)).resolve_right (by omega))
          exact ⟨k, ((Tw1.own.blk.keeps k (Tw1.own.ng _ List.mem_cons_self)).cell 0).trans rfl, (hX.cells _ k2).2.1⟩
        have hS1 := keepS _ ((Keeps.refl _ w1).drewN 1)
        have hn63 : bd'.length + 1 ≤ maxLen := by have := HQ.out; unfold maxLen; omega
        have hn47 : (bd'.length + 1) * 16 ≤ 140737488355328 := by have := HQ.out; omega
        have HT := Lib.hid Tw1
        clear Tw1 r1 hX T0 hWs
        go_wp2_with fail
        refine wp_walk_mt 11 (fun i => ([8] : List Nat).contains i) (fun i => ([0,9,10] : List Nat).contains i) [8] (by intro m h; simpa using h) (by kernel_rfl) (by kernel_rfl) (by kernel_rfl) (fun w w' => Below w.heap.size w w')  (fun w' => Keeps (fun k => (Value.slice VB bd'.length cb).ownBlock = some k) w1 w' ∧ w'.cell? ⟨g, 0, none⟩ = some (.slice VB bd'.length cb) ∧ w'.cell? ⟨Q, 1, none⟩ = some (.string nm)) (fun w' => Below w1.heap.size w1 w') hS1 (below_drew (Below.refl _ _)) (fun _ _ h h' => below_next h' h) ?_
        simp only [List.length_cons, List.length_nil, Nat.reduceAdd, Nat.reduceSub, List.take_succ_cons, List.take_zero, List.drop_succ_cons, List.drop_zero]
        repeat (first | (refine nsettle_skip (by rfl) (fun _ => by rfl) ?_; (simp only [Act.put, List.setIfInBounds_toArray, List.set_cons_zero, List.set_cons_succ])) | (refine' nsettle_run (by rfl) (fun _ _ => Below.refl _ _) (fun _ => by rfl) ?_ ?_; rotate_left; (focus (intro ρ w hS hF hP; (try dsimp only at hS); go_split_ands; go_simp; try with_reducible rfl)); (simp only [Act.put, List.setIfInBounds_toArray, List.set_cons_zero, List.set_cons_succ])))
        (refine nsettle_known (FSl 1 1 [.string nm]) (by rfl) (by rfl) (by rfl) (fun _ => by rfl)  ?_ ?_; (focus (intro ρ w hS hF hP K hK; (simp only [Act.put, List.setIfInBounds_toArray, List.set_cons_zero, List.set_cons_succ] at hK); go_simp; exact hK _ _ (SlV.lit w [.string nm] 9 1 1 rfl (by decide)) (keepS _ (hS.1.alloc _)) (below_alloc (Below.refl _ _) _))); (simp only [Act.put, List.setIfInBounds_toArray, List.set_cons_zero, List.set_cons_succ]))
        (refine nsettle_mark (FPush w1 B 9 1 (.slice VB bd'.length cb) (bd'.length + 1) (strs bd' ++ [.string nm])) (by rfl) (by rfl) (by rfl) (fun _ => by rfl) ?_ ?_; (focus (intro ρ w hS hF hP K hK; refine oper_append (.tmp 25) (.tmp 28) B _ _ _ _ _ Tryd.underlying25 info_str rfl (by decide) (hR w (hP (by rfl))).1 (hF.1 (by rfl)) (strs_one [nm]) hn63 hn47 (hR w (hP (by rfl))).2 rfl rfl rfl ?_; intro v' w' hown hg hv _; exact hK v' w' ⟨w, hP (by rfl), hg, hown, hv.imp id fun e => ⟨_, Nat.le_refl _, e⟩⟩ (keepS _ (hS.1.trans ((Keeps.of_grown hg).mono fun i hi => hi.symm))))); (simp only [Act.put, List.setIfInBounds_toArray, List.set_cons_zero, List.set_cons_succ]))
        repeat (first | (refine nsettle_skip (by rfl) (fun _ => by rfl) ?_; (simp only [Act.put, List.setIfInBounds_toArray, List.set_cons_zero, List.set_cons_succ])) | (refine' nsettle_run (by rfl) (fun _ _ => Below.refl _ _) (fun _ => by rfl) ?_ ?_; rotate_left; (focus (intro ρ w hS hF hP; (try dsimp only at hS); go_split_ands; go_simp; try with_reducible rfl)); (simp only [Act.put, List.setIfInBounds_toArray, List.set_cons_zero, List.set_cons_succ])))
        refine nsettle_nil ?_
        intro ρ w4 hS hF
        obtain ⟨wa, ha1, ha2, ha3, ha4⟩ := hF 29 (FPush w1 B 9 1 (.slice VB bd'.length cb) (bd'.length + 1) (strs bd' ++ [.string nm])) (by repeat (first | exact List.mem_cons_self | apply List.mem_cons_of_mem))
        clear hF hS hS1 keepS hR
        dsimp only
        generalize ρ 29 = v4 at ha3 ha4 ⊢
        have hB4 := ((HT.out.own.later ha1).put (i := 0) (r := strRw (.slice VB bd'.length cb) bd') rfl (n' := (bd' ++ [nm]).length) (xs' := strs (bd' ++ [nm])) (by simpa [strs, strRw] using ha3) ha2 ha4).1
        have hend : ∀ w5, Blk w5 g 53 [v4, vfw1] → w4.grownBy w5 (some g) → WkTo B W0 (WkT g vb' bd' vf' fs') w5 g v4 (bd' ++ [nm]) vfw1 (Sr.use bd' fs' ea) := fun w5 b5 g5 =>
          (HT.out.later ha1).step ((HT.out.own.later ha1).put_to (i := 0) (r := strRw (.slice VB bd'.length cb) bd') rfl (n' := (bd' ++ [nm]).length) (xs' := strs (bd' ++ [nm])) (by simpa [strs, strRw] using ha3) ha2 ha4 b5 g5)
        obtain ⟨V4, c4, rfl, -, -⟩ := own_slice ha3
        clear ha1 ha2 ha3 ha4
        go_wp2_with (first | (refine wpl_set_blk hB4 0 _ (by kernel_rfl) (by simp) rfl rfl rfl rfl rfl rfl ?_; intro w5 hB5 hg5; have Tw5 := hend w5 hB5 hg5; clear hB4 hB5 hg5 hend) | fail)
        have TE := (HW.out.later hbA).step Tw5
        have HE := Lib.hid TE
        clear TE Tw5 hbA
        try go_wp2_with fail
        go_roundw
        case rel => exact ⟨k + 1, rest, _, _, _, _, by omega, by go_num, by rw [show n - (k + 1) = n - k - 1 by omega]; exact hPR.out, HE.out, by rw [← HQ.out.1]; simp [Sr.bda, Ex.ba_data], by rw [← HQ.out.2.1]; simp [Sr.fr, Ex.ba_data], by have := HQ.out; omega, by have := HQ.out.2.2.2.2.1; rw [St.P.size] at this; first | omega | (simp only [List.length_append, List.length_singleton]; omega), by have := HQ.out.2.2.2.2.2.1; rw [St.P.size] at this; omega⟩
        case measure => simp [intOf]; omega
      · go_wp2_with fail
        generalize (wr.alloc (.cells #[.int .i64 3, .string nm, .int .i64 ak, .int .i64 an, .string sa, .slice aA al ac, .int .i64 bk, .int .i64 bn, .string sb, .slice bA bl bc, .slice D dl dc, .slice E el ec] 36)) = W0 at hbA hX T0 hWs ⊢
        rw [← hQQ.out]
        clear c0 c1 c2 c3 c4 c5 c6 c7 c8 c9 c10 c11
        obtain ⟨c0, c1, c2, c3, c4, c5, c6, c7, c8, c9, c10, c11⟩ := hX.cells _ T0.kp
        obtain ⟨xa, xb, pb, pe⟩ := hX.read _ T0.kp
        refine (uses_any ea B _ g _ _ _ _ _ T0.own xa (by have := HQ.out; omega) (by have := HQ.out; omega)).mono ?_
        rintro r w1 ⟨rfl, vbw1, vfw1, hw1⟩
        have Tw1 := T0.step hw1
        have Uw1 := Sr.use_length bd' fs' ea
        clear hw1
        obtain ⟨c0, c1, c2, c3, c4, c5, c6, c7, c8, c9, c10, c11⟩ := hX.cells _ Tw1.kp
        obtain ⟨xa, xb, pb, pe⟩ := hX.read _ Tw1.kp
        clear T0 hWs
        go_wp2_with fail
        refine (uses_any eb B _ g _ _ _ _ _ Tw1.own xb (by have := HQ.out; omega) (by have := HQ.out; omega)).mono ?_
        rintro r w2 ⟨rfl, vbw2, vfw2, hw2⟩
        have Tw2 := Tw1.step hw2
        have Uw2 := Sr.use_length bd' (Sr.use bd' fs' ea) eb
        clear hw2
        clear c0 c1 c2 c3 c4 c5 c6 c7 c8 c9 c10 c11 xa xb pb pe Tw1 hX
        have TE := (HW.out.later hbA).step Tw2
        have HE := Lib.hid TE
        clear TE Tw2 hbA
        try go_wp2_with fail
        go_roundw
        case rel => exact ⟨k + 1, rest, _, _, _, _, by omega, by go_num, by rw [show n - (k + 1) = n - k - 1 by omega]; exact hPR.out, HE.out, by rw [← HQ.out.1]; simp [Sr.bda, Ex.ba_data], by rw [← HQ.out.2.1]; simp [Sr.fr, Ex.ba_data], by have := HQ.out; omega, by have := HQ.out.2.2.2.2.1; rw [St.P.size] at this; first | omega | (simp only [List.length_append, List.length_singleton]; omega), by have := HQ.out.2.2.2.2.2.1; rw [St.P.size] at this; omega⟩
        case measure => simp [intOf]; omega
      · go_wp2_with fail
        generalize (wr.alloc (.cells #[.int .i64 4, .string nm, .int .i64 ak, .int .i64 an, .string sa, .slice aA al ac, .int .i64 bk, .int .i64 bn, .string sb, .slice bA bl bc, .slice D dl dc, .slice E el ec] 36)) = W0 at hbA hX T0 hWs ⊢
        rw [← hQQ.out]
        clear c0 c1 c2 c3 c4 c5 c6 c7 c8 c9 c10 c11
        obtain ⟨c0, c1, c2, c3, c4, c5, c6, c7, c8, c9, c10, c11⟩ := hX.cells _ T0.kp
        obtain ⟨xa, xb, pb, pe⟩ := hX.read _ T0.kp
        refine (within_any body (ih body (by have := HQ.out; omega)) _ B dl dc g D _ _ (.slice none 0 0) bd' _ [] pb hd1 hd2 T0.own (SlV.nil _ 1) (by have := HQ.out; simp only [List.length_nil, List.length_singleton]; omega) (by have := HQ.out; omega)).mono ?_
        rintro r w1 ⟨rfl, vbw1, vfw1, hw1⟩
        have Tw1 := T0.step hw1
        have Uw1 := Sr.fr_length body (bd' ++ []) fs'
        try rw [List.append_nil] at Tw1 Uw1
        clear hw1
        clear c0 c1 c2 c3 c4 c5 c6 c7 c8 c9 c10 c11 xa xb pb pe T0 hX hWs
        have TE := (HW.out.later hbA).step Tw1
        have HE := Lib.hid TE
        clear TE Tw1 hbA
        try go_wp2_with fail
        go_roundw
        case rel => exact ⟨k + 1, rest, _, _, _, _, by omega, by go_num, by rw [show n - (k + 1) = n - k - 1 by omega]; exact hPR.out, HE.out, by rw [← HQ.out.1]; simp [Sr.bda, Ex.ba_data], by rw [← HQ.out.2.1]; simp [Sr.fr, Ex.ba_data], by have := HQ.out; omega, by have := HQ.out.2.2.2.2.1; rw [St.P.size] at this; first | omega | (simp only [List.length_append, List.length_singleton]; omega), by have := HQ.out.2.2.2.2.2.1; rw [St.P.size] at this; omega⟩
        case measure => simp [intOf]; omega
      · go_wp2_with fail
        generalize (wr.alloc (.cells #[.int .i64 5, .string nm, .int .i64 ak, .int .i64 an, .string sa, .slice aA al ac, .int .i64 bk, .int .i64 bn, .string sb, .slice bA bl bc, .slice D dl dc, .slice E el ec] 36)) = W0 at hbA hX T0 hWs ⊢
        rw [← hQQ.out]
        clear c0 c1 c2 c3 c4 c5 c6 c7 c8 c9 c10 c11
        obtain ⟨c0, c1, c2, c3, c4, c5, c6, c7, c8, c9, c10, c11⟩ := hX.cells _ T0.kp
        obtain ⟨xa, xb, pb, pe⟩ := hX.read _ T0.kp
        refine (within_any body (ih body (by have := HQ.out; omega)) _ B dl dc g D _ _ (.slice none 0 0) bd' _ [] pb hd1 hd2 T0.own (SlV.nil _ 1) (by have := HQ.out; simp only [List.length_nil, List.length_singleton]; omega) (by have := HQ.out; omega)).mono ?_
        rintro r w1 ⟨rfl, vbw1, vfw1, hw1⟩
        have Tw1 := T0.step hw1
        have Uw1 := Sr.fr_length body (bd' ++ []) fs'
        try rw [List.append_nil] at Tw1 Uw1
        clear hw1
        clear c0 c1 c2 c3 c4 c5 c6 c7 c8 c9 c10 c11 xa xb pb pe T0 hX hWs
        have TE := (HW.out.later hbA).step Tw1
        have HE := Lib.hid TE
        clear TE Tw1 hbA
        try go_wp2_with fail
        go_roundw
        case rel => exact ⟨k + 1, rest, _, _, _, _, by omega, by go_num, by rw [show n - (k + 1) = n - k - 1 by omega]; exact hPR.out, HE.out, by rw [← HQ.out.1]; simp [Sr.bda, Ex.ba_data], by rw [← HQ.out.2.1]; simp [Sr.fr, Ex.ba_data], by have := HQ.out; omega, by have := HQ.out.2.2.2.2.1; rw [St.P.size] at this; first | omega | (simp only [List.length_append, List.length_singleton]; omega), by have := HQ.out.2.2.2.2.2.1; rw [St.P.size] at this; omega⟩
        case measure => simp [intOf]; omega
      · go_wp2_with fail
        generalize (wr.alloc (.cells #[.int .i64 6, .string nm, .int .i64 ak, .int .i64 an, .string sa, .slice aA al ac, .int .i64 bk, .int .i64 bn, .string sb, .slice bA bl bc, .slice D dl dc, .slice E el ec] 36)) = W0 at hbA hX T0 hWs ⊢
        rw [← hQQ.out]
        clear c0 c1 c2 c3 c4 c5 c6 c7 c8 c9 c10 c11
        obtain ⟨c0, c1, c2, c3, c4, c5, c6, c7, c8, c9, c10, c11⟩ := hX.cells _ T0.kp
        obtain ⟨xa, xb, pb, pe⟩ := hX.read _ T0.kp
        refine (uses_any ea B _ g _ _ _ _ _ T0.own xa (by have := HQ.out; omega) (by have := HQ.out; omega)).mono ?_
        rintro r w1 ⟨rfl, vbw1, vfw1, hw1⟩
        have Tw1 := T0.step hw1
        have Uw1 := Sr.use_length bd' fs' ea
        clear hw1
        obtain ⟨c0, c1, c2, c3, c4, c5, c6, c7, c8, c9, c10, c11⟩ := hX.cells _ Tw1.kp
        obtain ⟨xa, xb, pb, pe⟩ := hX.read _ Tw1.kp
        clear T0 hWs
        go_wp2_with fail
        refine (within_any body (ih body (by have := HQ.out; omega)) _ B dl dc g D _ _ (.slice none 0 0) bd' _ [] pb hd1 hd2 Tw1.own (SlV.nil _ 1) (by have := HQ.out; simp only [List.length_nil, List.length_singleton]; omega) (by have := HQ.out; omega)).mono ?_
        rintro r w2 ⟨rfl, vbw2, vfw2, hw2⟩
        have Tw2 := Tw1.step hw2
        have Uw2 := Sr.fr_length body (bd' ++ []) (Sr.use bd' fs' ea)
        try rw [List.append_nil] at Tw2 Uw2
        clear hw2
        obtain ⟨c0, c1, c2, c3, c4, c5, c6, c7, c8, c9, c10, c11⟩ := hX.cells _ Tw2.kp
        obtain ⟨xa, xb, pb, pe⟩ := hX.read _ Tw2.kp
        clear Tw1
        go_wp2_with fail
        refine (within_any els (ih els (by have := HQ.out; omega)) _ B el ec g E _ _ (.slice none 0 0) bd' _ [] pe he1 he2 Tw2.own (SlV.nil _ 1) (by have := HQ.out; simp only [List.length_nil, List.length_singleton]; omega) (by have := HQ.out; omega)).mono ?_
        rintro r w3 ⟨rfl, vbw3, vfw3, hw3⟩
        have Tw3 := Tw2.step hw3
        have Uw3 := Sr.fr_length els (bd' ++ []) (Sr.fr body bd' (Sr.use bd' fs' ea))
        try rw [List.append_nil] at Tw3 Uw3
        clear hw3
        clear c0 c1 c2 c3 c4 c5 c6 c7 c8 c9 c10 c11 xa xb pb pe Tw2 hX
        have TE := (HW.out.later hbA).step Tw3
        have HE := Lib.hid TE
        clear TE Tw3 hbA
        try go_wp2_with fail
        go_roundw
        case rel => exact ⟨k + 1, rest, _, _, _, _, by omega, by go_num, by rw [show n - (k + 1) = n - k - 1 by omega]; exact hPR.out, HE.out, by rw [← HQ.out.1]; simp [Sr.bda, Ex.ba_data], by rw [← HQ.out.2.1]; simp [Sr.fr, Ex.ba_data], by have := HQ.out; omega, by have := HQ.out.2.2.2.2.1; rw [St.P.size] at this; first | omega | (simp only [List.length_append, List.length_singleton]; omega), by have := HQ.out.2.2.2.2.2.1; rw [St.P.size] at this; omega⟩
        case measure => simp [intOf]; omega
      · go_wp2_with fail
        generalize (wr.alloc (.cells #[.int .i64 7, .string nm, .int .i64 ak, .int .i64 an, .string sa, .slice aA al ac, .int .i64 bk, .int .i64 bn, .string sb, .slice bA bl bc, .slice D dl dc, .slice E el ec] 36)) = W0 at hbA hX T0 hWs ⊢
        rw [← hQQ.out]
        clear c0 c1 c2 c3 c4 c5 c6 c7 c8 c9 c10 c11
        obtain ⟨c0, c1, c2, c3, c4, c5, c6, c7, c8, c9, c10, c11⟩ := hX.cells _ T0.kp
        obtain ⟨xa, xb, pb, pe⟩ := hX.read _ T0.kp
        refine (uses_any ea B _ g _ _ _ _ _ T0.own xa (by have := HQ.out; omega) (by have := HQ.out; omega)).mono ?_
        rintro r w1 ⟨rfl, vbw1, vfw1, hw1⟩
        have Tw1 := T0.step hw1
        have Uw1 := Sr.use_length bd' fs' ea
        clear hw1
        obtain ⟨c0, c1, c2, c3, c4, c5, c6, c7, c8, c9, c10, c11⟩ := hX.cells _ Tw1.kp
        obtain ⟨xa, xb, pb, pe⟩ := hX.read _ Tw1.kp
        clear T0 hWs
        go_wp2_with fail
        refine (uses_any eb B _ g _ _ _ _ _ Tw1.own xb (by have := HQ.out; omega) (by have := HQ.out; omega)).mono ?_
        rintro r w2 ⟨rfl, vbw2, vfw2, hw2⟩
        have Tw2 := Tw1.step hw2
        have Uw2 := Sr.use_length bd' (Sr.use bd' fs' ea) eb
        clear hw2
        obtain ⟨c0, c1, c2, c3, c4, c5, c6, c7, c8, c9, c10, c11⟩ := hX.cells _ Tw2.kp
        obtain ⟨xa, xb, pb, pe⟩ := hX.read _ Tw2.kp
        clear Tw1
        have TA := Tw2.later (below_alloc (Below.refl _ _) (.cells #[.string nm] 9))
        have hm := SlV.lit w2 [.string nm] 9 1 1 rfl (by decide)
        obtain ⟨-, -, pb', -⟩ := hX.read _ TA.kp
        go_wp2_with fail
        refine (within_any body (ih body (by have := HQ.out; omega)) _ B dl dc g D _ _ _ bd' _ [nm] pb' hd1 hd2 TA.own hm (by have := HQ.out; simp only [List.length_nil, List.length_singleton]; omega) (by have := HQ.out; omega)).mono ?_
        rintro r w3 ⟨rfl, vbw3, vfw3, hw3⟩
        have Tw3 := TA.step hw3
        have Uw3 := Sr.fr_length body (bd' ++ [nm]) (Sr.use bd' (Sr.use bd' fs' ea) eb)
        try rw [List.append_nil] at Tw3 Uw3
        clear hw3
        clear c0 c1 c2 c3 c4 c5 c6 c7 c8 c9 c10 c11 xa xb pb pe pb' hm TA Tw2 hX
        have TE := (HW.out.later hbA).step Tw3
        have HE := Lib.hid TE
        clear TE Tw3 hbA
        try go_wp2_with fail
        go_roundw
        case rel => exact ⟨k + 1, rest, _, _, _, _, by omega, by go_num, by rw [show n - (k + 1) = n - k - 1 by omega]; exact hPR.out, HE.out, by rw [← HQ.out.1]; simp [Sr.bda, Ex.ba_data], by rw [← HQ.out.2.1]; simp [Sr.fr, Ex.ba_data], by have := HQ.out; omega, by have := HQ.out.2.2.2.2.1; rw [St.P.size] at this; first | omega | (simp only [List.length_append, List.length_singleton]; omega), by have := HQ.out.2.2.2.2.2.1; rw [St.P.size] at this; omega⟩
        case measure => simp [intOf]; omega
      · have K := Lib.hid (show kd ≠ 1 ∧ kd ≠ 2 ∧ kd ≠ 3 ∧ kd ≠ 4 ∧ kd ≠ 5 ∧ kd ≠ 6 ∧ kd ≠ 7 by simp at k1 k2 k3 k4 k5 k6 k7; omega)
        go_wp2_with fail
        generalize (wr.alloc (.cells #[.int .i64 kd, .string nm, .int .i64 ak, .int .i64 an, .string sa, .slice aA al ac, .int .i64 bk, .int .i64 bn, .string sb, .slice bA bl bc, .slice D dl dc, .slice E el ec] 36)) = W0 at hbA hX T0 hWs ⊢
        clear c0 c1 c2 c3 c4 c5 c6 c7 c8 c9 c10 c11 k1 k2 k3 k4 k5 k6 k7
        have TE := (HW.out.later hbA).step T0
        have HE := Lib.hid TE
        clear TE T0 hbA
        try go_wp2_with fail
        go_roundw
        case rel => exact ⟨k + 1, rest, _, _, _, _, by omega, by go_num, by rw [show n - (k + 1) = n - k - 1 by omega]; exact hPR.out, HE.out, by rw [← HQ.out.1]; simp [Sr.bda, Ex.ba_data, K.out], by rw [← HQ.out.2.1]; simp [Sr.fr, Ex.ba_data, K.out], by have := HQ.out; omega, by have := HQ.out.2.2.2.2.1; rw [St.P.size] at this; first | omega | (simp only [List.length_append, List.length_singleton]; omega), by have := HQ.out.2.2.2.2.2.1; rw [St.P.size] at this; omega⟩
        case measure => simp [intOf]; omega
    · obtain rfl : k = n := by omega
      rw [Nat.sub_self] at hq
      have hq' := hq.zero
      subst hq'
      go_wp2_with fail
      go_end0
      exact ⟨rfl, vb', vf', by rw [← hbda, ← hfr]; exact hW⟩
theorem stmts_any (p : St.P) : StmtsOK p := by
  suffices h : ∀ n, ∀ q : St.P, q.size ≤ n → StmtsOK q from h _ p (Nat.le_refl _)
  intro n
  induction n with
  | zero => exact fun q hq => stmts_step q fun r hr => by omega
  | succ n ih => exact fun q hq => stmts_step q fun r hr => ih r (by omega)

/-- **scope.Free** -/
theorem free_any (p : St.P) (w : World) (B n c : Nat) (A : Option Addr) (hB : B ≤ w.heap.size) (hp : PR B w A n p) (hnc : n ≤ c) (hc : c ≤ maxLen) (hsz : p.size ≤ 549755813888) :
    Calls Tryd.prog 10 #[.slice A n c] w fun e w' => ∃ v, e = .returned v ∧ w'.ownsRow w.heap.size 9 1 v (Sr.free p).length (strs (Sr.free p)) ∧ Below w.heap.size w w' := by
  have hb0 : Below w.heap.size w (w.alloc (.cells #[.slice none 0 0, .slice none 0 0] 53)) := below_alloc (Below.refl _ _) _
  have hO : WkO w.heap.size (w.alloc (.cells #[.slice none 0 0, .slice none 0 0] 53)) w.heap.size (.slice none 0 0) [] (.slice none 0 0) [] := by
    refine ⟨Blk.new w 53 [.slice none 0 0, .slice none 0 0], fun r hr => ?_, fun i j r s hr hs hij k hk => ?_, fun r hr => ?_, by simp, Nat.le_refl _⟩
    · simp [strRw] at hr
      subst hr
      exact World.ownsRow_nil _ _ _ _
    · match i, hr with
      | 0, hr => injection hr with hr; subst hr; cases hk
      | 1, hr => injection hr with hr; subst hr; cases hk
    · simp [strRw] at hr
      subst hr
      simp [Value.ownBlock]
  have hs := stmts_any p _ w.heap.size n c w.heap.size A (.slice none 0 0) (.slice none 0 0) [] [] ((hp.later (hb0.mono hB)).up hB) hnc hc hO (by simpa using hsz) (by simpa using hsz)
  clear hO hp
  go_enter Tryd.func10, Tryd.ntmps10
  go_wp2_with fail
  refine hs.mono ?_
  rintro e w1 ⟨rfl, vb1, vf1, hT⟩
  have c1 : w1.cell? ⟨w.heap.size, 1, none⟩ = some vf1 := (hT.own.blk.cell 1).trans rfl
  have r1 : w1.ownsRow w.heap.size 9 1 vf1 (Sr.fr p [] []).length (strs (Sr.fr p [] [])) := hT.own.row 1 rfl
  have hb : Below w.heap.size w w1 := hb0.trans (hT.kp.below (by simp) (fun i hi => hi.elim (fun e => by omega) (fun ⟨r, hr, e⟩ => by simp [strRw] at hr; subst hr; cases e)))
  obtain ⟨V, cV, rfl, -, -⟩ := own_slice r1
  have HR := Lib.hid (And.intro r1 hb)
  clear hs hT r1 hb hb0
  go_wp2
  go_ret
  exact ⟨_, rfl, HR.out⟩
end Go.Proofs.YtdhjfckckghicaaDoor


namespace Go.Proofs.YtdhjfckckghicaaDoor
set_option linter.unusedVariables false
set_option linter.unusedSimpArgs false
set_option maxRecDepth 100000
open Go.RowKit

/-- an expression that was made, and a block: they stay -/
def FXZ (g H Q : Nat) (out : Value) (e : Ex.X) : Fact (Turn g) := ⟨fun v w => ∃ k n s A l c, v = .agg (xcells k n s A l c).toArray ∧ XZS (Vs g H Q out w) w (xcells k n s A l c) e, fun _ _ _ h t => by obtain ⟨k, n, s, A, l, c, h1, h2⟩ := h; exact ⟨k, n, s, A, l, c, h1, h2.turn t⟩⟩
def FPZ (g H Q : Nat) (out : Value) (q : St.P) : Fact (Turn g) := ⟨fun v w => ZP (Vs g H Q out w) w v q, fun _ _ _ h t => h.turn t⟩

set_option maxHeartbeats 8000000 in
theorem rstmts_step (p : St.P) (ih : ∀ q : St.P, q.size < p.size → RStOK q) : RStOK p := by
  intro w B n c g A uo un en m hp hnc hcm hO hP hsb hsm
  obtain ⟨g0, o, hA, hpl⟩ := hp.place
  have hn63 : n ≤ 9223372036854775807 := by unfold maxLen at hcm; omega
  have hnp : n ≤ 549755813888 := by have := hp.length; have := p.length_le; omega
  have hgl := hO.blk.lt
  have HO0 := Lib.hid (And.intro hO hP)
  clear hp hP
  go_enter Tryd.func22, Tryd.ntmps22
  go_wp2
  go_loopw [5, 12] (fun out i wr => ∃ (k : Nat) (q dn : St.P) (cs : List Value) (x1 x2 : Value) (more : List (Ex.Bs × Ex.Bs)) (m1 : Nat), k ≤ n ∧ i = .int .i64 (k : Int) ∧ PR B w (some ⟨g0, o + k * 12, none⟩) (n - k) q ∧ RnTo B w (RnT g uo un en) wr g x1 x2 (en ++ more) m1 ∧ wr.ownsRow w.heap.size 36 12 out k cs ∧ (∀ b, out.ownBlock = some b → ¬ RT g wr b) ∧ ZCS (fun b => Ok g w.heap.size wr b ∧ out.ownBlock ≠ some b) wr cs k dn ∧ Below B w wr ∧
      (dn ++ (Sr.rn Sr.vn q (en ++ more) m1).1 = (Sr.rn Sr.vn p en m).1 ∧ (Sr.rn Sr.vn q (en ++ more) m1).2 = (Sr.rn Sr.vn p en m).2 ∧ q.size ≤ p.size ∧ more.length + q.size ≤ p.size ∧ m1 + q.size ≤ m + p.size)) (fun out i _ => n - (intOf i).toNat)
  case atStart =>
    have e0 : en ++ ([] : List (Ex.Bs × Ex.Bs)) = en := List.append_nil en
    refine ⟨0, p, .nil, [], uo, un, [], m, Nat.zero_le _, rfl, hpl, ?_, World.ownsRow_nil _ _ _ _, ?_, ZCS.nil, Below.refl _ _, ?_, ?_, Nat.le_refl _, ?_, Nat.le_refl _⟩
    · rw [e0]; exact OwnTo.start hO
    · intro b hb; simp [Value.ownBlock] at hb
    · rw [e0]; rfl
    · rw [e0]
    · simp
  case round =>
    clear hO hpl
    obtain ⟨k, q, dn, cs, x1, x2, more, m1, hk, rfl, hq0, hT, hrow, hfar, hdone, hlow, hres, hm2, hqs, hqm, hqn⟩ := hrel
    by_cases hlt : k < n
    · have hq := hq0.later hlow
      obtain ⟨kd, nm, ak, an, bk, bn, sa, sb, aA, bA, al, ac, bl, bc, ea, eb, D, dl, dc, E, el, ec, body, els, rest, rfl, hg, ⟨hd1, hd2, he1, he2⟩, hcell, xa, xb, pb, pe, pr⟩ := hq.next (by omega)
      have pr0 := hq0.tail (by omega)
      have hAA := hA (by omega)
      subst hAA
      have c0 : wr.cell? ⟨g0, o + k * 12, none⟩ = some (.int .i64 kd) := hcell 0 _ rfl
      have c1 := hcell 1 _ rfl
      have c2 := hcell 2 _ rfl
      have c3 := hcell 3 _ rfl
      have c4 := hcell 4 _ rfl
      have c5 := hcell 5 _ rfl
      have c6 := hcell 6 _ rfl
      have c7 := hcell 7 _ rfl
      have c8 := hcell 8 _ rfl
      have c9 := hcell 9 _ rfl
      have c10 := hcell 10 _ rfl
      have c11 := hcell 11 _ rfl
      have hs : body.size < p.size ∧ els.size < p.size ∧ rest.size ≤ p.size := by rw [St.P.size] at hqs; omega
      have hz : en.length + more.length + (1 + ea.leaves + eb.leaves + body.size + els.size + rest.size) ≤ 549755813888 ∧ m1 + (1 + ea.leaves + eb.leaves + body.size + els.size + rest.size) ≤ 549755813888 := by rw [St.P.size] at hqm hqn; omega
      obtain ⟨Q, hQ⟩ : ∃ Q, Q = wr.heap.size := ⟨_, rfl⟩
      have hbA : Below wr.heap.size wr ((wr.alloc (.cells (stcells kd nm (xcells ak an sa aA al ac) (xcells bk bn sb bA bl bc) D dl dc E el ec).toArray 36)).alloc (.cells (stcells kd ⟨#[]⟩ (xcells 0 0 ⟨#[]⟩ none 0 0) (xcells 0 0 ⟨#[]⟩ none 0 0) none 0 0 none 0 0).toArray 36)) := below_alloc (below_alloc (Below.refl _ _) _) _
      have R0 : Rd B w g Q u5 k cs dn uo un en (stcells kd nm (xcells ak an sa aA al ac) (xcells bk bn sb bA bl bc) D dl dc E el ec) x1 x2 (en ++ more) m1 (stcells kd ⟨#[]⟩ (xcells 0 0 ⟨#[]⟩ none 0 0) (xcells 0 0 ⟨#[]⟩ none 0 0) none 0 0 none 0 0) ((wr.alloc (.cells (stcells kd nm (xcells ak an sa aA al ac) (xcells bk bn sb bA bl bc) D dl dc E el ec).toArray 36)).alloc (.cells (stcells kd ⟨#[]⟩ (xcells 0 0 ⟨#[]⟩ none 0 0) (xcells 0 0 ⟨#[]⟩ none 0 0) none 0 0 none 0 0).toArray 36)) := by
        have ho := hT.own
        have tt := Turn.of_below ho.blk.lt hbA
        have ro := rt_below ho.blk.lt hbA
        have hlw := hT.kp.size
        have q0 := Blk.new wr 36 (stcells kd nm (xcells ak an sa aA al ac) (xcells bk bn sb bA bl bc) D dl dc E el ec)
        have q1 := Blk.new (wr.alloc (.cells (stcells kd nm (xcells ak an sa aA al ac) (xcells bk bn sb bA bl bc) D dl dc E el ec).toArray 36)) 36 (stcells kd ⟨#[]⟩ (xcells 0 0 ⟨#[]⟩ none 0 0) (xcells 0 0 ⟨#[]⟩ none 0 0) none 0 0 none 0 0)
        simp only [World.size_alloc] at q1
        refine ⟨hT.later hbA, own_keeps hrow tt.kp hfar, fun b hb hT' => hfar b hb ((ro b).1 hT'), hdone.kept tt.kp (fun b hb ⟨h1, h2⟩ => ?_), ?_, ?_, fun h => ?_, fun h => ?_, by omega, fun h => ?_, fun h => ?_, hlow.trans (hbA.mono ho.base), HO0.out.1.base⟩
        · obtain ⟨h3, h4⟩ := tt.ok b hb h1
          exact ⟨⟨h3, h2, by omega⟩, h4⟩
        · rw [hQ]; exact q0.alloc _
        · rw [hQ]; exact q1
        · have := rt_lt ho ((ro Q).1 h); omega
        · have := rt_lt ho ((ro _).1 h); omega
        · have := (hrow.lt Q h).2; omega
        · have := (hrow.lt _ h).2; omega
      have HQ := Lib.hid (And.intro hres (And.intro hm2 (And.intro hqs (And.intro hqm (And.intro hqn (And.intro hs hz))))))
      have hIN : ∀ w', Below B w w' → XR B w' (xcells ak an sa aA al ac) ea ∧ XR B w' (xcells bk bn sb bA bl bc) eb ∧ PR B w' D dl body ∧ PR B w' E el els := fun w' hb => by
        have hk : ∀ p : Addr, p.block < B → w'.cell? p = wr.cell? p := fun p hp => (hb.cell hp).trans (hlow.cell hp).symm
        exact ⟨xa.keep (Nat.le_refl _) hk, xb.keep (Nat.le_refl _) hk, pb.keep (Nat.le_refl _) hk, pe.keep (Nat.le_refl _) hk⟩
      have hQQ := Lib.hid hQ
      have HPR := Lib.hid pr0
      clear hres hm2 hqs hqm hqn hs hz hT hrow hfar hdone hq hq0 hcell pr hQ xa xb pb pe
      rcases fr_kinds kd with rfl | rfl | rfl | rfl | rfl | rfl | rfl | ⟨k1, k2, k3, k4, k5, k6, k7⟩
      · unfold stcells xcells at R0 hbA
        simp only [List.cons_append, List.nil_append] at R0 hbA
        have hIA := fun w' hb => (hIN w' hb).1
        have hIB := fun w' hb => (hIN w' hb).2.1
        have hPB := fun w' hb => (hIN w' hb).2.2.1
        have hPE := fun w' hb => (hIN w' hb).2.2.2
        clear hIN
        unfold xcells at hIA hIB
        go_wp2_with fail
        rw [← hQQ.out]
        generalize ((wr.alloc (.cells #[.int .i64 1, .string nm, .int .i64 ak, .int .i64 an, .string sa, .slice aA al ac, .int .i64 bk, .int .i64 bn, .string sb, .slice bA bl bc, .slice D dl dc, .slice E el ec] 36)).alloc (.cells #[.int .i64 1, .string ⟨#[]⟩, .int .i64 0, .int .i64 0, .string ⟨#[]⟩, .slice none 0 0, .int .i64 0, .int .i64 0, .string ⟨#[]⟩, .slice none 0 0, .slice none 0 0, .slice none 0 0] 36)) = W0 at R0 hbA ⊢
        clear c0 c1 c2 c3 c4 c5 c6 c7 c8 c9 c10 c11 hbA hlow
        have n63 : k + 1 ≤ maxLen := by unfold maxLen; omega
        have n47 : (k + 1) * 184 ≤ 140737488355328 := by omega
        refine (rnx_any ea W0 _ g x1 x2 (en ++ more) ((hIA W0 R0.low).up R0.to.own.base) (RnI.of R0.to.own (by have := HQ.out; simp only [List.length_append, List.length_singleton]; omega))).mono ?_
        rintro r w1 ⟨ca, rfl, hx, hb⟩
        have R1 := R0.below hb
        have za := R0.fresh_x hb hx
        obtain ⟨y0, y1, y2, Y3, y4, y5, rfl, -, -⟩ := XRN.form hx
        clear hx hb
        clear R0
        have s1 : w1.cell? ⟨Q, 1, none⟩ = some (.string nm) := (R1.src.cell 1).trans rfl
        unfold xcells at za ⊢
        have hB1 := R1.cur
        go_wp2_with (first | (refine wpl_store_blk hB1 33 2 4 [.int .i64 y0, .int .i64 y1, .string y2, .slice Y3 y4 y5] (by kernel_rfl) rfl (by simp) (xcells_one y0 y1 y2 Y3 y4 y5) rfl rfl rfl rfl ?_; intro w2 hB2 hg2; have R2 := R1.put hB2 hg2; have za2 := za.puts R1.gl R1.g1 hg2; simp only [List.take_succ_cons, List.take_zero, List.drop_succ_cons, List.drop_zero, List.cons_append, List.nil_append, List.set_cons_zero, List.set_cons_succ, Nat.reduceAdd] at R2; have s1 : w2.cell? ⟨Q, 1, none⟩ = some (.string nm) := (R2.src.cell 1).trans rfl; clear hB1 za hB2 hg2 R1; have s1 := (R2.src.cell 1).trans rfl; simp only [List.getElem?_cons_zero, List.getElem?_cons_succ] at s1) | fail)
        refine (bind_any B _ g x1 x2 (en ++ more) m1 nm R2.to.own (R2.pow HO0.out.2) (by have := HQ.out; omega) (by have := HQ.out; simp only [List.length_append, List.length_singleton]; omega)).mono ?_
        rintro r w3 ⟨rfl, x3, x4, hT3⟩
        have R3 := R2.call hT3
        have za3 := za2.turn (Turn.of_rn R2.to.own hT3)
        clear R2 za2 hT3 s1
        have hB3 := R3.cur
        go_wp2_with (first | (refine wpl_set_blk hB3 1 (.string (Ex.ba (Sr.vn m1))) (by kernel_rfl) (by simp) rfl rfl rfl rfl rfl rfl ?_; intro w4 hB4 hg4; have R4 := R3.put hB4 hg4; have za4 := za3.puts R3.gl R3.g1 hg4; simp only [List.take_succ_cons, List.take_zero, List.drop_succ_cons, List.drop_zero, List.cons_append, List.nil_append, List.set_cons_zero, List.set_cons_succ, Nat.reduceAdd] at R4; clear hB3 hB4 hg4 R3 za3) | (refine wpl_get_blk (ty := 36) R4.cur (by kernel_rfl) (by kernel_rfl) rfl rfl rfl ?_) | (at_builtin; refine wp_push w4 _ _ w.heap.size _ _ _ _ _ Tryd.underlying22 info_stmt rfl (by decide) R4.row [.int .i64 1, .string (Ex.ba (Sr.vn m1)), .int .i64 y0, .int .i64 y1, .string y2, .slice Y3 y4 y5, .int .i64 0, .int .i64 0, .string ⟨#[]⟩, .slice none 0 0, .slice none 0 0, .slice none 0 0] rfl (stone _ _ _ _ _ _ _ _ _ _ _ _ _ _ _ _ _ _ _ _) n63 n47 R4.to.kp.size rfl rfl rfl rfl ?_; intro v7 w7 hown7 hg7 hv7 hb7) | fail)
        obtain ⟨e1, e2, e3, e4⟩ := R4.finish rfl za4 XZS.none ZP.nil ZP.nil hown7 hg7 hv7 hb7
        have HE := Lib.hid (And.intro e1 (And.intro hown7 (And.intro e2 (And.intro e3 e4))))
        clear e1 e2 e3 e4 hown7 hg7 hv7 hb7 R4 za4
        try go_wp2_with fail
        go_roundw
        case rel =>
          obtain ⟨e1, e0, e2, e3, e4⟩ := HE.out
          refine ⟨k + 1, rest, _, _, _, _, (more ++ [(nm.data.toList, Sr.vn m1)]), (m1 + 1), by omega, by go_num, by rw [show n - (k + 1) = n - k - 1 by omega]; exact HPR.out, by rw [← List.append_assoc]; exact e1, e0, e2, e3, e4, ?_, ?_, ?_, ?_, ?_⟩
          · rw [← HQ.out.1, St.P.append_assoc, St.P.cons_append, St.P.nil_append]
            simp [Sr.rn, Ex.ba, List.append_assoc]
          · rw [← HQ.out.2.1]
            simp [Sr.rn, List.append_assoc]
          · exact HQ.out.2.2.2.2.2.1.2.2
          · have := HQ.out.2.2.2.1
            rw [St.P.size] at this
            first | omega | (simp only [List.length_append, List.length_singleton]; omega)
          · have := HQ.out.2.2.2.2.1
            rw [St.P.size] at this
            skip
            omega
        case measure => simp [intOf]; omega
      · unfold stcells xcells at R0 hbA
        simp only [List.cons_append, List.nil_append] at R0 hbA
        have hIA := fun w' hb => (hIN w' hb).1
        have hIB := fun w' hb => (hIN w' hb).2.1
        have hPB := fun w' hb => (hIN w' hb).2.2.1
        have hPE := fun w' hb => (hIN w' hb).2.2.2
        clear hIN
        unfold xcells at hIA hIB
        go_wp2_with fail
        rw [← hQQ.out]
        generalize ((wr.alloc (.cells #[.int .i64 2, .string nm, .int .i64 ak, .int .i64 an, .string sa, .slice aA al ac, .int .i64 bk, .int .i64 bn, .string sb, .slice bA bl bc, .slice D dl dc, .slice E el ec] 36)).alloc (.cells #[.int .i64 2, .string ⟨#[]⟩, .int .i64 0, .int .i64 0, .string ⟨#[]⟩, .slice none 0 0, .int .i64 0, .int .i64 0, .string ⟨#[]⟩, .slice none 0 0, .slice none 0 0, .slice none 0 0] 36)) = W0 at R0 hbA ⊢
        clear c0 c1 c2 c3 c4 c5 c6 c7 c8 c9 c10 c11 hbA hlow
        have n63 : k + 1 ≤ maxLen := by unfold maxLen; omega
        have n47 : (k + 1) * 184 ≤ 140737488355328 := by omega
        refine (rnx_any ea W0 _ g x1 x2 (en ++ more) ((hIA W0 R0.low).up R0.to.own.base) (RnI.of R0.to.own (by have := HQ.out; simp only [List.length_append, List.length_singleton]; omega))).mono ?_
        rintro r w1 ⟨ca, rfl, hx, hb⟩
        have R1 := R0.below hb
        have za := R0.fresh_x hb hx
        obtain ⟨y0, y1, y2, Y3, y4, y5, rfl, -, -⟩ := XRN.form hx
        clear hx hb
        clear R0
        have s1 : w1.cell? ⟨Q, 1, none⟩ = some (.string nm) := (R1.src.cell 1).trans rfl
        unfold xcells at za ⊢
        have hB1 := R1.cur
        go_wp2_with (first | (refine wpl_store_blk hB1 33 2 4 [.int .i64 y0, .int .i64 y1, .string y2, .slice Y3 y4 y5] (by kernel_rfl) rfl (by simp) (xcells_one y0 y1 y2 Y3 y4 y5) rfl rfl rfl rfl ?_; intro w2 hB2 hg2; have R2 := R1.put hB2 hg2; have za2 := za.puts R1.gl R1.g1 hg2; simp only [List.take_succ_cons, List.take_zero, List.drop_succ_cons, List.drop_zero, List.cons_append, List.nil_append, List.set_cons_zero, List.set_cons_succ, Nat.reduceAdd] at R2; have s1 : w2.cell? ⟨Q, 1, none⟩ = some (.string nm) := (R2.src.cell 1).trans rfl; clear hB1 za hB2 hg2 R1; have s1 := (R2.src.cell 1).trans rfl; simp only [List.getElem?_cons_zero, List.getElem?_cons_succ] at s1) | fail)
        refine (bind_any B _ g x1 x2 (en ++ more) m1 nm R2.to.own (R2.pow HO0.out.2) (by have := HQ.out; omega) (by have := HQ.out; simp only [List.length_append, List.length_singleton]; omega)).mono ?_
        rintro r w3 ⟨rfl, x3, x4, hT3⟩
        have R3 := R2.call hT3
        have za3 := za2.turn (Turn.of_rn R2.to.own hT3)
        clear R2 za2 hT3 s1
        have hB3 := R3.cur
        go_wp2_with (first | (refine wpl_set_blk hB3 1 (.string (Ex.ba (Sr.vn m1))) (by kernel_rfl) (by simp) rfl rfl rfl rfl rfl rfl ?_; intro w4 hB4 hg4; have R4 := R3.put hB4 hg4; have za4 := za3.puts R3.gl R3.g1 hg4; simp only [List.take_succ_cons, List.take_zero, List.drop_succ_cons, List.drop_zero, List.cons_append, List.nil_append, List.set_cons_zero, List.set_cons_succ, Nat.reduceAdd] at R4; clear hB3 hB4 hg4 R3 za3) | (refine wpl_get_blk (ty := 36) R4.cur (by kernel_rfl) (by kernel_rfl) rfl rfl rfl ?_) | (at_builtin; refine wp_push w4 _ _ w.heap.size _ _ _ _ _ Tryd.underlying22 info_stmt rfl (by decide) R4.row [.int .i64 2, .string (Ex.ba (Sr.vn m1)), .int .i64 y0, .int .i64 y1, .string y2, .slice Y3 y4 y5, .int .i64 0, .int .i64 0, .string ⟨#[]⟩, .slice none 0 0, .slice none 0 0, .slice none 0 0] rfl (stone _ _ _ _ _ _ _ _ _ _ _ _ _ _ _ _ _ _ _ _) n63 n47 R4.to.kp.size rfl rfl rfl rfl ?_; intro v7 w7 hown7 hg7 hv7 hb7) | fail)
        obtain ⟨e1, e2, e3, e4⟩ := R4.finish rfl za4 XZS.none ZP.nil ZP.nil hown7 hg7 hv7 hb7
        have HE := Lib.hid (And.intro e1 (And.intro hown7 (And.intro e2 (And.intro e3 e4))))
        clear e1 e2 e3 e4 hown7 hg7 hv7 hb7 R4 za4
        try go_wp2_with fail
        go_roundw
        case rel =>
          obtain ⟨e1, e0, e2, e3, e4⟩ := HE.out
          refine ⟨k + 1, rest, _, _, _, _, (more ++ [(nm.data.toList, Sr.vn m1)]), (m1 + 1), by omega, by go_num, by rw [show n - (k + 1) = n - k - 1 by omega]; exact HPR.out, by rw [← List.append_assoc]; exact e1, e0, e2, e3, e4, ?_, ?_, ?_, ?_, ?_⟩
          · rw [← HQ.out.1, St.P.append_assoc, St.P.cons_append, St.P.nil_append]
            simp [Sr.rn, Ex.ba, List.append_assoc]
          · rw [← HQ.out.2.1]
            simp [Sr.rn, List.append_assoc]
          · exact HQ.out.2.2.2.2.2.1.2.2
          · have := HQ.out.2.2.2.1
            rw [St.P.size] at this
            first | omega | (simp only [List.length_append, List.length_singleton]; omega)
          · have := HQ.out.2.2.2.2.1
            rw [St.P.size] at this
            skip
            omega
        case measure => simp [intOf]; omega
      · unfold stcells xcells at R0 hbA
        simp only [List.cons_append, List.nil_append] at R0 hbA
        have hIA := fun w' hb => (hIN w' hb).1
        have hIB := fun w' hb => (hIN w' hb).2.1
        have hPB := fun w' hb => (hIN w' hb).2.2.1
        have hPE := fun w' hb => (hIN w' hb).2.2.2
        clear hIN
        unfold xcells at hIA hIB
        go_wp2_with fail
        rw [← hQQ.out]
        generalize ((wr.alloc (.cells #[.int .i64 3, .string nm, .int .i64 ak, .int .i64 an, .string sa, .slice aA al ac, .int .i64 bk, .int .i64 bn, .string sb, .slice bA bl bc, .slice D dl dc, .slice E el ec] 36)).alloc (.cells #[.int .i64 3, .string ⟨#[]⟩, .int .i64 0, .int .i64 0, .string ⟨#[]⟩, .slice none 0 0, .int .i64 0, .int .i64 0, .string ⟨#[]⟩, .slice none 0 0, .slice none 0 0, .slice none 0 0] 36)) = W0 at R0 hbA ⊢
        clear c0 c1 c2 c3 c4 c5 c6 c7 c8 c9 c10 c11 hbA hlow
        have n63 : k + 1 ≤ maxLen := by unfold maxLen; omega
        have n47 : (k + 1) * 184 ≤ 140737488355328 := by omega
        have keepS : ∀ w', Below W0.heap.size W0 w' → (Below W0.heap.size W0 w' ∧ w'.cell? ⟨Q, 2, none⟩ = some (.int .i64 ak) ∧ w'.cell? ⟨Q, 3, none⟩ = some (.int .i64 an) ∧ w'.cell? ⟨Q, 4, none⟩ = some (.string sa) ∧ w'.cell? ⟨Q, 5, none⟩ = some (.slice aA al ac) ∧ w'.cell? ⟨Q, 6, none⟩ = some (.int .i64 bk) ∧ w'.cell? ⟨Q, 7, none⟩ = some (.int .i64 bn) ∧ w'.cell? ⟨Q, 8, none⟩ = some (.string sb) ∧ w'.cell? ⟨Q, 9, none⟩ = some (.slice bA bl bc)) := fun w' hb => by
          have hq := R0.src.below hb
          exact ⟨hb, (hq.cell 2).trans rfl, (hq.cell 3).trans rfl, (hq.cell 4).trans rfl, (hq.cell 5).trans rfl, (hq.cell 6).trans rfl, (hq.cell 7).trans rfl, (hq.cell 8).trans rfl, (hq.cell 9).trans rfl⟩
        have gX : ∀ (w' : World) (cs : List Value) (e : Ex.X), Below W0.heap.size W0 w' → XR B w' cs e → Calls Tryd.prog 31 #[.pointer (some ⟨g, 0, none⟩), .agg cs.toArray] w' fun r w'' => ∃ v, r = .returned v ∧ (FNS (fun b => W0.heap.size ≤ b) (Sr.rnx (en ++ more) e)).holds v w'' ∧ Below w'.heap.size w' w'' := fun w' cs e hb hx => by
          have R' := R0.below hb
          refine (rnx_any e w' cs g x1 x2 (en ++ more) (hx.up R'.to.own.base) (RnI.of R'.to.own (by have := HQ.out; simp only [List.length_append, List.length_singleton]; omega))).mono ?_
          rintro r w'' ⟨cs', rfl, h1, h2⟩
          exact ⟨_, rfl, ⟨cs', rfl, h1.imp fun b _ hb2 => Nat.le_trans hb.size hb2⟩, h2⟩
        have gA := fun w' hb => gX w' _ ea hb (hIA w' (R0.below hb).low)
        have gB := fun w' hb => gX w' _ eb hb (hIB w' (R0.below hb).low)
        have hS0 := keepS _ (below_drew (Below.refl _ _))
        have HR0 := Lib.hid R0
        clear R0 gX
        refine wp_walk_tail 9 (by kernel_rfl) (by kernel_rfl) (fun w w' => Below w.heap.size w w') (fun w' => (Below W0.heap.size W0 w' ∧ w'.cell? ⟨Q, 2, none⟩ = some (.int .i64 ak) ∧ w'.cell? ⟨Q, 3, none⟩ = some (.int .i64 an) ∧ w'.cell? ⟨Q, 4, none⟩ = some (.string sa) ∧ w'.cell? ⟨Q, 5, none⟩ = some (.slice aA al ac) ∧ w'.cell? ⟨Q, 6, none⟩ = some (.int .i64 bk) ∧ w'.cell? ⟨Q, 7, none⟩ = some (.int .i64 bn) ∧ w'.cell? ⟨Q, 8, none⟩ = some (.string sb) ∧ w'.cell? ⟨Q, 9, none⟩ = some (.slice bA bl bc))) hS0 ?_
        simp only [List.length_cons, List.length_nil, Nat.reduceAdd, Nat.reduceSub, List.take_succ_cons, List.take_zero, List.drop_succ_cons, List.drop_zero]
        repeat (first | (refine settle_skip (fun _ => by rfl) ?_; (simp only [Act.put, List.setIfInBounds_toArray, List.set_cons_zero, List.set_cons_succ])) | (refine' settle_run (fun _ _ => Below.refl _ _) (fun _ => by rfl) ?_ ?_; rotate_left; (focus (intro ρ w hS hF; (try dsimp only at hS); go_split_ands; go_simp; try with_reducible rfl)); (simp only [Act.put, List.setIfInBounds_toArray, List.set_cons_zero, List.set_cons_succ])))
        (refine settle_known (FNS (fun b ↦ W0.heap.size ≤ b) (Sr.rnx (en ++ more) ea)) (by rfl) (fun _ => by rfl)  ?_ ?_; (focus (intro ρ w hS hF K hK; (simp only [Act.put, List.setIfInBounds_toArray, List.set_cons_zero, List.set_cons_succ] at hK); go_simp; (refine (gA _ hS.1).mono ?_; rintro e w' ⟨v, rfl, hF', hb'⟩; exact hK _ _ hF' (keepS _ (below_next hb' hS.1)) hb'))); (simp only [Act.put, List.setIfInBounds_toArray, List.set_cons_zero, List.set_cons_succ]))
        repeat (first | (refine settle_skip (fun _ => by rfl) ?_; (simp only [Act.put, List.setIfInBounds_toArray, List.set_cons_zero, List.set_cons_succ])) | (refine' settle_run (fun _ _ => Below.refl _ _) (fun _ => by rfl) ?_ ?_; rotate_left; (focus (intro ρ w hS hF; (try dsimp only at hS); go_split_ands; go_simp; try with_reducible rfl)); (simp only [Act.put, List.setIfInBounds_toArray, List.set_cons_zero, List.set_cons_succ])))
        (refine settle_known (FNS (fun b ↦ W0.heap.size ≤ b) (Sr.rnx (en ++ more) eb)) (by rfl) (fun _ => by rfl)  ?_ ?_; (focus (intro ρ w hS hF K hK; (simp only [Act.put, List.setIfInBounds_toArray, List.set_cons_zero, List.set_cons_succ] at hK); go_simp; (refine (gB _ hS.1).mono ?_; rintro e w' ⟨v, rfl, hF', hb'⟩; exact hK _ _ hF' (keepS _ (below_next hb' hS.1)) hb'))); (simp only [Act.put, List.setIfInBounds_toArray, List.set_cons_zero, List.set_cons_succ]))
        repeat (first | (refine settle_skip (fun _ => by rfl) ?_; (simp only [Act.put, List.setIfInBounds_toArray, List.set_cons_zero, List.set_cons_succ])) | (refine' settle_run (fun _ _ => Below.refl _ _) (fun _ => by rfl) ?_ ?_; rotate_left; (focus (intro ρ w hS hF; (try dsimp only at hS); go_split_ands; go_simp; try with_reducible rfl)); (simp only [Act.put, List.setIfInBounds_toArray, List.set_cons_zero, List.set_cons_succ])))
        refine settle_nil ?_
        intro ρ w1 hS hF
        obtain ⟨ca, e76, hxa⟩ := hF 39 (FNS (fun b => W0.heap.size ≤ b) (Sr.rnx (en ++ more) ea)) (by repeat (first | exact List.mem_cons_self | apply List.mem_cons_of_mem))
        obtain ⟨cb, e80, hxb⟩ := hF 43 (FNS (fun b => W0.heap.size ≤ b) (Sr.rnx (en ++ more) eb)) (by repeat (first | exact List.mem_cons_self | apply List.mem_cons_of_mem))
        have hb1 := hS.1
        have R1 := HR0.out.below hb1
        have za := HR0.out.fresh_x hb1 hxa
        have zb := HR0.out.fresh_x hb1 hxb
        obtain ⟨y0, y1, y2, Y3, y4, y5, rfl, -, -⟩ := XRN.form hxa
        obtain ⟨z0, z1, z2, Z3, z4, z5, rfl, -, -⟩ := XRN.form hxb
        clear hF hS hS0 keepS gA gB hxa hxb hb1 HR0
        unfold xcells at za zb e76 e80
        dsimp only
        rw [e76, e80]
        clear e76 e80
        have hB1 := R1.cur
        go_wp2_with (first | (refine wpl_store_blk hB1 33 2 4 [.int .i64 y0, .int .i64 y1, .string y2, .slice Y3 y4 y5] (by kernel_rfl) rfl (by simp) (xcells_one y0 y1 y2 Y3 y4 y5) rfl rfl rfl rfl ?_; intro w2 hB2 hg2; have R2 := R1.put hB2 hg2; have za2 := za.puts R1.gl R1.g1 hg2; have zb2 := zb.puts R1.gl R1.g1 hg2; simp only [List.take_succ_cons, List.take_zero, List.drop_succ_cons, List.drop_zero, List.cons_append, List.nil_append, List.set_cons_zero, List.set_cons_succ, Nat.reduceAdd] at R2; clear hB1 za zb hB2 hg2 R1; have hB2' := R2.cur) | (refine wpl_store_blk hB2' 33 6 4 [.int .i64 z0, .int .i64 z1, .string z2, .slice Z3 z4 z5] (by kernel_rfl) rfl (by simp) (xcells_one z0 z1 z2 Z3 z4 z5) rfl rfl rfl rfl ?_; intro w3 hB3 hg3; have R3 := R2.put hB3 hg3; have za3 := za2.puts R2.gl R2.g1 hg3; have zb3 := zb2.puts R2.gl R2.g1 hg3; simp only [List.take_succ_cons, List.take_zero, List.drop_succ_cons, List.drop_zero, List.cons_append, List.nil_append, List.set_cons_zero, List.set_cons_succ, Nat.reduceAdd] at R3; clear hB2' za2 zb2 hB3 hg3 R2) | (refine wpl_get_blk (ty := 36) R3.cur (by kernel_rfl) (by kernel_rfl) rfl rfl rfl ?_) | (at_builtin; refine wp_push w3 _ _ w.heap.size _ _ _ _ _ Tryd.underlying22 info_stmt rfl (by decide) R3.row [.int .i64 3, .string ⟨#[]⟩, .int .i64 y0, .int .i64 y1, .string y2, .slice Y3 y4 y5, .int .i64 z0, .int .i64 z1, .string z2, .slice Z3 z4 z5, .slice none 0 0, .slice none 0 0] rfl (stone _ _ _ _ _ _ _ _ _ _ _ _ _ _ _ _ _ _ _ _) n63 n47 R3.to.kp.size rfl rfl rfl rfl ?_; intro v7 w9 hown7 hg7 hv7 hb7) | fail)
        obtain ⟨e1, e2, e3, e4⟩ := R3.finish rfl za3 zb3 ZP.nil ZP.nil hown7 hg7 hv7 hb7
        have HE := Lib.hid (And.intro e1 (And.intro hown7 (And.intro e2 (And.intro e3 e4))))
        clear e1 e2 e3 e4 hown7 hg7 hv7 hb7 R3
        try go_wp2_with fail
        go_roundw
        case rel =>
          obtain ⟨e1, e0, e2, e3, e4⟩ := HE.out
          refine ⟨k + 1, rest, _, _, _, _, more, m1, by omega, by go_num, by rw [show n - (k + 1) = n - k - 1 by omega]; exact HPR.out, e1, e0, e2, e3, e4, ?_, ?_, ?_, ?_, ?_⟩
          · rw [← HQ.out.1, St.P.append_assoc, St.P.cons_append, St.P.nil_append]
            simp [Sr.rn, Ex.ba]
          · rw [← HQ.out.2.1]
            simp [Sr.rn, List.append_assoc]
          · exact HQ.out.2.2.2.2.2.1.2.2
          · have := HQ.out.2.2.2.1
            rw [St.P.size] at this
            first | omega | (simp only [List.length_append, List.length_singleton]; omega)
          · have := HQ.out.2.2.2.2.1
            rw [St.P.size] at this
            omega
        case measure => simp [intOf]; omega
      · unfold stcells xcells at R0 hbA
        simp only [List.cons_append, List.nil_append] at R0 hbA
        have hIA := fun w' hb => (hIN w' hb).1
        have hIB := fun w' hb => (hIN w' hb).2.1
        have hPB := fun w' hb => (hIN w' hb).2.2.1
        have hPE := fun w' hb => (hIN w' hb).2.2.2
        clear hIN
        unfold xcells at hIA hIB
        go_wp2_with fail
        rw [← hQQ.out]
        generalize ((wr.alloc (.cells #[.int .i64 4, .string nm, .int .i64 ak, .int .i64 an, .string sa, .slice aA al ac, .int .i64 bk, .int .i64 bn, .string sb, .slice bA bl bc, .slice D dl dc, .slice E el ec] 36)).alloc (.cells #[.int .i64 4, .string ⟨#[]⟩, .int .i64 0, .int .i64 0, .string ⟨#[]⟩, .slice none 0 0, .int .i64 0, .int .i64 0, .string ⟨#[]⟩, .slice none 0 0, .slice none 0 0, .slice none 0 0] 36)) = W0 at R0 hbA ⊢
        clear c0 c1 c2 c3 c4 c5 c6 c7 c8 c9 c10 c11 hbA hlow
        have n63 : k + 1 ≤ maxLen := by unfold maxLen; omega
        have n47 : (k + 1) * 184 ≤ 140737488355328 := by omega
        refine (rblock_any body (ih body (by have := HQ.out; omega)) W0 B dl dc g D x1 x2 (en ++ more) m1 (hPB W0 R0.low) hd1 hd2 R0.to.own (R0.pow HO0.out.2) (by have := HQ.out; simp only [List.length_append, List.length_singleton]; omega) (by have := HQ.out; omega)).mono ?_
        rintro r w6 ⟨u, x5, x6, rfl, hT, hu⟩
        have R6 := R0.call hT
        have zp := R0.fresh_p hu
        obtain ⟨D1, l1, q1, rfl, -, -, -⟩ := id zp
        clear hT hu R0
        have hB6 := R6.cur
        go_wp2_with (first | (refine wpl_set_blk hB6 10 (.slice D1 l1 q1) (by kernel_rfl) (by simp) rfl rfl rfl rfl rfl rfl ?_; intro w7 hB7 hg7; have R7 := R6.put hB7 hg7; have zp7 := zp.puts R6.gl R6.g1 hg7; simp only [List.take_succ_cons, List.take_zero, List.drop_succ_cons, List.drop_zero, List.cons_append, List.nil_append, List.set_cons_zero, List.set_cons_succ, Nat.reduceAdd] at R7; clear hB6 hB7 hg7 R6 zp) | (refine wpl_get_blk (ty := 36) R7.cur (by kernel_rfl) (by kernel_rfl) rfl rfl rfl ?_) | (at_builtin; refine wp_push w7 _ _ w.heap.size _ _ _ _ _ Tryd.underlying22 info_stmt rfl (by decide) R7.row [.int .i64 4, .string ⟨#[]⟩, .int .i64 0, .int .i64 0, .string ⟨#[]⟩, .slice none 0 0, .int .i64 0, .int .i64 0, .string ⟨#[]⟩, .slice none 0 0, .slice D1 l1 q1, .slice none 0 0] rfl (stone _ _ _ _ _ _ _ _ _ _ _ _ _ _ _ _ _ _ _ _) n63 n47 R7.to.kp.size rfl rfl rfl rfl ?_; intro v7 w9 hown7 hg7 hv7 hb7) | fail)
        obtain ⟨e1, e2, e3, e4⟩ := R7.finish rfl XZS.none XZS.none zp7 ZP.nil hown7 hg7 hv7 hb7
        have HE := Lib.hid (And.intro e1 (And.intro hown7 (And.intro e2 (And.intro e3 e4))))
        clear e1 e2 e3 e4 hown7 hg7 hv7 hb7 R7
        try go_wp2_with fail
        go_roundw
        case rel =>
          obtain ⟨e1, e0, e2, e3, e4⟩ := HE.out
          refine ⟨k + 1, rest, _, _, _, _, more, (Sr.rn Sr.vn body (en ++ more) m1).2, by omega, by go_num, by rw [show n - (k + 1) = n - k - 1 by omega]; exact HPR.out, e1, e0, e2, e3, e4, ?_, ?_, ?_, ?_, ?_⟩
          · rw [← HQ.out.1, St.P.append_assoc, St.P.cons_append, St.P.nil_append]
            simp [Sr.rn, Ex.ba]
          · rw [← HQ.out.2.1]
            simp [Sr.rn, List.append_assoc]
          · exact HQ.out.2.2.2.2.2.1.2.2
          · have := HQ.out.2.2.2.1
            rw [St.P.size] at this
            first | omega | (simp only [List.length_append, List.length_singleton]; omega)
          · have := HQ.out.2.2.2.2.1
            rw [St.P.size] at this
            have := Sr.rn_le body (en ++ more) m1
            omega
        case measure => simp [intOf]; omega
      · unfold stcells xcells at R0 hbA
        simp only [List.cons_append, List.nil_append] at R0 hbA
        have hIA := fun w' hb => (hIN w' hb).1
        have hIB := fun w' hb => (hIN w' hb).2.1
        have hPB := fun w' hb => (hIN w' hb).2.2.1
        have hPE := fun w' hb => (hIN w' hb).2.2.2
        clear hIN
        unfold xcells at hIA hIB
        go_wp2_with fail
        rw [← hQQ.out]
        generalize ((wr.alloc (.cells #[.int .i64 5, .string nm, .int .i64 ak, .int .i64 an, .string sa, .slice aA al ac, .int .i64 bk, .int .i64 bn, .string sb, .slice bA bl bc, .slice D dl dc, .slice E el ec] 36)).alloc (.cells #[.int .i64 5, .string ⟨#[]⟩, .int .i64 0, .int .i64 0, .string ⟨#[]⟩, .slice none 0 0, .int .i64 0, .int .i64 0, .string ⟨#[]⟩, .slice none 0 0, .slice none 0 0, .slice none 0 0] 36)) = W0 at R0 hbA ⊢
        clear c0 c1 c2 c3 c4 c5 c6 c7 c8 c9 c10 c11 hbA hlow
        have n63 : k + 1 ≤ maxLen := by unfold maxLen; omega
        have n47 : (k + 1) * 184 ≤ 140737488355328 := by omega
        refine (rblock_any body (ih body (by have := HQ.out; omega)) W0 B dl dc g D x1 x2 (en ++ more) m1 (hPB W0 R0.low) hd1 hd2 R0.to.own (R0.pow HO0.out.2) (by have := HQ.out; simp only [List.length_append, List.length_singleton]; omega) (by have := HQ.out; omega)).mono ?_
        rintro r w6 ⟨u, x5, x6, rfl, hT, hu⟩
        have R6 := R0.call hT
        have zp := R0.fresh_p hu
        obtain ⟨D1, l1, q1, rfl, -, -, -⟩ := id zp
        clear hT hu R0
        have hB6 := R6.cur
        go_wp2_with (first | (refine wpl_set_blk hB6 10 (.slice D1 l1 q1) (by kernel_rfl) (by simp) rfl rfl rfl rfl rfl rfl ?_; intro w7 hB7 hg7; have R7 := R6.put hB7 hg7; have zp7 := zp.puts R6.gl R6.g1 hg7; simp only [List.take_succ_cons, List.take_zero, List.drop_succ_cons, List.drop_zero, List.cons_append, List.nil_append, List.set_cons_zero, List.set_cons_succ, Nat.reduceAdd] at R7; clear hB6 hB7 hg7 R6 zp) | (refine wpl_get_blk (ty := 36) R7.cur (by kernel_rfl) (by kernel_rfl) rfl rfl rfl ?_) | (at_builtin; refine wp_push w7 _ _ w.heap.size _ _ _ _ _ Tryd.underlying22 info_stmt rfl (by decide) R7.row [.int .i64 5, .string ⟨#[]⟩, .int .i64 0, .int .i64 0, .string ⟨#[]⟩, .slice none 0 0, .int .i64 0, .int .i64 0, .string ⟨#[]⟩, .slice none 0 0, .slice D1 l1 q1, .slice none 0 0] rfl (stone _ _ _ _ _ _ _ _ _ _ _ _ _ _ _ _ _ _ _ _) n63 n47 R7.to.kp.size rfl rfl rfl rfl ?_; intro v7 w9 hown7 hg7 hv7 hb7) | fail)
        obtain ⟨e1, e2, e3, e4⟩ := R7.finish rfl XZS.none XZS.none zp7 ZP.nil hown7 hg7 hv7 hb7
        have HE := Lib.hid (And.intro e1 (And.intro hown7 (And.intro e2 (And.intro e3 e4))))
        clear e1 e2 e3 e4 hown7 hg7 hv7 hb7 R7
        try go_wp2_with fail
        go_roundw
        case rel =>
          obtain ⟨e1, e0, e2, e3, e4⟩ := HE.out
          refine ⟨k + 1, rest, _, _, _, _, more, (Sr.rn Sr.vn body (en ++ more) m1).2, by omega, by go_num, by rw [show n - (k + 1) = n - k - 1 by omega]; exact HPR.out, e1, e0, e2, e3, e4, ?_, ?_, ?_, ?_, ?_⟩
          · rw [← HQ.out.1, St.P.append_assoc, St.P.cons_append, St.P.nil_append]
            simp [Sr.rn, Ex.ba]
          · rw [← HQ.out.2.1]
            simp [Sr.rn, List.append_assoc]
          · exact HQ.out.2.2.2.2.2.1.2.2
          · have := HQ.out.2.2.2.1
            rw [St.P.size] at this
            first | omega | (simp only [List.length_append, List.length_singleton]; omega)
          · have := HQ.out.2.2.2.2.1
            rw [St.P.size] at this
            have := Sr.rn_le body (en ++ more) m1
            omega
        case measure => simp [intOf]; omega
      · unfold stcells xcells at R0 hbA
        simp only [List.cons_append, List.nil_append] at R0 hbA
        have hIA := fun w' hb => (hIN w' hb).1
        have hIB := fun w' hb => (hIN w' hb).2.1
        have hPB := fun w' hb => (hIN w' hb).2.2.1
        have hPE := fun w' hb => (hIN w' hb).2.2.2
        clear hIN
        unfold xcells at hIA hIB
        go_wp2_with fail
        rw [← hQQ.out]
        generalize ((wr.alloc (.cells #[.int .i64 6, .string nm, .int .i64 ak, .int .i64 an, .string sa, .slice aA al ac, .int .i64 bk, .int .i64 bn, .string sb, .slice bA bl bc, .slice D dl dc, .slice E el ec] 36)).alloc (.cells #[.int .i64 6, .string ⟨#[]⟩, .int .i64 0, .int .i64 0, .string ⟨#[]⟩, .slice none 0 0, .int .i64 0, .int .i64 0, .string ⟨#[]⟩, .slice none 0 0, .slice none 0 0, .slice none 0 0] 36)) = W0 at R0 hbA ⊢
        clear c0 c1 c2 c3 c4 c5 c6 c7 c8 c9 c10 c11 hbA hlow
        have n63 : k + 1 ≤ maxLen := by unfold maxLen; omega
        have n47 : (k + 1) * 184 ≤ 140737488355328 := by omega
        obtain ⟨mA, hmA⟩ : ∃ mA, mA = (Sr.rn Sr.vn body (en ++ more) m1).2 := ⟨_, rfl⟩
        obtain ⟨mB, hmB⟩ : ∃ mB, mB = (Sr.rn Sr.vn els (en ++ more) mA).2 := ⟨_, rfl⟩
        have hmA' : mA ≤ m1 + body.size := by rw [hmA]; exact Sr.rn_le body _ _
        have hmB' : mB ≤ mA + els.size := by rw [hmB]; exact Sr.rn_le els _ _
        obtain ⟨RD, hRD⟩ : ∃ RD : Value → Value → Nat → World → Prop, RD = fun a b m W => Rd B w g Q u5 k cs dn uo un en [.int .i64 6, .string nm, .int .i64 ak, .int .i64 an, .string sa, .slice aA al ac, .int .i64 bk, .int .i64 bn, .string sb, .slice bA bl bc, .slice D dl dc, .slice E el ec] a b (en ++ more) m [.int .i64 6, .string ⟨#[]⟩, .int .i64 0, .int .i64 0, .string ⟨#[]⟩, .slice none 0 0, .int .i64 0, .int .i64 0, .string ⟨#[]⟩, .slice none 0 0, .slice none 0 0, .slice none 0 0] W := ⟨_, rfl⟩
        have hDS : ∀ a b m w', RD a b m w' → g < w'.heap.size ∧ w'.cell? ⟨Q, 2, none⟩ = some (.int .i64 ak) ∧ w'.cell? ⟨Q, 3, none⟩ = some (.int .i64 an) ∧ w'.cell? ⟨Q, 4, none⟩ = some (.string sa) ∧ w'.cell? ⟨Q, 5, none⟩ = some (.slice aA al ac) ∧ w'.cell? ⟨Q, 10, none⟩ = some (.slice D dl dc) ∧ w'.cell? ⟨Q, 11, none⟩ = some (.slice E el ec) := fun a b m w' h => by
          rw [hRD] at h
          have hq := h.src
          exact ⟨h.gl, (hq.cell 2).trans rfl, (hq.cell 3).trans rfl, (hq.cell 4).trans rfl, (hq.cell 5).trans rfl, (hq.cell 10).trans rfl, (hq.cell 11).trans rfl⟩
        have hDb : ∀ a b m W W', RD a b m W → Below W.heap.size W W' → RD a b m W' := fun a b m W W' h hb => by
          rw [hRD] at h ⊢
          exact Rd.below h hb
        have hDx : ∀ a b m W, RD a b m W → Calls Tryd.prog 31 #[.pointer (some ⟨g, 0, none⟩), .agg #[.int .i64 ak, .int .i64 an, .string sa, .slice aA al ac]] W fun r W' => ∃ v, r = .returned v ∧ (FXZ g w.heap.size Q u5 (Sr.rnx (en ++ more) ea)).holds v W' ∧ RD a b m W' ∧ Below W.heap.size W W' := fun a b m W h => by
          have h' := h
          rw [hRD] at h'
          refine (rnx_any ea W _ g a b (en ++ more) ((hIA W h'.low).up h'.to.own.base) (RnI.of h'.to.own (by have := HQ.out; simp only [List.length_append, List.length_singleton]; omega))).mono ?_
          rintro r W' ⟨cs', rfl, h1, h2⟩
          obtain ⟨y0, y1, y2, Y3, y4, y5, rfl, -, -⟩ := XRN.form h1
          exact ⟨_, rfl, ⟨y0, y1, y2, Y3, y4, y5, rfl, Rd.fresh_x h' h2 h1⟩, hDb _ _ _ _ _ h h2, h2⟩
        have hDp : ∀ a b W, RD a b m1 W → Calls Tryd.prog 33 #[.pointer (some ⟨g, 0, none⟩), .slice D dl dc] W fun r W' => ∃ v, r = .returned v ∧ (FPZ g w.heap.size Q u5 (Sr.rn Sr.vn body (en ++ more) m1).1).holds v W' ∧ (∃ a b, RD a b mA W') ∧ Turn g W W' := fun a b W h => by
          rw [hRD] at h
          refine (rblock_any body (ih body (by have := HQ.out; omega)) W B dl dc g D a b (en ++ more) m1 (hPB W h.low) hd1 hd2 h.to.own (h.pow HO0.out.2) (by have := HQ.out; simp only [List.length_append, List.length_singleton]; omega) (by have := HQ.out; omega)).mono ?_
          rintro r W' ⟨u, x5, x6, rfl, hT, hu⟩
          refine ⟨_, rfl, h.fresh_p hu, ⟨x5, x6, ?_⟩, Turn.of_rn h.to.own hT⟩
          rw [hRD, hmA]
          exact h.call hT
        have hDe : ∀ a b W, RD a b mA W → Calls Tryd.prog 33 #[.pointer (some ⟨g, 0, none⟩), .slice E el ec] W fun r W' => ∃ v, r = .returned v ∧ (FPZ g w.heap.size Q u5 (Sr.rn Sr.vn els (en ++ more) mA).1).holds v W' ∧ (∃ a b, RD a b mB W') ∧ Turn g W W' := fun a b W h => by
          rw [hRD] at h
          refine (rblock_any els (ih els (by have := HQ.out; omega)) W B el ec g E a b (en ++ more) mA (hPE W h.low) he1 he2 h.to.own (h.pow HO0.out.2) (by have := HQ.out; simp only [List.length_append, List.length_singleton]; omega) (by have := HQ.out; omega)).mono ?_
          rintro r W' ⟨u, x5, x6, rfl, hT, hu⟩
          refine ⟨_, rfl, h.fresh_p hu, ⟨x5, x6, ?_⟩, Turn.of_rn h.to.own hT⟩
          rw [hRD, hmB]
          exact h.call hT
        have hD0 : RD x1 x2 m1 W0 := by rw [hRD]; exact R0
        have HR := Lib.hid (And.intro hRD (And.intro hmA (And.intro hmB (And.intro hmA' hmB'))))
        clear hRD hmA hmB hmA' hmB' R0
        have hD1 : RD x1 x2 m1 W0.drew := hDb _ _ _ _ _ hD0 (below_drew (Below.refl _ _))
        have hS1 := hDS _ _ _ _ hD1
        clear hD0
        refine wp_walk_pr 13 (fun i => ([7, 11] : List Nat).contains i) (fun i => ([8, 9, 10, 12] : List Nat).contains i) [7, 11] (by intro m h; simpa using h) (by kernel_rfl) (by kernel_rfl) (by kernel_rfl) [] (by kernel_rfl) 9998 9999 (fun _ _ => True) (by kernel_rfl) (fun w w' => Below w.heap.size w w' ∧ g < w.heap.size) (Turn g) (fun _ _ h => Turn.of_below h.2 h.1) (fun w' => g < w'.heap.size ∧ w'.cell? ⟨Q, 2, none⟩ = some (.int .i64 ak) ∧ w'.cell? ⟨Q, 3, none⟩ = some (.int .i64 an) ∧ w'.cell? ⟨Q, 4, none⟩ = some (.string sa) ∧ w'.cell? ⟨Q, 5, none⟩ = some (.slice aA al ac) ∧ w'.cell? ⟨Q, 10, none⟩ = some (.slice D dl dc) ∧ w'.cell? ⟨Q, 11, none⟩ = some (.slice E el ec))
          (fun c ρ w => match c with | 0 => RD x1 x2 m1 w | 1 => ∃ a b, RD a b mA w | _ + 2 => ∃ a b, RD a b mB w) hS1 (fun _ => hD1) (fun c ρ w w' h hx => by match c, h with | 0, h => exact hDb _ _ _ _ _ h hx.1 | 1, h => exact (let ⟨a, b, h⟩ := h; ⟨a, b, hDb _ _ _ _ _ h hx.1⟩) | c + 2, h => exact (let ⟨a, b, h⟩ := h; ⟨a, b, hDb _ _ _ _ _ h hx.1⟩)) (fun _ _ _ h => h) (fun c ρ ρ' w hL h => by match c, h with | 0, h => exact h | 1, h => exact h | c + 2, h => exact h) ?_
        simp only [List.length_cons, List.length_nil, Nat.reduceAdd, Nat.reduceSub, List.take_succ_cons, List.take_zero, List.drop_succ_cons, List.drop_zero]
        repeat (first | (refine qsettle_skip (by rfl) (fun _ => by rfl) ?_; (simp only [Act.put, List.setIfInBounds_toArray, List.set_cons_zero, List.set_cons_succ])) | (refine' qsettle_run (by rfl) (fun _ h => ⟨Below.refl _ _, h.1⟩) (fun _ => by rfl) ?_ ?_; rotate_left; (focus (intro ρ w hS hF hP; (try dsimp only at hS); go_split_ands; go_simp; try with_reducible rfl)); (simp only [Act.put, List.setIfInBounds_toArray, List.set_cons_zero, List.set_cons_succ])))
        (refine qsettle_known (FXZ g w.heap.size Q u5 (Sr.rnx (en ++ more) ea)) (by rfl) (by rfl) (fun _ => by rfl) ?_ ?_; (focus (intro ρ w hS hF hP K hK; (simp only [Act.put, List.setIfInBounds_toArray, List.set_cons_zero, List.set_cons_succ] at hK); go_simp; (refine (hDx _ _ _ _ (show RD x1 x2 m1 w from hP (by rfl))).mono ?_; rintro e w' ⟨v, rfl, hF', hR', hb'⟩; exact hK _ _ hF' (hDS _ _ _ _ hR') ⟨hb', hS.1⟩))); (simp only [Act.put, List.setIfInBounds_toArray, List.set_cons_zero, List.set_cons_succ]))
        repeat (first | (refine qsettle_skip (by rfl) (fun _ => by rfl) ?_; (simp only [Act.put, List.setIfInBounds_toArray, List.set_cons_zero, List.set_cons_succ])) | (refine' qsettle_run (by rfl) (fun _ h => ⟨Below.refl _ _, h.1⟩) (fun _ => by rfl) ?_ ?_; rotate_left; (focus (intro ρ w hS hF hP; (try dsimp only at hS); go_split_ands; go_simp; try with_reducible rfl)); (simp only [Act.put, List.setIfInBounds_toArray, List.set_cons_zero, List.set_cons_succ])))
        (refine qsettle_mark (FPZ g w.heap.size Q u5 (Sr.rn Sr.vn body (en ++ more) m1).1) (by rfl) (by rfl) (fun _ => by rfl) ?_ ?_; (focus (intro ρ w hS hF hP K hK; (simp only [Act.put, List.setIfInBounds_toArray, List.set_cons_zero, List.set_cons_succ] at hK); go_simp; (refine (hDp _ _ _ (show RD x1 x2 m1 w from hP (by rfl))).mono ?_; rintro e w' ⟨v, rfl, hF', hR', ht'⟩; exact hK _ _ hF' (hR'.elim fun a h => h.elim fun b h => hDS _ _ _ _ h) hR' ht'))); (simp only [Act.put, List.setIfInBounds_toArray, List.set_cons_zero, List.set_cons_succ]))
        repeat (first | (refine qsettle_skip (by rfl) (fun _ => by rfl) ?_; (simp only [Act.put, List.setIfInBounds_toArray, List.set_cons_zero, List.set_cons_succ])) | (refine' qsettle_run (by rfl) (fun _ h => ⟨Below.refl _ _, h.1⟩) (fun _ => by rfl) ?_ ?_; rotate_left; (focus (intro ρ w hS hF hP; (try dsimp only at hS); go_split_ands; go_simp; try with_reducible rfl)); (simp only [Act.put, List.setIfInBounds_toArray, List.set_cons_zero, List.set_cons_succ])))
        (refine qsettle_mark (FPZ g w.heap.size Q u5 (Sr.rn Sr.vn els (en ++ more) mA).1) (by rfl) (by rfl) (fun _ => by rfl) ?_ ?_; (focus (intro ρ w hS hF hP K hK; (simp only [Act.put, List.setIfInBounds_toArray, List.set_cons_zero, List.set_cons_succ] at hK); go_simp; (obtain ⟨a, b, hr⟩ : ∃ a b, RD a b mA w := hP (by rfl); refine (hDe _ _ _ hr).mono ?_; rintro e w' ⟨v, rfl, hF', hR', ht'⟩; exact hK _ _ hF' (hR'.elim fun a h => h.elim fun b h => hDS _ _ _ _ h) hR' ht'))); (simp only [Act.put, List.setIfInBounds_toArray, List.set_cons_zero, List.set_cons_succ]))
        repeat (first | (refine qsettle_skip (by rfl) (fun _ => by rfl) ?_; (simp only [Act.put, List.setIfInBounds_toArray, List.set_cons_zero, List.set_cons_succ])) | (refine' qsettle_run (by rfl) (fun _ h => ⟨Below.refl _ _, h.1⟩) (fun _ => by rfl) ?_ ?_; rotate_left; (focus (intro ρ w hS hF hP; (try dsimp only at hS); go_split_ands; go_simp; try with_reducible rfl)); (simp only [Act.put, List.setIfInBounds_toArray, List.set_cons_zero, List.set_cons_succ])))
        refine qsettle_nil ?_
        intro ρ w1 hS hI hF _
        obtain ⟨y0, y1, y2, Y3, y4, y5, e59, za⟩ := hF 59 (FXZ g w.heap.size Q u5 (Sr.rnx (en ++ more) ea)) (by repeat (first | exact List.mem_cons_self | apply List.mem_cons_of_mem))
        obtain zp : ZP (Vs g w.heap.size Q u5 w1) w1 (ρ 63) _ := hF 63 (FPZ g w.heap.size Q u5 (Sr.rn Sr.vn body (en ++ more) m1).1) (by repeat (first | exact List.mem_cons_self | apply List.mem_cons_of_mem))
        obtain ze : ZP (Vs g w.heap.size Q u5 w1) w1 (ρ 67) _ := hF 67 (FPZ g w.heap.size Q u5 (Sr.rn Sr.vn els (en ++ more) mA).1) (by repeat (first | exact List.mem_cons_self | apply List.mem_cons_of_mem))
        obtain ⟨D1, l1, q1, e63, -, -, -⟩ := id zp
        obtain ⟨E1, k1, r1, e67, -, -, -⟩ := id ze
        obtain ⟨a1, b1, R1⟩ : ∃ a b, RD a b mB w1 := hI
        rw [HR.out.1] at R1
        clear hF hS hS1 hD1 hDb hDS hDx hDp hDe
        unfold xcells at za e59
        dsimp only
        rw [e59, e63, e67]
        rw [e63] at zp
        rw [e67] at ze
        clear e59 e63 e67
        have hB1 := R1.cur
        go_wp2_with (first | (refine wpl_store_blk hB1 33 2 4 [.int .i64 y0, .int .i64 y1, .string y2, .slice Y3 y4 y5] (by kernel_rfl) rfl (by simp) (xcells_one y0 y1 y2 Y3 y4 y5) rfl rfl rfl rfl ?_; intro w2 hB2 hg2; have R2 := R1.put hB2 hg2; have za2 := za.puts R1.gl R1.g1 hg2; have zp2 := zp.puts R1.gl R1.g1 hg2; have ze2 := ze.puts R1.gl R1.g1 hg2; simp only [List.take_succ_cons, List.take_zero, List.drop_succ_cons, List.drop_zero, List.cons_append, List.nil_append, List.set_cons_zero, List.set_cons_succ, Nat.reduceAdd] at R2; clear hB1 za zp ze hB2 hg2 R1; have hB2' := R2.cur) | (refine wpl_set_blk hB2' 10 (.slice D1 l1 q1) (by kernel_rfl) (by simp) rfl rfl rfl rfl rfl rfl ?_; intro w3 hB3 hg3; have R3 := R2.put hB3 hg3; have za3 := za2.puts R2.gl R2.g1 hg3; have zp3 := zp2.puts R2.gl R2.g1 hg3; have ze3 := ze2.puts R2.gl R2.g1 hg3; simp only [List.take_succ_cons, List.take_zero, List.drop_succ_cons, List.drop_zero, List.cons_append, List.nil_append, List.set_cons_zero, List.set_cons_succ, Nat.reduceAdd] at R3; clear hB2' za2 zp2 ze2 hB3 hg3 R2; have hB3' := R3.cur) | (refine wpl_set_blk hB3' 11 (.slice E1 k1 r1) (by kernel_rfl) (by simp) rfl rfl rfl rfl rfl rfl ?_; intro w4 hB4 hg4; have R4 := R3.put hB4 hg4; have za4 := za3.puts R3.gl R3.g1 hg4; have zp4 := zp3.puts R3.gl R3.g1 hg4; have ze4 := ze3.puts R3.gl R3.g1 hg4; simp only [List.take_succ_cons, List.take_zero, List.drop_succ_cons, List.drop_zero, List.cons_append, List.nil_append, List.set_cons_zero, List.set_cons_succ, Nat.reduceAdd] at R4; clear hB3' za3 zp3 ze3 hB4 hg4 R3) | (refine wpl_get_blk (ty := 36) R4.cur (by kernel_rfl) (by kernel_rfl) rfl rfl rfl ?_) | (at_builtin; refine wp_push w4 _ _ w.heap.size _ _ _ _ _ Tryd.underlying22 info_stmt rfl (by decide) R4.row [.int .i64 6, .string ⟨#[]⟩, .int .i64 y0, .int .i64 y1, .string y2, .slice Y3 y4 y5, .int .i64 0, .int .i64 0, .string ⟨#[]⟩, .slice none 0 0, .slice D1 l1 q1, .slice E1 k1 r1] rfl (stone _ _ _ _ _ _ _ _ _ _ _ _ _ _ _ _ _ _ _ _) n63 n47 R4.to.kp.size rfl rfl rfl rfl ?_; intro v7 w9 hown7 hg7 hv7 hb7) | fail)
        have hmm := HR.out.2
        obtain ⟨e1, e2, e3, e4⟩ := R4.finish rfl za4 XZS.none zp4 ze4 hown7 hg7 hv7 hb7
        have HE := Lib.hid (And.intro e1 (And.intro hown7 (And.intro e2 (And.intro e3 e4))))
        have HM := Lib.hid hmm
        clear e1 e2 e3 e4 hown7 hg7 hv7 hb7 R4 hmm
        try go_wp2_with fail
        go_roundw
        case rel =>
          obtain ⟨e1, e0, e2, e3, e4⟩ := HE.out
          obtain ⟨hmA, hmB, hmA', hmB'⟩ := HM.out
          refine ⟨k + 1, rest, _, _, _, _, more, mB, by omega, by go_num, by rw [show n - (k + 1) = n - k - 1 by omega]; exact HPR.out, e1, e0, e2, e3, e4, ?_, ?_, ?_, ?_, ?_⟩
          · rw [← HQ.out.1, St.P.append_assoc, St.P.cons_append, St.P.nil_append, hmB, hmA]
            simp [Sr.rn, Ex.ba]
          · rw [← HQ.out.2.1, hmB, hmA]
            simp [Sr.rn, List.append_assoc]
          · exact HQ.out.2.2.2.2.2.1.2.2
          · have := HQ.out.2.2.2.1
            rw [St.P.size] at this
            first | omega | (simp only [List.length_append, List.length_singleton]; omega)
          · have := HQ.out.2.2.2.2.1
            rw [St.P.size] at this
            omega
        case measure => simp [intOf]; omega
      · unfold stcells xcells at R0 hbA
        simp only [List.cons_append, List.nil_append] at R0 hbA
        have hIA := fun w' hb => (hIN w' hb).1
        have hIB := fun w' hb => (hIN w' hb).2.1
        have hPB := fun w' hb => (hIN w' hb).2.2.1
        have hPE := fun w' hb => (hIN w' hb).2.2.2
        clear hIN
        unfold xcells at hIA hIB
        go_wp2_with fail
        rw [← hQQ.out]
        generalize ((wr.alloc (.cells #[.int .i64 7, .string nm, .int .i64 ak, .int .i64 an, .string sa, .slice aA al ac, .int .i64 bk, .int .i64 bn, .string sb, .slice bA bl bc, .slice D dl dc, .slice E el ec] 36)).alloc (.cells #[.int .i64 7, .string ⟨#[]⟩, .int .i64 0, .int .i64 0, .string ⟨#[]⟩, .slice none 0 0, .int .i64 0, .int .i64 0, .string ⟨#[]⟩, .slice none 0 0, .slice none 0 0, .slice none 0 0] 36)) = W0 at R0 hbA ⊢
        clear c0 c1 c2 c3 c4 c5 c6 c7 c8 c9 c10 c11 hbA hlow
        have n63 : k + 1 ≤ maxLen := by unfold maxLen; omega
        have n47 : (k + 1) * 184 ≤ 140737488355328 := by omega
        obtain ⟨⟨Ax, cx, ex1, hcx⟩, -⟩ := R0.to.own.wr
        obtain ⟨lx, hlx⟩ : ∃ l, l = (en ++ more).length := ⟨_, rfl⟩
        have hx1 : x1 = .slice Ax lx cx := by rw [hlx]; exact ex1
        have HX1 := Lib.hid hx1
        have HLX := Lib.hid hlx
        clear ex1 hcx hlx hx1
        have keepS : ∀ w', Below W0.heap.size W0 w' → (Below W0.heap.size W0 w' ∧ w'.cell? ⟨Q, 2, none⟩ = some (.int .i64 ak) ∧ w'.cell? ⟨Q, 3, none⟩ = some (.int .i64 an) ∧ w'.cell? ⟨Q, 4, none⟩ = some (.string sa) ∧ w'.cell? ⟨Q, 5, none⟩ = some (.slice aA al ac) ∧ w'.cell? ⟨Q, 6, none⟩ = some (.int .i64 bk) ∧ w'.cell? ⟨Q, 7, none⟩ = some (.int .i64 bn) ∧ w'.cell? ⟨Q, 8, none⟩ = some (.string sb) ∧ w'.cell? ⟨Q, 9, none⟩ = some (.slice bA bl bc)) := fun w' hb => by
          have hq := R0.src.below hb
          exact ⟨hb, (hq.cell 2).trans rfl, (hq.cell 3).trans rfl, (hq.cell 4).trans rfl, (hq.cell 5).trans rfl, (hq.cell 6).trans rfl, (hq.cell 7).trans rfl, (hq.cell 8).trans rfl, (hq.cell 9).trans rfl⟩
        have gX : ∀ (w' : World) (cs : List Value) (e : Ex.X), Below W0.heap.size W0 w' → XR B w' cs e → Calls Tryd.prog 31 #[.pointer (some ⟨g, 0, none⟩), .agg cs.toArray] w' fun r w'' => ∃ v, r = .returned v ∧ (FNS (fun b => W0.heap.size ≤ b) (Sr.rnx (en ++ more) e)).holds v w'' ∧ Below w'.heap.size w' w'' := fun w' cs e hb hx => by
          have R' := R0.below hb
          refine (rnx_any e w' cs g x1 x2 (en ++ more) (hx.up R'.to.own.base) (RnI.of R'.to.own (by have := HQ.out; simp only [List.length_append, List.length_singleton]; omega))).mono ?_
          rintro r w'' ⟨cs', rfl, h1, h2⟩
          exact ⟨_, rfl, ⟨cs', rfl, h1.imp fun b _ hb2 => Nat.le_trans hb.size hb2⟩, h2⟩
        have gA := fun w' hb => gX w' _ ea hb (hIA w' (R0.below hb).low)
        have gB := fun w' hb => gX w' _ eb hb (hIB w' (R0.below hb).low)
        have hS0 := keepS _ (below_drew (Below.refl _ _))
        have HR0 := Lib.hid R0
        clear R0 gX
        refine wp_walk_tail 9 (by kernel_rfl) (by kernel_rfl) (fun w w' => Below w.heap.size w w') (fun w' => (Below W0.heap.size W0 w' ∧ w'.cell? ⟨Q, 2, none⟩ = some (.int .i64 ak) ∧ w'.cell? ⟨Q, 3, none⟩ = some (.int .i64 an) ∧ w'.cell? ⟨Q, 4, none⟩ = some (.string sa) ∧ w'.cell? ⟨Q, 5, none⟩ = some (.slice aA al ac) ∧ w'.cell? ⟨Q, 6, none⟩ = some (.int .i64 bk) ∧ w'.cell? ⟨Q, 7, none⟩ = some (.int .i64 bn) ∧ w'.cell? ⟨Q, 8, none⟩ = some (.string sb) ∧ w'.cell? ⟨Q, 9, none⟩ = some (.slice bA bl bc))) hS0 ?_
        simp only [List.length_cons, List.length_nil, Nat.reduceAdd, Nat.reduceSub, List.take_succ_cons, List.take_zero, List.drop_succ_cons, List.drop_zero]
        repeat (first | (refine settle_skip (fun _ => by rfl) ?_; (simp only [Act.put, List.setIfInBounds_toArray, List.set_cons_zero, List.set_cons_succ])) | (refine' settle_run (fun _ _ => Below.refl _ _) (fun _ => by rfl) ?_ ?_; rotate_left; (focus (intro ρ w hS hF; (try dsimp only at hS); go_split_ands; go_simp; try with_reducible rfl)); (simp only [Act.put, List.setIfInBounds_toArray, List.set_cons_zero, List.set_cons_succ])))
        (refine settle_known (FNS (fun b ↦ W0.heap.size ≤ b) (Sr.rnx (en ++ more) ea)) (by rfl) (fun _ => by rfl)  ?_ ?_; (focus (intro ρ w hS hF K hK; (simp only [Act.put, List.setIfInBounds_toArray, List.set_cons_zero, List.set_cons_succ] at hK); go_simp; (refine (gA _ hS.1).mono ?_; rintro e w' ⟨v, rfl, hF', hb'⟩; exact hK _ _ hF' (keepS _ (below_next hb' hS.1)) hb'))); (simp only [Act.put, List.setIfInBounds_toArray, List.set_cons_zero, List.set_cons_succ]))
        repeat (first | (refine settle_skip (fun _ => by rfl) ?_; (simp only [Act.put, List.setIfInBounds_toArray, List.set_cons_zero, List.set_cons_succ])) | (refine' settle_run (fun _ _ => Below.refl _ _) (fun _ => by rfl) ?_ ?_; rotate_left; (focus (intro ρ w hS hF; (try dsimp only at hS); go_split_ands; go_simp; try with_reducible rfl)); (simp only [Act.put, List.setIfInBounds_toArray, List.set_cons_zero, List.set_cons_succ])))
        (refine settle_known (FNS (fun b ↦ W0.heap.size ≤ b) (Sr.rnx (en ++ more) eb)) (by rfl) (fun _ => by rfl)  ?_ ?_; (focus (intro ρ w hS hF K hK; (simp only [Act.put, List.setIfInBounds_toArray, List.set_cons_zero, List.set_cons_succ] at hK); go_simp; (refine (gB _ hS.1).mono ?_; rintro e w' ⟨v, rfl, hF', hb'⟩; exact hK _ _ hF' (keepS _ (below_next hb' hS.1)) hb'))); (simp only [Act.put, List.setIfInBounds_toArray, List.set_cons_zero, List.set_cons_succ]))
        repeat (first | (refine settle_skip (fun _ => by rfl) ?_; (simp only [Act.put, List.setIfInBounds_toArray, List.set_cons_zero, List.set_cons_succ])) | (refine' settle_run (fun _ _ => Below.refl _ _) (fun _ => by rfl) ?_ ?_; rotate_left; (focus (intro ρ w hS hF; (try dsimp only at hS); go_split_ands; go_simp; try with_reducible rfl)); (simp only [Act.put, List.setIfInBounds_toArray, List.set_cons_zero, List.set_cons_succ])))
        refine settle_nil ?_
        intro ρ w1 hS hF
        obtain ⟨ca, e76, hxa⟩ := hF 76 (FNS (fun b => W0.heap.size ≤ b) (Sr.rnx (en ++ more) ea)) (by repeat (first | exact List.mem_cons_self | apply List.mem_cons_of_mem))
        obtain ⟨cb, e80, hxb⟩ := hF 80 (FNS (fun b => W0.heap.size ≤ b) (Sr.rnx (en ++ more) eb)) (by repeat (first | exact List.mem_cons_self | apply List.mem_cons_of_mem))
        have hb1 := hS.1
        have R1 := HR0.out.below hb1
        have za := HR0.out.fresh_x hb1 hxa
        have zb := HR0.out.fresh_x hb1 hxb
        obtain ⟨y0, y1, y2, Y3, y4, y5, rfl, -, -⟩ := XRN.form hxa
        obtain ⟨z0, z1, z2, Z3, z4, z5, rfl, -, -⟩ := XRN.form hxb
        clear hF hS hS0 keepS gA gB hxa hxb hb1 HR0
        unfold xcells at za zb e76 e80
        dsimp only
        rw [e76, e80]
        clear e76 e80
        have hB1 := R1.cur
        go_wp2_with (first | (refine wpl_store_blk hB1 33 2 4 [.int .i64 y0, .int .i64 y1, .string y2, .slice Y3 y4 y5] (by kernel_rfl) rfl (by simp) (xcells_one y0 y1 y2 Y3 y4 y5) rfl rfl rfl rfl ?_; intro w2 hB2 hg2; have R2 := R1.put hB2 hg2; have za2 := za.puts R1.gl R1.g1 hg2; have zb2 := zb.puts R1.gl R1.g1 hg2; simp only [List.take_succ_cons, List.take_zero, List.drop_succ_cons, List.drop_zero, List.cons_append, List.nil_append, List.set_cons_zero, List.set_cons_succ, Nat.reduceAdd] at R2; clear hB1 za zb hB2 hg2 R1; have hB2' := R2.cur) | (refine wpl_store_blk hB2' 33 6 4 [.int .i64 z0, .int .i64 z1, .string z2, .slice Z3 z4 z5] (by kernel_rfl) rfl (by simp) (xcells_one z0 z1 z2 Z3 z4 z5) rfl rfl rfl rfl ?_; intro w3 hB3 hg3; have R3 := R2.put hB3 hg3; have za3 := za2.puts R2.gl R2.g1 hg3; have zb3 := zb2.puts R2.gl R2.g1 hg3; simp only [List.take_succ_cons, List.take_zero, List.drop_succ_cons, List.drop_zero, List.cons_append, List.nil_append, List.set_cons_zero, List.set_cons_succ, Nat.reduceAdd] at R3; have s1 : w3.cell? ⟨Q, 1, none⟩ = some (.string nm) := (R3.src.cell 1).trans rfl; have d0 : w3.cell? ⟨g, 0, none⟩ = some (.slice Ax lx cx) := (by rw [← HX1.out]; exact (R3.to.own.blk.cell 0).trans rfl); clear hB2' za2 zb2 hB3 hg3 R2) | fail)
        refine (bind_any B _ g x1 x2 (en ++ more) m1 nm R3.to.own (R3.pow HO0.out.2) (by have := HQ.out; omega) (by have := HQ.out; simp only [List.length_append, List.length_singleton]; omega)).mono ?_
        rintro r w4 ⟨rfl, x3, x4, hT4⟩
        have R4 := R3.call hT4
        have za4 := za3.turn (Turn.of_rn R3.to.own hT4)
        have zb4 := zb3.turn (Turn.of_rn R3.to.own hT4)
        clear R3 za3 zb3 hT4 s1 d0
        have hB4 := R4.cur
        go_wp2_with (first | (refine wpl_set_blk hB4 1 (.string (Ex.ba (Sr.vn m1))) (by kernel_rfl) (by simp) rfl rfl rfl rfl rfl rfl ?_; intro w5 hB5 hg5; have R5 := R4.put hB5 hg5; have za5 := za4.puts R4.gl R4.g1 hg5; have zb5 := zb4.puts R4.gl R4.g1 hg5; simp only [List.take_succ_cons, List.take_zero, List.drop_succ_cons, List.drop_zero, List.cons_append, List.nil_append, List.set_cons_zero, List.set_cons_succ, Nat.reduceAdd] at R5; have s10 : w5.cell? ⟨Q, 10, none⟩ = some (.slice D dl dc) := (R5.src.cell 10).trans rfl; clear hB4 hB5 hg5 R4 za4 zb4) | fail)
        refine (rblock_any body (ih body (by have := HQ.out; omega)) w5 B dl dc g D x3 x4 (en ++ more ++ [(nm.data.toList, Sr.vn m1)]) (m1 + 1) (hPB w5 R5.low) hd1 hd2 R5.to.own (R5.pow HO0.out.2) (by have := HQ.out; simp only [List.length_append, List.length_singleton]; omega) (by have := HQ.out; have := Sr.rn_le body (en ++ more) m1; omega)).mono ?_
        rintro r w6 ⟨u, x5, x6, rfl, hT, hu⟩
        have R6 := R5.call hT
        have zp := R5.fresh_p hu
        obtain ⟨D1, l1, q1, rfl, -, -, -⟩ := id zp
        have za6 := za5.turn (Turn.of_rn R5.to.own hT)
        have zb6 := zb5.turn (Turn.of_rn R5.to.own hT)
        clear hT hu R5 za5 zb5 s10
        obtain ⟨⟨A5, c5, rfl, hc5⟩, ⟨C5, d5, rfl, hd5⟩⟩ := R6.to.own.wr
        obtain ⟨l5, hl5⟩ : ∃ l, l = (en ++ more ++ [(nm.data.toList, Sr.vn m1)]).length := ⟨_, rfl⟩
        have hl56 : lx ≤ l5 := by have h1 := HLX.out; have h2 := hl5; simp only [List.length_append, List.length_singleton] at h1 h2; omega
        have HL5 := Lib.hid hl5
        have hA5 : lx ≤ c5 := by rw [← hl5] at hc5; omega
        have hC5 : lx ≤ d5 := by rw [← hl5] at hd5; omega
        clear hc5 hd5 hl5 hl56
        have hB6 := R6.cur
        go_wp2_with (first | (refine wpl_set_blk hB6 10 (.slice D1 l1 q1) (by kernel_rfl) (by simp) rfl rfl rfl rfl rfl rfl ?_; intro w7 hB7 hg7; have R7 := R6.put hB7 hg7; have za7 := za6.puts R6.gl R6.g1 hg7; have zb7 := zb6.puts R6.gl R6.g1 hg7; have zp7 := zp.puts R6.gl R6.g1 hg7; simp only [List.take_succ_cons, List.take_zero, List.drop_succ_cons, List.drop_zero, List.cons_append, List.nil_append, List.set_cons_zero, List.set_cons_succ, Nat.reduceAdd] at R7; clear hB6 hB7 hg7 R6 za6 zb6 zp) | fail)
        obtain ⟨m7, hm7⟩ : ∃ m7, m7 = (Sr.rn Sr.vn body (en ++ more ++ [(nm.data.toList, Sr.vn m1)]) (m1 + 1)).2 := ⟨_, rfl⟩
        have hB7 : Blk w7 g 51 [.slice A5 l5 c5, .slice C5 l5 d5, .int .i64 ((m7 : Nat) : Int)] := by rw [HL5.out, hm7]; exact R7.to.own.blk
        have HM7 := Lib.hid hm7
        have HR7 := Lib.hid (And.intro R7 (And.intro za7 (And.intro zb7 zp7)))
        clear R7 za7 zb7 zp7 hm7
        have hB7d := hB7.below (below_drew (Below.refl _ w7))
        refine wp_walk_pr 17 (fun i => ([16] : List Nat).contains i) (fun i => ([1, 12, 13] : List Nat).contains i) [16] (by intro m h; simpa using h) (by kernel_rfl) (by kernel_rfl) (by kernel_rfl) [] (by kernel_rfl) 9998 9999 (fun _ _ => True) (by kernel_rfl) (fun w w' => Below w.heap.size w w') (fun _ _ => True) (fun _ _ _ => trivial) (fun w => w7.grownBy w (some g))
          (fun c ρ w => match c with | 0 => Blk w g 51 [.slice A5 l5 c5, .slice C5 l5 d5, .int .i64 ((m7 : Nat) : Int)] | _ + 1 => Blk w g 51 [.slice A5 lx c5, .slice C5 l5 d5, .int .i64 ((m7 : Nat) : Int)]) (grown_of_below (below_drew (Below.refl _ _)) (some g)) (fun _ => hB7d) (fun c ρ w w' h hx => by cases c with | zero => exact Blk.below h hx | succ c => exact Blk.below h hx) (fun _ _ _ h => h) (fun c ρ ρ' w hL h => by cases c with | zero => exact h | succ c => exact h) ?_
        simp only [List.length_cons, List.length_nil, Nat.reduceAdd, Nat.reduceSub, List.take_succ_cons, List.take_zero, List.drop_succ_cons, List.drop_zero]
        repeat (first | (refine qsettle_skip (by rfl) (fun _ => by rfl) ?_; (simp only [Act.put, List.setIfInBounds_toArray, List.set_cons_zero, List.set_cons_succ])) | (refine' qsettle_run (by rfl) (fun _ _ => Below.refl _ _) (fun _ => by rfl) ?_ ?_; rotate_left; (focus (intro ρ w hS hF hP; go_simp; try with_reducible rfl)); (simp only [Act.put, List.setIfInBounds_toArray, List.set_cons_zero, List.set_cons_succ])) | (refine' qsettle_run (by rfl) (fun _ _ => Below.refl _ _) (fun _ => by rfl) ?_ ?_; rotate_left; (focus (intro ρ w hS hF hP; have hI : Blk w g 51 [.slice A5 l5 c5, .slice C5 l5 d5, .int .i64 ((m7 : Nat) : Int)] := hP (by rfl); have d0 : w.cell? ⟨g, 0, none⟩ = some (.slice A5 l5 c5) := (hI.cell 0).trans rfl; have d1 : w.cell? ⟨g, 1, none⟩ = some (.slice C5 l5 d5) := (hI.cell 1).trans rfl; clear hI hP; go_simp; try with_reducible rfl)); (simp only [Act.put, List.setIfInBounds_toArray, List.set_cons_zero, List.set_cons_succ])))
        (refine qsettle_turn (v := undef) (by rfl) (fun _ => by rfl) ?_ ?_; (focus (intro ρ w hS hF hP K hK; (simp only [Act.put, List.setIfInBounds_toArray, List.set_cons_zero, List.set_cons_succ] at hK); have hI : Blk w g 51 [.slice A5 l5 c5, .slice C5 l5 d5, .int .i64 ((m7 : Nat) : Int)] := hP (by rfl); refine oper_set hI 0 (.slice A5 lx c5) (by kernel_rfl) (by simp) rfl rfl (.tmp 113) (.tmp 105) rfl rfl rfl ?_; intro w' hB hg; exact hK w' (grown_trans hS hg) hB trivial)); (simp only [Act.put, List.setIfInBounds_toArray, List.set_cons_zero, List.set_cons_succ]))
        refine qsettle_nil ?_
        intro ρ wS hS hI hF _
        have hI : Blk wS g 51 [.slice A5 lx c5, .slice C5 l5 d5, .int .i64 ((m7 : Nat) : Int)] := hI
        clear hF
        dsimp only
        go_wp2_with (first | (refine wpl_set_blk hI 1 (.slice C5 lx d5) (by kernel_rfl) (by simp) rfl rfl rfl rfl rfl rfl ?_; intro w8 b8 hg8; have g8 := grown_trans hS hg8; obtain ⟨R7, za7, zb7, zp7⟩ := HR7.out; simp only [List.set_cons_succ, List.set_cons_zero] at b8; rw [HM7.out] at b8; have hcut := Own.cut (more := [(nm.data.toList, Sr.vn m1)]) R7.to.own HLX.out b8 g8; have R8 := R7.call hcut; have za8 := za7.turn (Turn.of_rn R7.to.own hcut); have zb8 := zb7.turn (Turn.of_rn R7.to.own hcut); have zp8 := zp7.turn (Turn.of_rn R7.to.own hcut); clear R7 za7 zb7 zp7 hcut b8 g8 hB7 hB7d HR7 hI hS hg8) | (refine wpl_get_blk (ty := 36) R8.cur (by kernel_rfl) (by kernel_rfl) rfl rfl rfl ?_) | (at_builtin; refine wp_push w8 _ _ w.heap.size _ _ _ _ _ Tryd.underlying22 info_stmt rfl (by decide) R8.row [.int .i64 7, .string (Ex.ba (Sr.vn m1)), .int .i64 y0, .int .i64 y1, .string y2, .slice Y3 y4 y5, .int .i64 z0, .int .i64 z1, .string z2, .slice Z3 z4 z5, .slice D1 l1 q1, .slice none 0 0] rfl (stone _ _ _ _ _ _ _ _ _ _ _ _ _ _ _ _ _ _ _ _) n63 n47 R8.to.kp.size rfl rfl rfl rfl ?_; intro v7 w9 hown7 hg7 hv7 hb7) | fail)
        obtain ⟨e1, e2, e3, e4⟩ := R8.finish rfl za8 zb8 zp8 ZP.nil hown7 hg7 hv7 hb7
        have HE := Lib.hid (And.intro e1 (And.intro hown7 (And.intro e2 (And.intro e3 e4))))
        clear e1 e2 e3 e4 hown7 hg7 hv7 hb7 R8 za8 zb8 zp8
        try go_wp2_with fail
        go_roundw
        case rel =>
          obtain ⟨e1, e0, e2, e3, e4⟩ := HE.out
          refine ⟨k + 1, rest, _, _, _, _, more, (Sr.rn Sr.vn body (en ++ more ++ [(nm.data.toList, Sr.vn m1)]) (m1 + 1)).2, by omega, by go_num, by rw [show n - (k + 1) = n - k - 1 by omega]; exact HPR.out, e1, e0, e2, e3, e4, ?_, ?_, ?_, ?_, ?_⟩
          · rw [← HQ.out.1, St.P.append_assoc, St.P.cons_append, St.P.nil_append]
            simp [Sr.rn, Ex.ba]
          · rw [← HQ.out.2.1]
            simp [Sr.rn, List.append_assoc]
          · exact HQ.out.2.2.2.2.2.1.2.2
          · have := HQ.out.2.2.2.1
            rw [St.P.size] at this
            first | omega | (simp only [List.length_append, List.length_singleton]; omega)
          · have := HQ.out.2.2.2.2.1
            rw [St.P.size] at this
            have := Sr.rn_le body (en ++ more ++ [(nm.data.toList, Sr.vn m1)]) (m1 + 1)
            omega
        case measure => simp [intOf]; omega
      · have K := Lib.hid (show kd ≠ 1 ∧ kd ≠ 2 ∧ kd ≠ 3 ∧ kd ≠ 4 ∧ kd ≠ 5 ∧ kd ≠ 6 ∧ kd ≠ 7 by simp at k1 k2 k3 k4 k5 k6 k7; omega)
        have n63 : k + 1 ≤ maxLen := by unfold maxLen; omega
        have n47 : (k + 1) * 184 ≤ 140737488355328 := by omega
        unfold stcells xcells at R0 hbA
        simp only [List.cons_append, List.nil_append] at R0 hbA
        have hIA := fun w' hb => (hIN w' hb).1
        have hIB := fun w' hb => (hIN w' hb).2.1
        have hPB := fun w' hb => (hIN w' hb).2.2.1
        have hPE := fun w' hb => (hIN w' hb).2.2.2
        clear hIN
        unfold xcells at hIA hIB
        go_upto_region 24 with (fail)
        rw [← hQQ.out]
        generalize ((wr.alloc (.cells #[.int .i64 kd, .string nm, .int .i64 ak, .int .i64 an, .string sa, .slice aA al ac, .int .i64 bk, .int .i64 bn, .string sb, .slice bA bl bc, .slice D dl dc, .slice E el ec] 36)).alloc (.cells #[.int .i64 kd, .string ⟨#[]⟩, .int .i64 0, .int .i64 0, .string ⟨#[]⟩, .slice none 0 0, .int .i64 0, .int .i64 0, .string ⟨#[]⟩, .slice none 0 0, .slice none 0 0, .slice none 0 0] 36)) = W0 at R0 hbA ⊢
        clear c0 c1 c2 c3 c4 c5 c6 c7 c8 c9 c10 c11 hbA hlow
        clear k1 k2 k3 k4 k5 k6 k7
        go_wp2_with (first | (refine wpl_get_blk (ty := 36) R0.cur (by kernel_rfl) (by kernel_rfl) rfl rfl rfl ?_) | (at_builtin; refine wp_push W0 _ _ w.heap.size _ _ _ _ _ Tryd.underlying22 info_stmt rfl (by decide) R0.row [.int .i64 kd, .string ⟨#[]⟩, .int .i64 0, .int .i64 0, .string ⟨#[]⟩, .slice none 0 0, .int .i64 0, .int .i64 0, .string ⟨#[]⟩, .slice none 0 0, .slice none 0 0, .slice none 0 0] rfl (stone _ _ _ _ _ _ _ _ _ _ _ _ _ _ _ _ _ _ _ _) n63 n47 R0.to.kp.size rfl rfl rfl rfl ?_; intro v7 w9 hown7 hg7 hv7 hb7) | fail)
        obtain ⟨e1, e2, e3, e4⟩ := R0.finish rfl XZS.none XZS.none ZP.nil ZP.nil hown7 hg7 hv7 hb7
        have HE := Lib.hid (And.intro e1 (And.intro hown7 (And.intro e2 (And.intro e3 e4))))
        clear e1 e2 e3 e4 hown7 hg7 hv7 hb7 R0
        try go_wp2_with fail
        go_roundw
        case rel =>
          obtain ⟨e1, e0, e2, e3, e4⟩ := HE.out
          refine ⟨k + 1, rest, _, _, _, _, more, m1, by omega, by go_num, by rw [show n - (k + 1) = n - k - 1 by omega]; exact HPR.out, e1, e0, e2, e3, e4, ?_, ?_, ?_, ?_, ?_⟩
          · rw [← HQ.out.1, St.P.append_assoc, St.P.cons_append, St.P.nil_append]
            simp [Sr.rn, Ex.ba, K.out.1, K.out.2.1, K.out.2.2.1, K.out.2.2.2.1, K.out.2.2.2.2.1, K.out.2.2.2.2.2.1, K.out.2.2.2.2.2.2]
          · rw [← HQ.out.2.1]
            simp [Sr.rn, List.append_assoc, K.out.1, K.out.2.1, K.out.2.2.1, K.out.2.2.2.1, K.out.2.2.2.2.1, K.out.2.2.2.2.2.1, K.out.2.2.2.2.2.2]
          · exact HQ.out.2.2.2.2.2.1.2.2
          · have := HQ.out.2.2.2.1
            rw [St.P.size] at this
            first | omega | (simp only [List.length_append, List.length_singleton]; omega)
          · have := HQ.out.2.2.2.2.1
            rw [St.P.size] at this
            omega
        case measure => simp [intOf]; omega
    · have HK := Lib.hid (show k = n by omega)
      go_wp2
      go_ret
      rw [HK.out, Nat.sub_self] at hq0
      have hq' := hq0.zero
      subst hq'
      refine ⟨_, x1, x2, more, rfl, by rw [← hm2]; exact hT, by omega, ?_⟩
      rw [← hres, Sr.rn, St.P.append_nil]
      refine (ZP.of_own hdone hrow).imp fun b _ hb => ?_
      rcases hb with hb | hb
      · exact hb.1
      · exact ⟨(hrow.lt b hb.symm).1, hfar b hb.symm⟩
end Go.Proofs.YtdhjfckckghicaaDoor


namespace Go.Proofs.YtdhjfckckghicaaDoor
set_option linter.unusedVariables false
set_option linter.unusedSimpArgs false
set_option maxRecDepth 100000
open Go.RowKit

theorem rstmts_any (p : St.P) : RStOK p := by
  suffices h : ∀ n, ∀ q : St.P, q.size ≤ n → RStOK q from h _ p (Nat.le_refl _)
  intro n
  induction n with
  | zero => exact fun q hq => rstmts_step q fun r hr => by omega
  | succ n ih => exact fun q hq => rstmts_step q fun r hr => ih r (by omega)

theorem Pow.up {B B' : Nat} {w : World} (h : Pow B w) (hB : B ≤ B') : Pow B' w := fun w2 h2 => h w2 (h2.mono hB)

/-- **scope.Rename** -/
theorem rename_any (p : St.P) (w : World) (B n c : Nat) (A : Option Addr) (hB : B ≤ w.heap.size) (hp : PR B w A n p) (hnc : n ≤ c) (hc : c ≤ maxLen) (hP : Pow B w) (hsz : p.size ≤ 549755813888) :
    Calls Tryd.prog 9 #[.slice A n c] w fun e w' => ∃ v, e = .returned v ∧ IsZ w' v (Sr.rename Sr.vn p) ∧ Below w.heap.size w w' := by
  have hb0 : Below w.heap.size w (w.alloc (.cells #[.slice none 0 0, .slice none 0 0, .int .i64 0] 51)) := below_alloc (Below.refl _ _) _
  have hO : RnO w.heap.size (w.alloc (.cells #[.slice none 0 0, .slice none 0 0, .int .i64 0] 51)) w.heap.size (.slice none 0 0) (.slice none 0 0) [] 0 := by
    refine ⟨Blk.new w 51 [.slice none 0 0, .slice none 0 0, .int .i64 0], fun r hr => ?_, fun i j r s hr hs hij k hk => ?_, fun r hr => ?_, by simp, Nat.le_refl _⟩
    · simp [strRw, Sr.olds, Sr.nows] at hr
      subst hr
      exact World.ownsRow_nil _ _ _ _
    · match i, hr with
      | 0, hr => injection hr with hr; subst hr; cases hk
      | 1, hr => injection hr with hr; subst hr; cases hk
    · simp [strRw, Sr.olds, Sr.nows] at hr
      subst hr
      simp [Value.ownBlock]
  have hs := rstmts_any p _ w.heap.size n c w.heap.size A (.slice none 0 0) (.slice none 0 0) [] 0 ((hp.later (hb0.mono hB)).up hB) hnc hc hO ((hP.later (hb0.mono hB)).up hB) (by simpa using hsz) (by simpa using hsz)
  clear hO hp
  go_enter Tryd.func9, Tryd.ntmps9
  go_wp2_with fail
  refine hs.mono ?_
  rintro e w1 ⟨u, uo1, un1, more, rfl, hT, -, hu⟩
  have hb : Below w.heap.size w w1 := hb0.trans (hT.kp.below (by simp) (fun i hi => hi.elim (fun e => by omega) (fun ⟨r, hr, e⟩ => by simp [strRw, Sr.olds, Sr.nows] at hr; subst hr; cases e)))
  have hz := hu.is
  obtain ⟨V, m, cV, rfl, -, -, -⟩ := id hz
  have HR := Lib.hid (And.intro hz hb)
  clear hs hT hz hb hb0 hu
  go_wp2
  go_ret
  exact ⟨_, rfl, HR.out⟩
end Go.Proofs.YtdhjfckckghicaaDoor


namespace Go.Proofs.YtdhjfckckghicaaDoor
set_option linter.unusedVariables false
set_option linter.unusedSimpArgs false
set_option maxRecDepth 100000
open Go.RowKit

theorem equal_strs (v v' : Value) (xs ys : List ByteArray) (w : World) (h : SlV w 1 v xs.length (strs xs)) (h' : SlV w 1 v' ys.length (strs ys)) :
    Calls Tryd.prog 12 #[v, v'] w fun e w' => e = .returned (.bool (decide (xs = ys))) ∧ ∃ m, w' = w.drewN m := by
  obtain ⟨A, c, rfl, hle, hm, hlen, hc⟩ := h
  obtain ⟨A', c', rfl, hle', hm', hlen', hc'⟩ := h'
  clear hlen hlen'
  unfold maxLen at hm hm'
  by_cases hn : xs.length = ys.length
  · have hne : ((xs.length : Int) != ys.length) = false := by simp [hn]
    have HN := Lib.hid hn
    clear hn
    go_enter Tryd.func12, Tryd.ntmps12
    go_wp2
    go_loopw [13] (fun i wr => ∃ k : Nat, k ≤ xs.length ∧ i = .int .i64 k ∧ (∃ a, wr = w.drewN a) ∧ xs.take k = ys.take k) (fun i _ => xs.length - (intOf i).toNat)
    case atStart => exact ⟨0, Nat.zero_le _, rfl, ⟨0, rfl⟩, rfl⟩
    case round =>
      obtain ⟨k, hk, rfl, ⟨a, rfl⟩, ht⟩ := hrel
      have HT := Lib.hid ht
      clear ht
      by_cases hlt : k < xs.length
      · have hlt' : k < ys.length := by rw [← HN.out]; exact hlt
        obtain ⟨x, hx⟩ : ∃ x, xs[k]? = some x := ⟨_, List.getElem?_eq_getElem hlt⟩
        obtain ⟨y, hy⟩ : ∃ y, ys[k]? = some y := ⟨_, List.getElem?_eq_getElem hlt'⟩
        obtain ⟨b, o, rfl, hb, hcc⟩ := hc.str hx
        obtain ⟨b', o', rfl, hb', hcc'⟩ := hc'.str hy
        have HX := Lib.hid hx
        have HY := Lib.hid hy
        clear hc hc' hx hy
        rcases hg : (x.toList == y.toList) with _ | _
        · go_wp2
          go_quiet (fail)
          go_wp2
          go_ret
          refine ⟨ret_bool ?_, ⟨_, World.drewN_drewN _ _ _⟩⟩
          symm
          simp only [decide_eq_false_iff_not]
          rintro rfl
          have := HX.out
          rw [HY.out] at this
          injection this with this
          subst this
          simp at hg
        · go_wp2
          go_quiet (fail)
          go_wp2
          go_roundw
          case rel => exact ⟨k + 1, by omega, by go_num, ⟨_, rfl⟩, Ex.snoc_eq HX.out HY.out HT.out (Ex.bytes_eq hg)⟩
          case measure => simp [intOf]; omega
      · have HK := Lib.hid (show k = xs.length by omega)
        clear hc hc'
        go_wp2
        go_ret
        refine ⟨ret_bool ?_, ⟨_, rfl⟩⟩
        symm
        simp only [decide_eq_true_eq]
        have := HT.out
        rw [HK.out, List.take_length, HN.out, List.take_length] at this
        exact this
  · have hne : ((xs.length : Int) != ys.length) = true := by simp; omega
    have hnl : xs ≠ ys := fun e => hn (by rw [e])
    have HNL := Lib.hid hnl
    clear hnl hc hc'
    go_enter Tryd.func12, Tryd.ntmps12
    go_wp2
    go_ret
    exact ⟨ret_bool (by simp [HNL.out]), ⟨0, rfl⟩⟩
end Go.Proofs.YtdhjfckckghicaaDoor


namespace Go.Proofs.YtdhjfckckghicaaDoor
set_option linter.unusedVariables false
set_option linter.unusedSimpArgs false
set_option maxRecDepth 100000
open Go.RowKit

theorem same_ne (w : World) (k n k' n' : Int) (s s' : ByteArray) (A A' : Option Addr) (len cap len' cap' : Nat) (hle : len ≤ cap) (hm : cap ≤ maxLen) (hle' : len' ≤ cap') (hm' : cap' ≤ maxLen)
    (hne : (k == k' && (n == n' && (s.toList == s'.toList && (len == len')))) = false) :
    Calls Tryd.prog 36 #[.agg (xcells k n s A len cap).toArray, .agg (xcells k' n' s' A' len' cap').toArray] w fun r w' => r = .returned (.bool false) ∧ Below w.heap.size w w' := by
  unfold xcells
  unfold maxLen at hm hm'
  rcases h1 : (k == k') with _ | _
  · have h1' : (k != k') = true := by simp [bne, h1]
    clear hne h1
    go_enter Tryd.func36, Tryd.ntmps36
    go_wp2
    go_ret
    exact ⟨rfl, below_alloc (below_alloc (Below.refl _ _) _) _⟩
  obtain rfl : k = k' := by simpa using h1
  clear h1
  rcases h2 : (n == n') with _ | _
  · have h2' : (n != n') = true := by simp [bne, h2]
    clear hne h2
    go_enter Tryd.func36, Tryd.ntmps36
    go_wp2
    go_ret
    exact ⟨rfl, below_alloc (below_alloc (Below.refl _ _) _) _⟩
  obtain rfl : n = n' := by simpa using h2
  clear h2
  rcases h3 : (s.toList == s'.toList) with _ | _
  · clear hne
    go_enter Tryd.func36, Tryd.ntmps36
    go_wp2
    go_ret
    exact ⟨rfl, below_alloc (below_alloc (Below.refl _ _) _) _⟩
  obtain rfl : s = s' := Ex.bytes_eq h3
  clear h3
  have h4 : ((len : Int) == (len' : Int)) = false := by
    simp at hne ⊢
    omega
  have h4' : ((len : Int) != (len' : Int)) = true := by simp at h4 ⊢; omega
  clear hne h4
  go_enter Tryd.func36, Tryd.ntmps36
  go_wp2
  go_ret
  exact ⟨rfl, below_alloc (below_alloc (Below.refl _ _) _) _⟩

theorem same_leaf (w : World) (k n : Int) (s : ByteArray) (A A' : Option Addr) (cap cap' : Nat) (hm : cap ≤ maxLen) (hm' : cap' ≤ maxLen) :
    Calls Tryd.prog 36 #[.agg (xcells k n s A 0 cap).toArray, .agg (xcells k n s A' 0 cap').toArray] w fun r w' => r = .returned (.bool true) ∧ Below w.heap.size w w' := by
  unfold xcells
  unfold maxLen at hm hm'
  have hr : (s.toList == s.toList) = true := by simp
  go_enter Tryd.func36, Tryd.ntmps36
  go_wp2
  go_loopw [37] (fun i wr => i = .int .i64 0 ∧ Below w.heap.size w wr) (fun i _ => 0)
  case atStart => exact ⟨rfl, below_alloc (below_alloc (Below.refl _ _) _) _⟩
  case round =>
    obtain ⟨rfl, hb⟩ := hrel
    go_wp2
    go_ret
    exact ⟨rfl, hb⟩
end Go.Proofs.YtdhjfckckghicaaDoor


namespace Go.Proofs.YtdhjfckckghicaaDoor
set_option linter.unusedVariables false
set_option linter.unusedSimpArgs false
set_option maxRecDepth 100000
open Go.RowKit

def SameOK (e : Ex.X) : Prop := ∀ (f : Ex.X) (b : Bool), (b = true ↔ e = f) → ∀ (w : World) (ca cb : List Value), XN w.heap.size w ca e → XN w.heap.size w cb f →
    Calls Tryd.prog 36 #[.agg ca.toArray, .agg cb.toArray] w fun r w' => r = .returned (.bool b) ∧ Below w.heap.size w w'

set_option maxHeartbeats 2000000 in
theorem same_two (w : World) (k : Int) (g o cap g' o' cap' : Nat) (cs0 cs1 ds0 ds1 : List Value) (e0 e1 f0 f1 : Ex.X) (hle : 2 ≤ cap) (hm : cap ≤ maxLen) (hle' : 2 ≤ cap') (hm' : cap' ≤ maxLen)
    (hg : g < w.heap.size) (hg' : g' < w.heap.size) (h0 : ∀ j u, cs0[j]? = some u → w.cell? ⟨g, o + j, none⟩ = some u) (h1 : ∀ j u, cs1[j]? = some u → w.cell? ⟨g, o + 4 + j, none⟩ = some u)
    (h0' : ∀ j u, ds0[j]? = some u → w.cell? ⟨g', o' + j, none⟩ = some u) (h1' : ∀ j u, ds1[j]? = some u → w.cell? ⟨g', o' + 4 + j, none⟩ = some u)
    (x0 : XN w.heap.size w cs0 e0) (x1 : XN w.heap.size w cs1 e1) (y0 : XN w.heap.size w ds0 f0) (y1 : XN w.heap.size w ds1 f1) (ih0 : SameOK e0) (ih1 : SameOK e1) (p q : Bool) (hp : p = true ↔ e0 = f0) (hq : q = true ↔ e1 = f1) :
    Calls Tryd.prog 36 #[.agg (xcells k 0 ⟨#[]⟩ (some ⟨g, o, none⟩) 2 cap).toArray, .agg (xcells k 0 ⟨#[]⟩ (some ⟨g', o', none⟩) 2 cap').toArray] w fun r w' => r = .returned (.bool (p && q)) ∧ Below w.heap.size w w' := by
  have gE0 : ∀ w', Below w.heap.size w w' → Calls Tryd.prog 36 #[.agg cs0.toArray, .agg ds0.toArray] w' fun r w'' => r = .returned (.bool p) ∧ Below w'.heap.size w' w'' := fun w' hb => ih0 f0 p hp w' _ _ ((x0.later hb).up hb.size) ((y0.later hb).up hb.size)
  have gE1 : ∀ w', Below w.heap.size w w' → Calls Tryd.prog 36 #[.agg cs1.toArray, .agg ds1.toArray] w' fun r w'' => r = .returned (.bool q) ∧ Below w'.heap.size w' w'' := fun w' hb => ih1 f1 q hq w' _ _ ((x1.later hb).up hb.size) ((y1.later hb).up hb.size)
  have hW : ∃ W0, W0 = ((w.alloc (.cells (xcells k 0 ⟨#[]⟩ (some ⟨g, o, none⟩) 2 cap).toArray 33)).alloc (.cells (xcells k 0 ⟨#[]⟩ (some ⟨g', o', none⟩) 2 cap').toArray 33)) := ⟨_, rfl⟩
  obtain ⟨P0, P1, hz, hbw⟩ := allocs2 w (xcells k 0 ⟨#[]⟩ (some ⟨g, o, none⟩) 2 cap) (xcells k 0 ⟨#[]⟩ (some ⟨g', o', none⟩) 2 cap') 33 33
  obtain ⟨W0, hW0⟩ := hW
  rw [← hW0] at P0 P1 hz hbw
  have HW := Lib.hid hW0
  clear hW0
  obtain ⟨a0, a1, a2, A3, a4, a5, rfl, -, -⟩ := x0.form
  obtain ⟨b0, b1, b2, B3, b4, b5, rfl, -, -⟩ := x1.form
  obtain ⟨c0, c1, c2, C3, c4, c5, rfl, -, -⟩ := y0.form
  obtain ⟨d0, d1, d2, D3, d4, d5, rfl, -, -⟩ := y1.form
  clear x0 x1 y0 y1 ih0 ih1 hp hq
  have n0 : ∀ {p : Addr} {u : Value} {w' : World}, Below w.heap.size w w' → p.block < w.heap.size → w.cell? p = some u → w'.cell? p = some u := fun hb hl h => (hb.cell hl).trans h
  have keepS : ∀ w', Below W0.heap.size W0 w' → (Below W0.heap.size W0 w' ∧ w'.cell? ⟨w.heap.size, 3, none⟩ = some (.slice (some ⟨g, o, none⟩) 2 cap) ∧ w'.cell? ⟨w.heap.size + 1, 3, none⟩ = some (.slice (some ⟨g', o', none⟩) 2 cap') ∧ w'.cell? ⟨g, o, none⟩ = some (.int .i64 a0) ∧ w'.cell? ⟨g, o + 1, none⟩ = some (.int .i64 a1) ∧ w'.cell? ⟨g, o + 2, none⟩ = some (.string a2) ∧ w'.cell? ⟨g, o + 3, none⟩ = some (.slice A3 a4 a5) ∧ w'.cell? ⟨g, o + 4, none⟩ = some (.int .i64 b0) ∧ w'.cell? ⟨g, o + 5, none⟩ = some (.int .i64 b1) ∧ w'.cell? ⟨g, o + 6, none⟩ = some (.string b2) ∧ w'.cell? ⟨g, o + 7, none⟩ = some (.slice B3 b4 b5) ∧ w'.cell? ⟨g', o', none⟩ = some (.int .i64 c0) ∧ w'.cell? ⟨g', o' + 1, none⟩ = some (.int .i64 c1) ∧ w'.cell? ⟨g', o' + 2, none⟩ = some (.string c2) ∧ w'.cell? ⟨g', o' + 3, none⟩ = some (.slice C3 c4 c5) ∧ w'.cell? ⟨g', o' + 4, none⟩ = some (.int .i64 d0) ∧ w'.cell? ⟨g', o' + 5, none⟩ = some (.int .i64 d1) ∧ w'.cell? ⟨g', o' + 6, none⟩ = some (.string d2) ∧ w'.cell? ⟨g', o' + 7, none⟩ = some (.slice D3 d4 d5)) := fun w' hb =>
    ⟨hb, ((P0.below hb).cell 3).trans rfl, ((P1.below hb).cell 3).trans rfl, n0 (below_next hb hbw) hg (h0 0 _ rfl), n0 (below_next hb hbw) hg (h0 1 _ rfl), n0 (below_next hb hbw) hg (h0 2 _ rfl), n0 (below_next hb hbw) hg (h0 3 _ rfl), n0 (below_next hb hbw) hg (h1 0 _ rfl), n0 (below_next hb hbw) hg (h1 1 _ rfl), n0 (below_next hb hbw) hg (h1 2 _ rfl), n0 (below_next hb hbw) hg (h1 3 _ rfl), n0 (below_next hb hbw) hg' (h0' 0 _ rfl), n0 (below_next hb hbw) hg' (h0' 1 _ rfl), n0 (below_next hb hbw) hg' (h0' 2 _ rfl), n0 (below_next hb hbw) hg' (h0' 3 _ rfl), n0 (below_next hb hbw) hg' (h1' 0 _ rfl), n0 (below_next hb hbw) hg' (h1' 1 _ rfl), n0 (below_next hb hbw) hg' (h1' 2 _ rfl), n0 (below_next hb hbw) hg' (h1' 3 _ rfl)⟩
  clear h0 h1 h0' h1' n0 P0 P1 hz
  unfold maxLen at hm hm'
  unfold xcells at HW gE0 gE1 ⊢
  have HB := Lib.hid hbw
  have hr : ((⟨#[]⟩ : ByteArray).toList == (⟨#[]⟩ : ByteArray).toList) = true := by simp
  go_enter Tryd.func36, Tryd.ntmps36
  go_wp2
  go_loopw [37] (fun i wr => (i = .int .i64 0 ∨ (i = .int .i64 1 ∧ p = true) ∨ (i = .int .i64 2 ∧ p = true ∧ q = true)) ∧ Below W0.heap.size W0 wr) (fun i _ => 2 - (intOf i).toNat)
  case atStart => exact ⟨.inl rfl, by rw [HW.out]; exact Below.refl _ _⟩
  case round =>
    obtain ⟨rfl | ⟨rfl, rfl⟩ | ⟨rfl, rfl, rfl⟩, hbr⟩ := hrel
    · go_wp2
      have hS0 := keepS _ (below_drew hbr)
      refine wp_walk (by kernel_rfl) (by kernel_rfl) (fun _ _ => True) (fun w' => (Below W0.heap.size W0 w' ∧ w'.cell? ⟨w.heap.size, 3, none⟩ = some (.slice (some ⟨g, o, none⟩) 2 cap) ∧ w'.cell? ⟨w.heap.size + 1, 3, none⟩ = some (.slice (some ⟨g', o', none⟩) 2 cap') ∧ w'.cell? ⟨g, o, none⟩ = some (.int .i64 a0) ∧ w'.cell? ⟨g, o + 1, none⟩ = some (.int .i64 a1) ∧ w'.cell? ⟨g, o + 2, none⟩ = some (.string a2) ∧ w'.cell? ⟨g, o + 3, none⟩ = some (.slice A3 a4 a5) ∧ w'.cell? ⟨g, o + 4, none⟩ = some (.int .i64 b0) ∧ w'.cell? ⟨g, o + 5, none⟩ = some (.int .i64 b1) ∧ w'.cell? ⟨g, o + 6, none⟩ = some (.string b2) ∧ w'.cell? ⟨g, o + 7, none⟩ = some (.slice B3 b4 b5) ∧ w'.cell? ⟨g', o', none⟩ = some (.int .i64 c0) ∧ w'.cell? ⟨g', o' + 1, none⟩ = some (.int .i64 c1) ∧ w'.cell? ⟨g', o' + 2, none⟩ = some (.string c2) ∧ w'.cell? ⟨g', o' + 3, none⟩ = some (.slice C3 c4 c5) ∧ w'.cell? ⟨g', o' + 4, none⟩ = some (.int .i64 d0) ∧ w'.cell? ⟨g', o' + 5, none⟩ = some (.int .i64 d1) ∧ w'.cell? ⟨g', o' + 6, none⟩ = some (.string d2) ∧ w'.cell? ⟨g', o' + 7, none⟩ = some (.slice D3 d4 d5))) hS0 ?_
      repeat (first | (refine settle_skip (fun _ => by rfl) ?_; (simp only [Act.put, List.setIfInBounds_toArray, List.set_cons_zero, List.set_cons_succ])) | (refine' settle_run (fun _ _ => trivial) (fun _ => by rfl) ?_ ?_; rotate_left; (focus (intro ρ w hS hF; (try dsimp only at hS); go_split_ands; go_simp; try with_reducible rfl)); (simp only [Act.put, List.setIfInBounds_toArray, List.set_cons_zero, List.set_cons_succ])) | (refine' settle_step (fun _ => by rfl) ?_ ?_; rotate_left; (focus (intro ρ w hS hF K hK; (simp only [Act.put, List.setIfInBounds_toArray, List.set_cons_zero, List.set_cons_succ] at hK); go_simp; first | (go_at_call 36; refine (gE0 _ (below_next hS.1 hbw)).mono ?_; rintro e w6 ⟨rfl, hb6⟩; have hS' := keepS _ (below_next hb6 hS.1); have hE' := True.intro; exact hK _ hS' hE'))); (simp only [Act.put, List.setIfInBounds_toArray, List.set_cons_zero, List.set_cons_succ])))
      refine settle_nil ?_
      intro ρ w4 hS _
      have HS := Lib.hid hS.1
      clear keepS gE0 gE1 hS hS0
      rcases p with _ | _
      · go_wp2
        go_ret
        exact ⟨rfl, below_next HS.out HB.out⟩
      · go_wp2
        go_roundw
        case rel => exact ⟨.inr (.inl (by simp)), HS.out⟩
        case measure => simp [intOf]
    · go_wp2
      have hS0 := keepS _ (below_drew hbr)
      refine wp_walk (by kernel_rfl) (by kernel_rfl) (fun _ _ => True) (fun w' => (Below W0.heap.size W0 w' ∧ w'.cell? ⟨w.heap.size, 3, none⟩ = some (.slice (some ⟨g, o, none⟩) 2 cap) ∧ w'.cell? ⟨w.heap.size + 1, 3, none⟩ = some (.slice (some ⟨g', o', none⟩) 2 cap') ∧ w'.cell? ⟨g, o, none⟩ = some (.int .i64 a0) ∧ w'.cell? ⟨g, o + 1, none⟩ = some (.int .i64 a1) ∧ w'.cell? ⟨g, o + 2, none⟩ = some (.string a2) ∧ w'.cell? ⟨g, o + 3, none⟩ = some (.slice A3 a4 a5) ∧ w'.cell? ⟨g, o + 4, none⟩ = some (.int .i64 b0) ∧ w'.cell? ⟨g, o + 5, none⟩ = some (.int .i64 b1) ∧ w'.cell? ⟨g, o + 6, none⟩ = some (.string b2) ∧ w'.cell? ⟨g, o + 7, none⟩ = some (.slice B3 b4 b5) ∧ w'.cell? ⟨g', o', none⟩ = some (.int .i64 c0) ∧ w'.cell? ⟨g', o' + 1, none⟩ = some (.int .i64 c1) ∧ w'.cell? ⟨g', o' + 2, none⟩ = some (.string c2) ∧ w'.cell? ⟨g', o' + 3, none⟩ = some (.slice C3 c4 c5) ∧ w'.cell? ⟨g', o' + 4, none⟩ = some (.int .i64 d0) ∧ w'.cell? ⟨g', o' + 5, none⟩ = some (.int .i64 d1) ∧ w'.cell? ⟨g', o' + 6, none⟩ = some (.string d2) ∧ w'.cell? ⟨g', o' + 7, none⟩ = some (.slice D3 d4 d5))) hS0 ?_
      repeat (first | (refine settle_skip (fun _ => by rfl) ?_; (simp only [Act.put, List.setIfInBounds_toArray, List.set_cons_zero, List.set_cons_succ])) | (refine' settle_run (fun _ _ => trivial) (fun _ => by rfl) ?_ ?_; rotate_left; (focus (intro ρ w hS hF; (try dsimp only at hS); go_split_ands; go_simp; try with_reducible rfl)); (simp only [Act.put, List.setIfInBounds_toArray, List.set_cons_zero, List.set_cons_succ])) | (refine' settle_step (fun _ => by rfl) ?_ ?_; rotate_left; (focus (intro ρ w hS hF K hK; (simp only [Act.put, List.setIfInBounds_toArray, List.set_cons_zero, List.set_cons_succ] at hK); go_simp; first | (go_at_call 36; refine (gE1 _ (below_next hS.1 hbw)).mono ?_; rintro e w6 ⟨rfl, hb6⟩; have hS' := keepS _ (below_next hb6 hS.1); have hE' := True.intro; exact hK _ hS' hE'))); (simp only [Act.put, List.setIfInBounds_toArray, List.set_cons_zero, List.set_cons_succ])))
      refine settle_nil ?_
      intro ρ w4 hS _
      have HS := Lib.hid hS.1
      clear keepS gE0 gE1 hS hS0
      rcases q with _ | _
      · go_wp2
        go_ret
        exact ⟨rfl, below_next HS.out HB.out⟩
      · go_wp2
        go_roundw
        case rel => exact ⟨.inr (.inr (by simp)), HS.out⟩
        case measure => simp [intOf]
    · clear keepS gE0 gE1
      go_wp2
      go_ret
      exact ⟨rfl, below_next hbr HB.out⟩

namespace Ex
/-- what a node says itself -/
def head : X → Int × Int × ByteArray × Nat
  | .num n => (1, n, ⟨#[]⟩, 0)
  | .name s => (2, 0, ba s, 0)
  | .two k _ _ => (k, 0, ⟨#[]⟩, 2)
  | .bad => (0, 0, ⟨#[]⟩, 0)
end Ex
theorem XN.head {B : Nat} {w : World} {k n : Int} {s : ByteArray} {A : Option Addr} {len cap : Nat} {e : Ex.X} (h : XN B w (xcells k n s A len cap) e) : (k, n, s, len) = Ex.head e := by
  generalize hc : xcells k n s A len cap = cs at h
  cases h with
  | num n s A len cap h1 h2 h3 hN =>
    obtain ⟨rfl, rfl⟩ := hN rfl
    simp only [xcells, List.cons.injEq, Value.int.injEq, Value.string.injEq, Value.slice.injEq, true_and, and_true] at hc
    simp [Ex.head, hc]
  | name n s A len cap h1 h2 hN =>
    obtain ⟨rfl, rfl⟩ := hN rfl
    simp only [xcells, List.cons.injEq, Value.int.injEq, Value.string.injEq, Value.slice.injEq, true_and, and_true] at hc
    simp [Ex.head, hc, Ex.ba_data]
  | bad k n s A len cap h1 h2 h3 h4 h5 hN => cases hN
  | two k n s g o len cap cs0 cs1 e0 e1 h1 h2 h3 h4 h5 h6 h7 h8 r0 r1 hN =>
    obtain ⟨rfl, rfl, rfl⟩ := hN rfl
    simp only [xcells, List.cons.injEq, Value.int.injEq, Value.string.injEq, Value.slice.injEq, true_and, and_true] at hc
    simp [Ex.head, hc]
theorem Ex.ba_inj {s t : Ex.Bs} (h : Ex.ba s = Ex.ba t) : s = t := by
  have := congrArg (fun b : ByteArray => b.data.toList) h
  simpa [Ex.ba] using this

theorem same_diff (e f : Ex.X) (hd : Ex.head e ≠ Ex.head f) (b : Bool) (hb : b = true ↔ e = f) (w : World) (ca cb : List Value) (hx : XN w.heap.size w ca e) (hy : XN w.heap.size w cb f) :
    Calls Tryd.prog 36 #[.agg ca.toArray, .agg cb.toArray] w fun r w' => r = .returned (.bool b) ∧ Below w.heap.size w w' := by
  obtain ⟨k, n, s, A, len, cap, rfl, hle, hm⟩ := hx.form
  obtain ⟨k', n', s', A', len', cap', rfl, hle', hm'⟩ := hy.form
  have h1 := XN.head hx
  have h2 := XN.head hy
  have hb' : b = false := by
    rw [Bool.eq_false_iff]
    intro h
    rw [hb.1 h] at hd
    exact hd rfl
  subst hb'
  refine same_ne w k n k' n' s s' A A' len cap len' cap' hle hm hle' hm' ?_
  rw [Bool.eq_false_iff]
  intro h
  simp only [Bool.and_eq_true, beq_iff_eq] at h
  obtain ⟨rfl, rfl, h3, rfl⟩ := h
  obtain rfl : s = s' := Ex.bytes_eq (by simpa using h3)
  exact hd (h1 ▸ h2)

/-- **SameExpr**, of what the program itself made -/
theorem same_ok (e : Ex.X) : SameOK e := by
  induction e with
  | num n =>
    intro f b hb w ca cb hx hy
    by_cases hh : Ex.head (.num n) = Ex.head f
    · obtain rfl : f = .num n := by
        cases hy <;> simp only [Ex.head, Prod.mk.injEq] at hh <;> first | (obtain ⟨-, rfl, -⟩ := hh; rfl) | omega
      obtain rfl : b = true := hb.2 rfl
      cases hx with
      | num n s A len cap h1 h2 h3 hN =>
        obtain ⟨rfl, rfl⟩ := hN rfl
        cases hy with
        | num n s' A' len' cap' h1' h2' h3' hN' =>
          obtain ⟨rfl, rfl⟩ := hN' rfl
          exact same_leaf w 1 n _ A A' cap cap' h2 h2'
    · exact same_diff _ _ hh b hb w ca cb hx hy
  | name s =>
    intro f b hb w ca cb hx hy
    by_cases hh : Ex.head (.name s) = Ex.head f
    · obtain rfl : f = .name s := by
        cases hy <;> simp only [Ex.head, Prod.mk.injEq] at hh <;> first | omega | (rw [Ex.ba_inj hh.2.2.1])
      obtain rfl : b = true := hb.2 rfl
      generalize hs : Ex.X.name s = e at hx hy
      cases hx with
      | name n s A len cap h1 h2 hN =>
        obtain ⟨rfl, rfl⟩ := hN rfl
        generalize hs' : Ex.X.name s.data.toList = e at hy
        cases hy with
        | name n' s' A' len' cap' h1' h2' hN' =>
          obtain ⟨rfl, rfl⟩ := hN' rfl
          injection hs' with hs'
          obtain rfl : s = s' := by
            have := congrArg Ex.ba hs'
            rwa [Ex.ba_data, Ex.ba_data] at this
          exact same_leaf w 2 0 s A A' cap cap' h2 h2'
        | num => cases hs'
        | two => cases hs'
        | bad => cases hs'
      | num => cases hs
      | two => cases hs
      | bad => cases hs
    · exact same_diff _ _ hh b hb w ca cb hx hy
  | bad =>
    intro f b hb w ca cb hx hy
    cases hx with
    | bad k n s A len cap h1 h2 h3 h4 h5 hN => cases hN
  | two k a c ia ic =>
    intro f b hb w ca cb hx hy
    by_cases hh : Ex.head (.two k a c) = Ex.head f
    · cases hx with
      | two k n s g o len cap cs0 cs1 e0 e1 h1 h2 h3 h4 h5 h6 h7 h8 r0 r1 hN =>
        obtain ⟨rfl, rfl, rfl⟩ := hN rfl
        cases hy with
        | two k' n' s' g' o' len' cap' ds0 ds1 f0 f1 h1' h2' h3' h4' h5' h6' h7' h8' r0' r1' hN' =>
          obtain ⟨rfl, rfl, rfl⟩ := hN' rfl
          simp only [Ex.head, Prod.mk.injEq, and_true] at hh
          subst hh
          have hbb : b = (decide (a = f0) && decide (c = f1)) := by
            rw [Bool.eq_iff_iff, hb]
            simp
          rw [hbb]
          exact same_two w k g o cap g' o' cap' cs0 cs1 ds0 ds1 a c f0 f1 h1 h2 h1' h2' h6 h6' h7 h8 h7' h8' r0 r1 r0' r1' ia ic _ _ (by simp) (by simp)
        | num => simp only [Ex.head, Prod.mk.injEq] at hh; omega
        | name => simp only [Ex.head, Prod.mk.injEq] at hh; omega
        | bad k n s A len cap h1 h2 h3 h4 h5 hN => cases hN
    · exact same_diff _ _ hh b hb w ca cb hx hy
end Go.Proofs.YtdhjfckckghicaaDoor


namespace Go.Proofs.YtdhjfckckghicaaDoor
set_option linter.unusedVariables false
set_option linter.unusedSimpArgs false
set_option maxRecDepth 100000
open Go.RowKit

theorem ZR.tail {B n k g o : Nat} {w : World} {kd : Int} {nm : List UInt8} {ea eb : Ex.X} {body els rest : St.P} (h : ZR B w (some ⟨g, o + k * 12, none⟩) n (.cons kd nm ea eb body els rest)) (hn : 0 < n) : ZR B w (some ⟨g, o + (k + 1) * 12, none⟩) (n - 1) rest := by
  obtain ⟨_, _, _, _, _, _, _, _, _, _, _, _, _, _, _, _, _, _, _, _, _, _, body', els', rest', e1, -, -, -, -, -, -, -, pr0⟩ := h.next hn
  injection e1 with _ _ _ _ _ _ e1
  subst e1
  exact pr0
/-- SameExpr of what is the same -/
theorem same_xz (w : World) (ca cb : List Value) (e : Ex.X) (ha : XZ w.heap.size w ca e) (hb : XZ w.heap.size w cb e) :
    Calls Tryd.prog 36 #[.agg ca.toArray, .agg cb.toArray] w fun r w' => r = .returned (.bool true) ∧ Below w.heap.size w w' := by
  rcases ha with ha | ⟨rfl, rfl⟩
  · rcases hb with hb | ⟨rfl, rfl⟩
    · exact same_ok e e true (by simp) w ca cb ha hb
    · cases ha with
      | bad k n s A len cap h1 h2 h3 h4 h5 hN => cases hN
  · rcases hb with hb | ⟨_, rfl⟩
    · cases hb with
      | bad k n s A len cap h1 h2 h3 h4 h5 hN => cases hN
    · exact same_leaf w 0 0 ⟨#[]⟩ none none 0 0 (Nat.zero_le _) (Nat.zero_le _)

def SameSOK (p : St.P) : Prop := ∀ (w : World) (A A' : Option Addr) (n c n' c' : Nat), ZR w.heap.size w A n p → n ≤ c → c ≤ maxLen → ZR w.heap.size w A' n' p → n' ≤ c' → c' ≤ maxLen →
  Calls Tryd.prog 11 #[.slice A n c, .slice A' n' c'] w fun e w' => e = .returned (.bool true) ∧ Below w.heap.size w w'

set_option maxHeartbeats 4000000 in
theorem same_stmt (body els : St.P) (ihb : SameSOK body) (ihe : SameSOK els) (w : World) (kd : Int) (nm : ByteArray) (ak an bk bn ak' an' bk' bn' : Int) (sa sb sa' sb' : ByteArray) (aA bA aA' bA' : Option Addr) (al ac bl bc al' ac' bl' bc' : Nat) (ea eb : Ex.X) (D : Option Addr) (dl dc : Nat) (E : Option Addr) (el ec : Nat) (D' : Option Addr) (dl' dc' : Nat) (E' : Option Addr) (el' ec' : Nat)
    (xa : XZ w.heap.size w (xcells ak an sa aA al ac) ea) (xb : XZ w.heap.size w (xcells bk bn sb bA bl bc) eb) (pb : ZR w.heap.size w D dl body) (pe : ZR w.heap.size w E el els) (xa' : XZ w.heap.size w (xcells ak' an' sa' aA' al' ac') ea) (xb' : XZ w.heap.size w (xcells bk' bn' sb' bA' bl' bc') eb) (pb' : ZR w.heap.size w D' dl' body) (pe' : ZR w.heap.size w E' el' els)
    (hd : dl ≤ dc ∧ dc ≤ maxLen ∧ el ≤ ec ∧ ec ≤ maxLen) (hd' : dl' ≤ dc' ∧ dc' ≤ maxLen ∧ el' ≤ ec' ∧ ec' ≤ maxLen) :
    Calls Tryd.prog 24 #[.agg (stcells kd nm (xcells ak an sa aA al ac) (xcells bk bn sb bA bl bc) D dl dc E el ec).toArray, .agg (stcells kd nm (xcells ak' an' sa' aA' al' ac') (xcells bk' bn' sb' bA' bl' bc') D' dl' dc' E' el' ec').toArray] w fun e w' => e = .returned (.bool true) ∧ Below w.heap.size w w' := by
  have hbA : Below w.heap.size w ((w.alloc (.cells (stcells kd nm (xcells ak an sa aA al ac) (xcells bk bn sb bA bl bc) D dl dc E el ec).toArray 36)).alloc (.cells (stcells kd nm (xcells ak' an' sa' aA' al' ac') (xcells bk' bn' sb' bA' bl' bc') D' dl' dc' E' el' ec').toArray 36)) := below_alloc (below_alloc (Below.refl _ _) _) _
  have q0 := (Blk.new w 36 (stcells kd nm (xcells ak an sa aA al ac) (xcells bk bn sb bA bl bc) D dl dc E el ec)).alloc (.cells (stcells kd nm (xcells ak' an' sa' aA' al' ac') (xcells bk' bn' sb' bA' bl' bc') D' dl' dc' E' el' ec').toArray 36)
  have q1 := Blk.new (w.alloc (.cells (stcells kd nm (xcells ak an sa aA al ac) (xcells bk bn sb bA bl bc) D dl dc E el ec).toArray 36)) 36 (stcells kd nm (xcells ak' an' sa' aA' al' ac') (xcells bk' bn' sb' bA' bl' bc') D' dl' dc' E' el' ec')
  simp only [World.size_alloc] at q1
  obtain ⟨Q, hQ⟩ : ∃ Q, Q = w.heap.size := ⟨_, rfl⟩
  rw [← hQ] at q0 q1
  unfold stcells xcells at hbA q0 q1 ⊢
  simp only [List.cons_append, List.nil_append] at hbA q0 q1 ⊢
  have gA : ∀ w', Below w.heap.size w w' → Calls Tryd.prog 36 #[.agg #[.int .i64 ak, .int .i64 an, .string sa, .slice aA al ac], .agg #[.int .i64 ak', .int .i64 an', .string sa', .slice aA' al' ac']] w' fun r w'' => r = .returned (.bool true) ∧ Below w'.heap.size w' w'' := fun w' hb => same_xz w' _ _ ea (xa.step_ hb) (xa'.step_ hb)
  have gB : ∀ w', Below w.heap.size w w' → Calls Tryd.prog 36 #[.agg #[.int .i64 bk, .int .i64 bn, .string sb, .slice bA bl bc], .agg #[.int .i64 bk', .int .i64 bn', .string sb', .slice bA' bl' bc']] w' fun r w'' => r = .returned (.bool true) ∧ Below w'.heap.size w' w'' := fun w' hb => same_xz w' _ _ eb (xb.step_ hb) (xb'.step_ hb)
  have gP : ∀ w', Below w.heap.size w w' → Calls Tryd.prog 11 #[.slice D dl dc, .slice D' dl' dc'] w' fun r w'' => r = .returned (.bool true) ∧ Below w'.heap.size w' w'' := fun w' hb => ihb w' D D' dl dc dl' dc' (pb.step_ hb) hd.1 hd.2.1 (pb'.step_ hb) hd'.1 hd'.2.1
  have gE : ∀ w', Below w.heap.size w w' → Calls Tryd.prog 11 #[.slice E el ec, .slice E' el' ec'] w' fun r w'' => r = .returned (.bool true) ∧ Below w'.heap.size w' w'' := fun w' hb => ihe w' E E' el ec el' ec' (pe.step_ hb) hd.2.2.1 hd.2.2.2 (pe'.step_ hb) hd'.2.2.1 hd'.2.2.2
  clear xa xb pb pe xa' xb' pb' pe' ihb ihe hd hd'
  have HQ := Lib.hid hQ
  go_enter Tryd.func24, Tryd.ntmps24
  go_upto_region 3 with (fail)
  rw [← HQ.out]
  clear hQ
  generalize ((w.alloc (.cells #[.int .i64 kd, .string nm, .int .i64 ak, .int .i64 an, .string sa, .slice aA al ac, .int .i64 bk, .int .i64 bn, .string sb, .slice bA bl bc, .slice D dl dc, .slice E el ec] 36)).alloc (.cells #[.int .i64 kd, .string nm, .int .i64 ak', .int .i64 an', .string sa', .slice aA' al' ac', .int .i64 bk', .int .i64 bn', .string sb', .slice bA' bl' bc', .slice D' dl' dc', .slice E' el' ec'] 36)) = W at hbA q0 q1 ⊢
  have hbW : Below w.heap.size w W := hbA
  have keepS : ∀ w', Below W.heap.size W w' → (Below W.heap.size W w' ∧ w'.cell? ⟨Q, 0, none⟩ = some (.int .i64 kd) ∧ w'.cell? ⟨Q, 1, none⟩ = some (.string nm) ∧ w'.cell? ⟨Q, 2, none⟩ = some (.int .i64 ak) ∧ w'.cell? ⟨Q, 3, none⟩ = some (.int .i64 an) ∧ w'.cell? ⟨Q, 4, none⟩ = some (.string sa) ∧ w'.cell? ⟨Q, 5, none⟩ = some (.slice aA al ac) ∧ w'.cell? ⟨Q, 6, none⟩ = some (.int .i64 bk) ∧ w'.cell? ⟨Q, 7, none⟩ = some (.int .i64 bn) ∧ w'.cell? ⟨Q, 8, none⟩ = some (.string sb) ∧ w'.cell? ⟨Q, 9, none⟩ = some (.slice bA bl bc) ∧ w'.cell? ⟨Q, 10, none⟩ = some (.slice D dl dc) ∧ w'.cell? ⟨Q, 11, none⟩ = some (.slice E el ec) ∧
      w'.cell? ⟨Q + 1, 1, none⟩ = some (.string nm) ∧ w'.cell? ⟨Q + 1, 2, none⟩ = some (.int .i64 ak') ∧ w'.cell? ⟨Q + 1, 3, none⟩ = some (.int .i64 an') ∧ w'.cell? ⟨Q + 1, 4, none⟩ = some (.string sa') ∧ w'.cell? ⟨Q + 1, 5, none⟩ = some (.slice aA' al' ac') ∧ w'.cell? ⟨Q + 1, 6, none⟩ = some (.int .i64 bk') ∧ w'.cell? ⟨Q + 1, 7, none⟩ = some (.int .i64 bn') ∧ w'.cell? ⟨Q + 1, 8, none⟩ = some (.string sb') ∧ w'.cell? ⟨Q + 1, 9, none⟩ = some (.slice bA' bl' bc') ∧ w'.cell? ⟨Q + 1, 10, none⟩ = some (.slice D' dl' dc') ∧ w'.cell? ⟨Q + 1, 11, none⟩ = some (.slice E' el' ec')) := fun w' hb => by
    have p0 := q0.below hb
    have p1 := q1.below hb
    exact ⟨hb, (p0.cell 0).trans rfl, (p0.cell 1).trans rfl, (p0.cell 2).trans rfl, (p0.cell 3).trans rfl, (p0.cell 4).trans rfl, (p0.cell 5).trans rfl, (p0.cell 6).trans rfl, (p0.cell 7).trans rfl, (p0.cell 8).trans rfl, (p0.cell 9).trans rfl, (p0.cell 10).trans rfl, (p0.cell 11).trans rfl, (p1.cell 1).trans rfl, (p1.cell 2).trans rfl, (p1.cell 3).trans rfl, (p1.cell 4).trans rfl, (p1.cell 5).trans rfl, (p1.cell 6).trans rfl, (p1.cell 7).trans rfl, (p1.cell 8).trans rfl, (p1.cell 9).trans rfl, (p1.cell 10).trans rfl, (p1.cell 11).trans rfl⟩
  have hS1 := keepS _ (below_drew (Below.refl _ _))
  clear hbA q0 q1
  refine wp_walk (by kernel_rfl) (by kernel_rfl) (fun w w' => Below w.heap.size w w') (fun w' => (Below W.heap.size W w' ∧ w'.cell? ⟨Q, 0, none⟩ = some (.int .i64 kd) ∧ w'.cell? ⟨Q, 1, none⟩ = some (.string nm) ∧ w'.cell? ⟨Q, 2, none⟩ = some (.int .i64 ak) ∧ w'.cell? ⟨Q, 3, none⟩ = some (.int .i64 an) ∧ w'.cell? ⟨Q, 4, none⟩ = some (.string sa) ∧ w'.cell? ⟨Q, 5, none⟩ = some (.slice aA al ac) ∧ w'.cell? ⟨Q, 6, none⟩ = some (.int .i64 bk) ∧ w'.cell? ⟨Q, 7, none⟩ = some (.int .i64 bn) ∧ w'.cell? ⟨Q, 8, none⟩ = some (.string sb) ∧ w'.cell? ⟨Q, 9, none⟩ = some (.slice bA bl bc) ∧ w'.cell? ⟨Q, 10, none⟩ = some (.slice D dl dc) ∧ w'.cell? ⟨Q, 11, none⟩ = some (.slice E el ec) ∧ w'.cell? ⟨Q + 1, 1, none⟩ = some (.string nm) ∧ w'.cell? ⟨Q + 1, 2, none⟩ = some (.int .i64 ak') ∧ w'.cell? ⟨Q + 1, 3, none⟩ = some (.int .i64 an') ∧ w'.cell? ⟨Q + 1, 4, none⟩ = some (.string sa') ∧ w'.cell? ⟨Q + 1, 5, none⟩ = some (.slice aA' al' ac') ∧ w'.cell? ⟨Q + 1, 6, none⟩ = some (.int .i64 bk') ∧ w'.cell? ⟨Q + 1, 7, none⟩ = some (.int .i64 bn') ∧ w'.cell? ⟨Q + 1, 8, none⟩ = some (.string sb') ∧ w'.cell? ⟨Q + 1, 9, none⟩ = some (.slice bA' bl' bc') ∧ w'.cell? ⟨Q + 1, 10, none⟩ = some (.slice D' dl' dc') ∧ w'.cell? ⟨Q + 1, 11, none⟩ = some (.slice E' el' ec'))) hS1 ?_
  repeat (first | (refine settle_skip (fun _ => by rfl) ?_; (simp only [Act.put, List.setIfInBounds_toArray, List.set_cons_zero, List.set_cons_succ])) | (refine' settle_run (fun _ _ => Below.refl _ _) (fun _ => by rfl) ?_ ?_; rotate_left; (focus (intro ρ w hS hF; (try dsimp only at hS); go_split_ands; go_simp; try with_reducible rfl)); (simp only [Act.put, List.setIfInBounds_toArray, List.set_cons_zero, List.set_cons_succ])))
  (refine' settle_step (fun _ => by rfl) ?_ ?_; rotate_left; (focus (intro ρ w hS hF K hK; (simp only [Act.put, List.setIfInBounds_toArray, List.set_cons_zero, List.set_cons_succ] at hK); go_simp; go_at_call 36; refine (gA _ (below_next hS.1 hbW)).mono ?_; rintro e w6 ⟨rfl, hb6⟩; have hS' := keepS _ (below_next hb6 hS.1); have hE' := hb6; exact hK _ hS' hE')); (simp only [Act.put, List.setIfInBounds_toArray, List.set_cons_zero, List.set_cons_succ]))
  repeat (first | (refine settle_skip (fun _ => by rfl) ?_; (simp only [Act.put, List.setIfInBounds_toArray, List.set_cons_zero, List.set_cons_succ])) | (refine' settle_run (fun _ _ => Below.refl _ _) (fun _ => by rfl) ?_ ?_; rotate_left; (focus (intro ρ w hS hF; (try dsimp only at hS); go_split_ands; go_simp; try with_reducible rfl)); (simp only [Act.put, List.setIfInBounds_toArray, List.set_cons_zero, List.set_cons_succ])))
  (refine' settle_step (fun _ => by rfl) ?_ ?_; rotate_left; (focus (intro ρ w hS hF K hK; (simp only [Act.put, List.setIfInBounds_toArray, List.set_cons_zero, List.set_cons_succ] at hK); go_simp; go_at_call 36; refine (gB _ (below_next hS.1 hbW)).mono ?_; rintro e w6 ⟨rfl, hb6⟩; have hS' := keepS _ (below_next hb6 hS.1); have hE' := hb6; exact hK _ hS' hE')); (simp only [Act.put, List.setIfInBounds_toArray, List.set_cons_zero, List.set_cons_succ]))
  repeat (first | (refine settle_skip (fun _ => by rfl) ?_; (simp only [Act.put, List.setIfInBounds_toArray, List.set_cons_zero, List.set_cons_succ])) | (refine' settle_run (fun _ _ => Below.refl _ _) (fun _ => by rfl) ?_ ?_; rotate_left; (focus (intro ρ w hS hF; (try dsimp only at hS); go_split_ands; go_simp; try with_reducible rfl)); (simp only [Act.put, List.setIfInBounds_toArray, List.set_cons_zero, List.set_cons_succ])))
  refine settle_nil ?_
  intro ρ w1 hS _
  have hS1 := keepS _ (below_drew hS.1)
  clear hS
  dsimp only
  go_wp2_with fail
  refine wp_walk (by kernel_rfl) (by kernel_rfl) (fun w w' => Below w.heap.size w w') (fun w' => (Below W.heap.size W w' ∧ w'.cell? ⟨Q, 0, none⟩ = some (.int .i64 kd) ∧ w'.cell? ⟨Q, 1, none⟩ = some (.string nm) ∧ w'.cell? ⟨Q, 2, none⟩ = some (.int .i64 ak) ∧ w'.cell? ⟨Q, 3, none⟩ = some (.int .i64 an) ∧ w'.cell? ⟨Q, 4, none⟩ = some (.string sa) ∧ w'.cell? ⟨Q, 5, none⟩ = some (.slice aA al ac) ∧ w'.cell? ⟨Q, 6, none⟩ = some (.int .i64 bk) ∧ w'.cell? ⟨Q, 7, none⟩ = some (.int .i64 bn) ∧ w'.cell? ⟨Q, 8, none⟩ = some (.string sb) ∧ w'.cell? ⟨Q, 9, none⟩ = some (.slice bA bl bc) ∧ w'.cell? ⟨Q, 10, none⟩ = some (.slice D dl dc) ∧ w'.cell? ⟨Q, 11, none⟩ = some (.slice E el ec) ∧ w'.cell? ⟨Q + 1, 1, none⟩ = some (.string nm) ∧ w'.cell? ⟨Q + 1, 2, none⟩ = some (.int .i64 ak') ∧ w'.cell? ⟨Q + 1, 3, none⟩ = some (.int .i64 an') ∧ w'.cell? ⟨Q + 1, 4, none⟩ = some (.string sa') ∧ w'.cell? ⟨Q + 1, 5, none⟩ = some (.slice aA' al' ac') ∧ w'.cell? ⟨Q + 1, 6, none⟩ = some (.int .i64 bk') ∧ w'.cell? ⟨Q + 1, 7, none⟩ = some (.int .i64 bn') ∧ w'.cell? ⟨Q + 1, 8, none⟩ = some (.string sb') ∧ w'.cell? ⟨Q + 1, 9, none⟩ = some (.slice bA' bl' bc') ∧ w'.cell? ⟨Q + 1, 10, none⟩ = some (.slice D' dl' dc') ∧ w'.cell? ⟨Q + 1, 11, none⟩ = some (.slice E' el' ec'))) hS1 ?_
  repeat (first | (refine settle_skip (fun _ => by rfl) ?_; (simp only [Act.put, List.setIfInBounds_toArray, List.set_cons_zero, List.set_cons_succ])) | (refine' settle_run (fun _ _ => Below.refl _ _) (fun _ => by rfl) ?_ ?_; rotate_left; (focus (intro ρ w hS hF; (try dsimp only at hS); go_split_ands; go_simp; try with_reducible rfl)); (simp only [Act.put, List.setIfInBounds_toArray, List.set_cons_zero, List.set_cons_succ])))
  (refine' settle_step (fun _ => by rfl) ?_ ?_; rotate_left; (focus (intro ρ w hS hF K hK; (simp only [Act.put, List.setIfInBounds_toArray, List.set_cons_zero, List.set_cons_succ] at hK); go_simp; go_at_call 11; refine (gP _ (below_next hS.1 hbW)).mono ?_; rintro e w6 ⟨rfl, hb6⟩; have hS' := keepS _ (below_next hb6 hS.1); have hE' := hb6; exact hK _ hS' hE')); (simp only [Act.put, List.setIfInBounds_toArray, List.set_cons_zero, List.set_cons_succ]))
  repeat (first | (refine settle_skip (fun _ => by rfl) ?_; (simp only [Act.put, List.setIfInBounds_toArray, List.set_cons_zero, List.set_cons_succ])) | (refine' settle_run (fun _ _ => Below.refl _ _) (fun _ => by rfl) ?_ ?_; rotate_left; (focus (intro ρ w hS hF; (try dsimp only at hS); go_split_ands; go_simp; try with_reducible rfl)); (simp only [Act.put, List.setIfInBounds_toArray, List.set_cons_zero, List.set_cons_succ])))
  (refine' settle_step (fun _ => by rfl) ?_ ?_; rotate_left; (focus (intro ρ w hS hF K hK; (simp only [Act.put, List.setIfInBounds_toArray, List.set_cons_zero, List.set_cons_succ] at hK); go_simp; go_at_call 11; refine (gE _ (below_next hS.1 hbW)).mono ?_; rintro e w6 ⟨rfl, hb6⟩; have hS' := keepS _ (below_next hb6 hS.1); have hE' := hb6; exact hK _ hS' hE')); (simp only [Act.put, List.setIfInBounds_toArray, List.set_cons_zero, List.set_cons_succ]))
  repeat (first | (refine settle_skip (fun _ => by rfl) ?_; (simp only [Act.put, List.setIfInBounds_toArray, List.set_cons_zero, List.set_cons_succ])) | (refine' settle_run (fun _ _ => Below.refl _ _) (fun _ => by rfl) ?_ ?_; rotate_left; (focus (intro ρ w hS hF; (try dsimp only at hS); go_split_ands; go_simp; try with_reducible rfl)); (simp only [Act.put, List.setIfInBounds_toArray, List.set_cons_zero, List.set_cons_succ])))
  refine settle_nil ?_
  intro ρ w2 hS _
  have HB := Lib.hid (below_next hS.1 hbW)
  have s0 := hS.2.1
  clear hS hS1 keepS gA gB gP gE hbW
  dsimp only
  rcases fr_kinds kd with rfl | rfl | rfl | rfl | rfl | rfl | rfl | ⟨k1, k2, k3, k4, k5, k6, k7⟩
  · go_wp2
    go_ret
    exact ⟨rfl, HB.out⟩
  · go_wp2
    go_ret
    exact ⟨rfl, HB.out⟩
  · go_wp2
    go_ret
    exact ⟨rfl, HB.out⟩
  · go_wp2
    go_ret
    exact ⟨rfl, HB.out⟩
  · go_wp2
    go_ret
    exact ⟨rfl, HB.out⟩
  · go_wp2
    go_ret
    exact ⟨rfl, HB.out⟩
  · go_wp2
    go_ret
    exact ⟨rfl, HB.out⟩
  · go_wp2
    go_ret
    exact ⟨rfl, HB.out⟩

set_option maxHeartbeats 4000000 in
theorem sames_step (p : St.P) (ih : ∀ q : St.P, q.size < p.size → SameSOK q) : SameSOK p := by
  intro w A A' n c n' c' hp hnc hcm hp' hnc' hcm'
  have hnn : n = n' := by rw [hp.length, hp'.length]
  subst hnn
  obtain ⟨g0, o, hA, hpl⟩ := hp.place
  obtain ⟨g1, o1, hA1, hpl1⟩ := hp'.place
  have hn63 : n ≤ 9223372036854775807 := by unfold maxLen at hcm; omega
  have hnn : ((n : Int) != (n : Int)) = false := by simp
  clear hp hp'
  go_enter Tryd.func11, Tryd.ntmps11
  go_wp2
  go_loopw [13] (fun i wr => ∃ (k : Nat) (q : St.P), k ≤ n ∧ i = .int .i64 (k : Int) ∧ ZR w.heap.size w (some ⟨g0, o + k * 12, none⟩) (n - k) q ∧ ZR w.heap.size w (some ⟨g1, o1 + k * 12, none⟩) (n - k) q ∧ Below w.heap.size w wr ∧ q.size ≤ p.size) (fun i _ => n - (intOf i).toNat)
  case atStart => exact ⟨0, p, Nat.zero_le _, rfl, hpl, hpl1, Below.refl _ _, Nat.le_refl _⟩
  case round =>
    clear hpl hpl1
    obtain ⟨k, q, hk, rfl, hq0, hq1, hlow, hqs⟩ := hrel
    by_cases hlt : k < n
    · obtain ⟨kd, nm, ak, an, bk, bn, sa, sb, aA, bA, al, ac, bl, bc, ea, eb, D, dl, dc, E, el, ec, body, els, rest, rfl, hg, hd, hcell, xa, xb, pb, pe, pr⟩ := (hq0.step_ hlow).next (by omega)
      obtain ⟨kd', nm', ak', an', bk', bn', sa', sb', aA', bA', al', ac', bl', bc', ea', eb', D', dl', dc', E', el', ec', body', els', rest', heq, hg', hd', hcell', xa', xb', pb', pe', pr'⟩ := (hq1.step_ hlow).next (by omega)
      injection heq with e1 hnm e3 e4 e5 e6 e7
      subst e1 e3 e4 e5 e6 e7
      obtain rfl : nm = nm' := by
        have := congrArg Ex.ba hnm
        rwa [Ex.ba_data, Ex.ba_data] at this
      have pr0 := hq0.tail (by omega)
      have pr1 := hq1.tail (by omega)
      have hAA := hA (by omega)
      have hAA1 := hA1 (by omega)
      subst hAA hAA1
      have hs : body.size < p.size ∧ els.size < p.size ∧ rest.size ≤ p.size := by rw [St.P.size] at hqs; omega
      have gS : ∀ w', Below wr.heap.size wr w' → Calls Tryd.prog 24 #[.agg #[.int .i64 kd, .string nm, .int .i64 ak, .int .i64 an, .string sa, .slice aA al ac, .int .i64 bk, .int .i64 bn, .string sb, .slice bA bl bc, .slice D dl dc, .slice E el ec], .agg #[.int .i64 kd, .string nm, .int .i64 ak', .int .i64 an', .string sa', .slice aA' al' ac', .int .i64 bk', .int .i64 bn', .string sb', .slice bA' bl' bc', .slice D' dl' dc', .slice E' el' ec']] w' fun r w'' => r = .returned (.bool true) ∧ Below w'.heap.size w' w'' := fun w' hb =>
        same_stmt body els (ih body hs.1) (ih els hs.2.1) w' kd nm ak an bk bn ak' an' bk' bn' sa sb sa' sb' aA bA aA' bA' al ac bl bc al' ac' bl' bc' ea eb D dl dc E el ec D' dl' dc' E' el' ec' (xa.step_ hb) (xb.step_ hb) (pb.step_ hb) (pe.step_ hb) (xa'.step_ hb) (xb'.step_ hb) (pb'.step_ hb) (pe'.step_ hb) hd hd'
      unfold stcells xcells at hcell hcell'
      simp only [List.cons_append, List.nil_append] at hcell hcell'
      have keepS : ∀ w', Below wr.heap.size wr w' → (Below wr.heap.size wr w' ∧ w'.cell? ⟨g0, o + k * 12, none⟩ = some (.int .i64 kd) ∧ w'.cell? ⟨g0, o + k * 12 + 1, none⟩ = some (.string nm) ∧ w'.cell? ⟨g0, o + k * 12 + 2, none⟩ = some (.int .i64 ak) ∧ w'.cell? ⟨g0, o + k * 12 + 3, none⟩ = some (.int .i64 an) ∧ w'.cell? ⟨g0, o + k * 12 + 4, none⟩ = some (.string sa) ∧ w'.cell? ⟨g0, o + k * 12 + 5, none⟩ = some (.slice aA al ac) ∧ w'.cell? ⟨g0, o + k * 12 + 6, none⟩ = some (.int .i64 bk) ∧ w'.cell? ⟨g0, o + k * 12 + 7, none⟩ = some (.int .i64 bn) ∧ w'.cell? ⟨g0, o + k * 12 + 8, none⟩ = some (.string sb) ∧ w'.cell? ⟨g0, o + k * 12 + 9, none⟩ = some (.slice bA bl bc) ∧ w'.cell? ⟨g0, o + k * 12 + 10, none⟩ = some (.slice D dl dc) ∧ w'.cell? ⟨g0, o + k * 12 + 11, none⟩ = some (.slice E el ec) ∧ w'.cell? ⟨g1, o1 + k * 12, none⟩ = some (.int .i64 kd) ∧ w'.cell? ⟨g1, o1 + k * 12 + 1, none⟩ = some (.string nm) ∧ w'.cell? ⟨g1, o1 + k * 12 + 2, none⟩ = some (.int .i64 ak') ∧ w'.cell? ⟨g1, o1 + k * 12 + 3, none⟩ = some (.int .i64 an') ∧ w'.cell? ⟨g1, o1 + k * 12 + 4, none⟩ = some (.string sa') ∧ w'.cell? ⟨g1, o1 + k * 12 + 5, none⟩ = some (.slice aA' al' ac') ∧ w'.cell? ⟨g1, o1 + k * 12 + 6, none⟩ = some (.int .i64 bk') ∧ w'.cell? ⟨g1, o1 + k * 12 + 7, none⟩ = some (.int .i64 bn') ∧ w'.cell? ⟨g1, o1 + k * 12 + 8, none⟩ = some (.string sb') ∧ w'.cell? ⟨g1, o1 + k * 12 + 9, none⟩ = some (.slice bA' bl' bc') ∧ w'.cell? ⟨g1, o1 + k * 12 + 10, none⟩ = some (.slice D' dl' dc') ∧ w'.cell? ⟨g1, o1 + k * 12 + 11, none⟩ = some (.slice E' el' ec')) := fun w' hb => by
        have hk : ∀ p : Addr, p.block < wr.heap.size → w'.cell? p = wr.cell? p := fun p hp => hb.cell hp
        exact ⟨hb, (hk ⟨g0, _, none⟩ hg).trans (hcell 0 _ rfl), (hk ⟨g0, _, none⟩ hg).trans (hcell 1 _ rfl), (hk ⟨g0, _, none⟩ hg).trans (hcell 2 _ rfl), (hk ⟨g0, _, none⟩ hg).trans (hcell 3 _ rfl), (hk ⟨g0, _, none⟩ hg).trans (hcell 4 _ rfl), (hk ⟨g0, _, none⟩ hg).trans (hcell 5 _ rfl), (hk ⟨g0, _, none⟩ hg).trans (hcell 6 _ rfl), (hk ⟨g0, _, none⟩ hg).trans (hcell 7 _ rfl), (hk ⟨g0, _, none⟩ hg).trans (hcell 8 _ rfl), (hk ⟨g0, _, none⟩ hg).trans (hcell 9 _ rfl), (hk ⟨g0, _, none⟩ hg).trans (hcell 10 _ rfl), (hk ⟨g0, _, none⟩ hg).trans (hcell 11 _ rfl), (hk ⟨g1, _, none⟩ hg').trans (hcell' 0 _ rfl), (hk ⟨g1, _, none⟩ hg').trans (hcell' 1 _ rfl), (hk ⟨g1, _, none⟩ hg').trans (hcell' 2 _ rfl), (hk ⟨g1, _, none⟩ hg').trans (hcell' 3 _ rfl), (hk ⟨g1, _, none⟩ hg').trans (hcell' 4 _ rfl), (hk ⟨g1, _, none⟩ hg').trans (hcell' 5 _ rfl), (hk ⟨g1, _, none⟩ hg').trans (hcell' 6 _ rfl), (hk ⟨g1, _, none⟩ hg').trans (hcell' 7 _ rfl), (hk ⟨g1, _, none⟩ hg').trans (hcell' 8 _ rfl), (hk ⟨g1, _, none⟩ hg').trans (hcell' 9 _ rfl), (hk ⟨g1, _, none⟩ hg').trans (hcell' 10 _ rfl), (hk ⟨g1, _, none⟩ hg').trans (hcell' 11 _ rfl)⟩
      have hS1 := keepS _ (below_drew (Below.refl _ _))
      have hi1 : (k : Int) < (n : Int) := by omega
      have HQ := Lib.hid (And.intro pr0 (And.intro pr1 (And.intro hs.2.2 hlow)))
      clear hcell hcell' pr0 pr1 hs hlow xa xb pb pe pr xa' xb' pb' pe' pr' hq0 hq1 hqs ih
      go_wp2_with fail
      refine wp_walk (by kernel_rfl) (by kernel_rfl) (fun w w' => Below w.heap.size w w') (fun w' => (Below wr.heap.size wr w' ∧ w'.cell? ⟨g0, o + k * 12, none⟩ = some (.int .i64 kd) ∧ w'.cell? ⟨g0, o + k * 12 + 1, none⟩ = some (.string nm) ∧ w'.cell? ⟨g0, o + k * 12 + 2, none⟩ = some (.int .i64 ak) ∧ w'.cell? ⟨g0, o + k * 12 + 3, none⟩ = some (.int .i64 an) ∧ w'.cell? ⟨g0, o + k * 12 + 4, none⟩ = some (.string sa) ∧ w'.cell? ⟨g0, o + k * 12 + 5, none⟩ = some (.slice aA al ac) ∧ w'.cell? ⟨g0, o + k * 12 + 6, none⟩ = some (.int .i64 bk) ∧ w'.cell? ⟨g0, o + k * 12 + 7, none⟩ = some (.int .i64 bn) ∧ w'.cell? ⟨g0, o + k * 12 + 8, none⟩ = some (.string sb) ∧ w'.cell? ⟨g0, o + k * 12 + 9, none⟩ = some (.slice bA bl bc) ∧ w'.cell? ⟨g0, o + k * 12 + 10, none⟩ = some (.slice D dl dc) ∧ w'.cell? ⟨g0, o + k * 12 + 11, none⟩ = some (.slice E el ec) ∧ w'.cell? ⟨g1, o1 + k * 12, none⟩ = some (.int .i64 kd) ∧ w'.cell? ⟨g1, o1 + k * 12 + 1, none⟩ = some (.string nm) ∧ w'.cell? ⟨g1, o1 + k * 12 + 2, none⟩ = some (.int .i64 ak') ∧ w'.cell? ⟨g1, o1 + k * 12 + 3, none⟩ = some (.int .i64 an') ∧ w'.cell? ⟨g1, o1 + k * 12 + 4, none⟩ = some (.string sa') ∧ w'.cell? ⟨g1, o1 + k * 12 + 5, none⟩ = some (.slice aA' al' ac') ∧ w'.cell? ⟨g1, o1 + k * 12 + 6, none⟩ = some (.int .i64 bk') ∧ w'.cell? ⟨g1, o1 + k * 12 + 7, none⟩ = some (.int .i64 bn') ∧ w'.cell? ⟨g1, o1 + k * 12 + 8, none⟩ = some (.string sb') ∧ w'.cell? ⟨g1, o1 + k * 12 + 9, none⟩ = some (.slice bA' bl' bc') ∧ w'.cell? ⟨g1, o1 + k * 12 + 10, none⟩ = some (.slice D' dl' dc') ∧ w'.cell? ⟨g1, o1 + k * 12 + 11, none⟩ = some (.slice E' el' ec'))) hS1 ?_
      repeat (first | (refine settle_skip (fun _ => by rfl) ?_; (simp only [Act.put, List.setIfInBounds_toArray, List.set_cons_zero, List.set_cons_succ])) | (refine' settle_run (fun _ _ => Below.refl _ _) (fun _ => by rfl) ?_ ?_; rotate_left; (focus (intro ρ w hS hF; (try dsimp only at hS); go_split_ands; go_simp; try with_reducible rfl)); (simp only [Act.put, List.setIfInBounds_toArray, List.set_cons_zero, List.set_cons_succ])))
      (refine' settle_step (fun _ => by rfl) ?_ ?_; rotate_left; (focus (intro ρ w hS hF K hK; (simp only [Act.put, List.setIfInBounds_toArray, List.set_cons_zero, List.set_cons_succ] at hK); go_simp; go_at_call 24; refine (gS _ hS.1).mono ?_; rintro e w6 ⟨rfl, hb6⟩; have hS' := keepS _ (below_next hb6 hS.1); have hE' := hb6; exact hK _ hS' hE')); (simp only [Act.put, List.setIfInBounds_toArray, List.set_cons_zero, List.set_cons_succ]))
      repeat (first | (refine settle_skip (fun _ => by rfl) ?_; (simp only [Act.put, List.setIfInBounds_toArray, List.set_cons_zero, List.set_cons_succ])) | (refine' settle_run (fun _ _ => Below.refl _ _) (fun _ => by rfl) ?_ ?_; rotate_left; (focus (intro ρ w hS hF; (try dsimp only at hS); go_split_ands; go_simp; try with_reducible rfl)); (simp only [Act.put, List.setIfInBounds_toArray, List.set_cons_zero, List.set_cons_succ])))
      refine settle_nil ?_
      intro ρ w1 hS _
      have hb1 := hS.1
      clear hS hS1 keepS gS
      dsimp only
      go_wp2
      go_roundw
      case rel =>
        obtain ⟨h1, h2, h3, h4⟩ := HQ.out
        exact ⟨k + 1, rest, by omega, by go_num, by rw [show n - (k + 1) = n - k - 1 by omega]; exact h1, by rw [show n - (k + 1) = n - k - 1 by omega]; exact h2, below_next hb1 h4, h3⟩
      case measure => simp [intOf]; omega
    · have HK := Lib.hid (show k = n by omega)
      go_wp2
      go_ret
      exact ⟨rfl, hlow⟩
theorem sames_any (p : St.P) : SameSOK p := by
  suffices h : ∀ n, ∀ q : St.P, q.size ≤ n → SameSOK q from h _ p (Nat.le_refl _)
  intro n
  induction n with
  | zero => exact fun q hq => sames_step q fun r hr => by omega
  | succ n ih => exact fun q hq => sames_step q fun r hr => ih r (by omega)
theorem sames_call (p : St.P) (w : World) (v v' : Value) (h : IsZ w v p) (h' : IsZ w v' p) : Calls Tryd.prog 11 #[v, v'] w fun e w' => e = .returned (.bool true) ∧ Below w.heap.size w w' := by
  obtain ⟨A, n, c, rfl, h1, h2, h3⟩ := h
  obtain ⟨A', n', c', rfl, h1', h2', h3'⟩ := h'
  exact sames_any p w A A' n c n' c' h3 h1 h2 h3' h1' h2'
end Go.Proofs.YtdhjfckckghicaaDoor


namespace Go.Proofs.YtdhjfckckghicaaDoor
set_option linter.unusedVariables false
set_option linter.unusedSimpArgs false
set_option maxRecDepth 100000
open Go.RowKit

abbrev xzeros : List Value := xcells 0 0 ⟨#[]⟩ none 0 0
abbrev stzeros : List Value := stcells 0 ⟨#[]⟩ xzeros xzeros none 0 0 none 0 0
theorem xcells_one' (k n : Int) (s : ByteArray) (A : Option Addr) (len cap : Nat) : ∀ v ∈ xcells k n s A len cap, v.oneCell' = true := by
  intro v hv
  simp [xcells] at hv
  rcases hv with rfl | rfl | rfl | rfl <;> rfl
theorem stcells_one (k : Int) (nm : ByteArray) (ak an : Int) (sa : ByteArray) (aA : Option Addr) (al ac : Nat) (bk bn : Int) (sb : ByteArray) (bA : Option Addr) (bl bc : Nat) (D : Option Addr) (dl dc : Nat) (E : Option Addr) (el ec : Nat) : ∀ v ∈ stcells k nm (xcells ak an sa aA al ac) (xcells bk bn sb bA bl bc) D dl dc E el ec, v.oneCell' = true := by
  intro v hv
  simp [stcells, xcells] at hv
  rcases hv with rfl | rfl | rfl | rfl | rfl | rfl | rfl | rfl | rfl | rfl | rfl | rfl <;> rfl
theorem xbad {B : Nat} (w : World) : XR B w xzeros .bad := .bad 0 0 ⟨#[]⟩ none 0 0 (Nat.le_refl _) (Nat.zero_le _) (by decide) (by decide) (by omega)
theorem xnum {B : Nat} (w : World) (n : Int) (h : Ex.rng n) : XR B w (xcells 1 n ⟨#[]⟩ none 0 0) (.num n) := .num n ⟨#[]⟩ none 0 0 (Nat.le_refl _) (Nat.zero_le _) h

end Go.Proofs.YtdhjfckckghicaaDoor


namespace Go.Proofs.YtdhjfckckghicaaDoor
set_option linter.unusedVariables false
set_option linter.unusedSimpArgs false
set_option maxRecDepth 100000
open Go.RowKit

namespace Sr
open Ex St
def sc : P := .cons 1 (⟨#[120]⟩ : ByteArray).data.toList (.name (⟨#[121]⟩ : ByteArray).data.toList) .bad .nil .nil (.cons 3 (⟨#[]⟩ : ByteArray).data.toList (.name (⟨#[120]⟩ : ByteArray).data.toList) (.name (⟨#[122]⟩ : ByteArray).data.toList) .nil .nil .nil)
theorem vn_zero : vn 0 = [118, 48] := by
  unfold vn
  rw [Lib.decDigits]
  rfl
theorem sc_free : free sc = [⟨#[121]⟩, ⟨#[122]⟩] := by decide +kernel
theorem sc_labels : labels sc = 1 := by decide +kernel
theorem sc_rename : rename vn sc = .cons 1 [118, 48] (.name [121]) .bad .nil .nil (.cons 3 [] (.name [118, 48]) (.name [122]) .nil .nil .nil) := by
  unfold rename sc
  simp [rn, rnx, find, vn_zero]
end Sr

theorem isP_free {w : World} {v : Value} {p : St.P} (h : IsP w v p) (hs : p.size ≤ 274877906944) : Calls Tryd.prog 10 #[v] w fun e w' => ∃ v, e = .returned v ∧ w'.ownsRow w.heap.size 9 1 v (Sr.free p).length (strs (Sr.free p)) ∧ Below w.heap.size w w' := by
  obtain ⟨A, n, c, rfl, h1, h2, h3⟩ := h
  exact free_any p w w.heap.size n c A (Nat.le_refl _) h3 h1 h2 (by omega)
theorem isP_labels {w : World} {v : Value} {p : St.P} (h : IsP w v p) (hs : p.size ≤ 274877906944) : Calls Tryd.prog 13 #[v] w fun e w' => e = .returned (.int .i64 (St.labels p : Nat)) ∧ Below w.heap.size w w' := by
  obtain ⟨A, n, c, rfl, h1, h2, h3⟩ := h
  exact labels_any p w w.heap.size n c A (Nat.le_refl _) h3 h1 h2 (by omega)
theorem isP_rename {w : World} {v : Value} {p : St.P} {B : Nat} (h : IsP w v p) (hB : B ≤ w.heap.size) (hP : Pow B w) (hs : p.size ≤ 274877906944) : Calls Tryd.prog 9 #[v] w fun e w' => ∃ v, e = .returned v ∧ IsZ w' v (Sr.rename Sr.vn p) ∧ Below w.heap.size w w' := by
  obtain ⟨A, n, c, rfl, h1, h2, h3⟩ := h
  exact rename_any p w w.heap.size n c A (Nat.le_refl _) h3 h1 h2 (hP.up hB) (by omega)

theorem xz_name {B : Nat} {w : World} {k n : Int} {s : ByteArray} {A : Option Addr} {len cap : Nat} {t : Ex.Bs} (h : XZ B w (xcells k n s A len cap) (.name t)) : s = Ex.ba t := by
  rcases h with h | ⟨h, -⟩
  · have h1 := XN.head h
    simp [Ex.head] at h1
    exact h1.2.2.1
  · cases h

theorem equal_b (v v' : Value) (xs ys : List ByteArray) (b : Bool) (hb : (decide (xs = ys)) = b) (w : World) (h : SlV w 1 v xs.length (strs xs)) (h' : SlV w 1 v' ys.length (strs ys)) :
    Calls Tryd.prog 12 #[v, v'] w fun e w' => e = .returned (.bool b) ∧ ∃ m, w' = w.drewN m := by
  subst hb
  exact equal_strs v v' xs ys w h h'

set_option maxHeartbeats 4000000 in
theorem alive12_any (w : World) (B : Nat) (hB : B ≤ w.heap.size) (hP : Pow B w) : Calls Tryd.prog 8 #[] w fun e w' => e = .returned (.bool true) ∧ Below w.heap.size w w' := by
  have HP := Lib.hid (And.intro hB hP)
  clear hP hB
  go_enter Tryd.func8, Tryd.ntmps8
  go_wp2_with fail
  refine (nam_any ⟨#[121]⟩ _).mono ?_
  rintro e w1 ⟨rfl, hb1⟩
  unfold xcells
  go_wp2_with fail
  refine (nam_any ⟨#[120]⟩ _).mono ?_
  rintro e w2 ⟨rfl, hb2⟩
  unfold xcells
  replace hb2 := below_next hb2 hb1
  go_wp2_with fail
  refine (nam_any ⟨#[122]⟩ _).mono ?_
  rintro e w3 ⟨rfl, hb3⟩
  unfold xcells
  replace hb3 := below_next hb3 hb2
  clear hb1 hb2
  have hd0 : 0 ≤ 0 ∧ 0 ≤ maxLen ∧ 0 ≤ 0 ∧ 0 ≤ maxLen := ⟨Nat.le_refl _, Nat.zero_le _, Nat.le_refl _, Nat.zero_le _⟩
  have pc := (PC.one (w := w3) (B := w3.heap.size) (k := 1) (nm := ⟨#[120]⟩) (ca := xcells 2 0 ⟨#[121]⟩ none 0 0) (cb := xzeros) (D := none) (dl := 0) (dc := 0) (E := none) (el := 0) (ec := 0) hd0 (.name 0 ⟨#[121]⟩ none 0 0 (Nat.le_refl _) (Nat.zero_le _)) (xbad w3) (.nil _) (.nil _)).append
    (PC.one (w := w3) (B := w3.heap.size) (k := 3) (nm := ⟨#[]⟩) (ca := xcells 2 0 ⟨#[120]⟩ none 0 0) (cb := xcells 2 0 ⟨#[122]⟩ none 0 0) (D := none) (dl := 0) (dc := 0) (E := none) (el := 0) (ec := 0) hd0 (.name 0 ⟨#[120]⟩ none 0 0 (Nat.le_refl _) (Nat.zero_le _)) (.name 0 ⟨#[122]⟩ none 0 0 (Nat.le_refl _) (Nat.zero_le _)) (.nil _) (.nil _))
  have ip := IsP.lit pc (by decide)
  have ip : IsP _ _ Sr.sc := ip
  have hb4 := below_alloc hb3 (.cells (stcells 1 ⟨#[120]⟩ (xcells 2 0 ⟨#[121]⟩ none 0 0) xzeros none 0 0 none 0 0 ++ stcells 3 ⟨#[]⟩ (xcells 2 0 ⟨#[120]⟩ none 0 0) (xcells 2 0 ⟨#[122]⟩ none 0 0) none 0 0 none 0 0).toArray 36)
  simp only [xzeros, stcells, xcells, List.cons_append, List.nil_append] at ip hb4 ⊢
  clear pc hb3
  go_wp2_with fail
  generalize (w3.alloc (.cells #[.int .i64 1, .string ⟨#[120]⟩, .int .i64 2, .int .i64 0, .string ⟨#[121]⟩, .slice none 0 0, .int .i64 0, .int .i64 0, .string ⟨#[]⟩, .slice none 0 0, .slice none 0 0, .slice none 0 0, .int .i64 3, .string ⟨#[]⟩, .int .i64 2, .int .i64 0, .string ⟨#[120]⟩, .slice none 0 0, .int .i64 2, .int .i64 0, .string ⟨#[122]⟩, .slice none 0 0, .slice none 0 0, .slice none 0 0] 36)) = W4 at ip hb4 ⊢
  generalize hg0 : w3.heap.size = G at ip ⊢
  clear hg0
  refine (isP_rename ip (Nat.le_trans HP.out.1 hb4.size) (HP.out.2.later (hb4.mono HP.out.1)) (by decide)).mono ?_
  rintro e w5 ⟨vr, rfl, hr, hb5⟩
  rw [Sr.sc_rename] at hr
  replace ip := ip.step hb5
  have hfree := isP_free ip (by decide)
  rw [Sr.sc_free] at hfree
  have hb6 := below_next hb5 hb4
  have HR := Lib.hid hr
  obtain ⟨Ar, nr, cr, rfl, hn1, hn2, hz⟩ := hr
  obtain rfl : nr = 2 := hz.length
  clear hb4 hb5 hz
  go_wp2_with fail
  refine hfree.mono ?_
  rintro e w7 ⟨vf, rfl, hf, hb7⟩
  obtain ⟨Vf, cf, rfl, -, -⟩ := own_slice hf
  have hsl := (SlV.of_own hf).alloc (.cells #[.string ⟨#[121]⟩, .string ⟨#[122]⟩] 9)
  have hlit := SlV.lit w7 [.string ⟨#[121]⟩, .string ⟨#[122]⟩] 9 1 2 rfl (by decide)
  replace ip := ip.step hb7
  have hb8 := below_next hb7 hb6
  have HR2 := Lib.hid (HR.out.step hb7)
  clear hfree hf HR hb7 hb6
  go_wp2_with fail
  refine (equal_b _ _ [⟨#[121]⟩, ⟨#[122]⟩] [⟨#[121]⟩, ⟨#[122]⟩] true (by simp) _ hsl hlit).mono ?_
  rintro e w9 ⟨rfl, m, hw9⟩
  have hb9 : Below w.heap.size w w9 := by rw [hw9]; exact below_drewN (below_alloc hb8 _) m
  have hba : Below w7.heap.size w7 w9 := by rw [hw9]; exact below_drewN (below_alloc (Below.refl _ _) _) m
  have hlab := isP_labels (ip.step hba) (by decide)
  rw [Sr.sc_labels] at hlab
  have HR3 := Lib.hid (HR2.out.step hba)
  clear hsl hlit hw9 ip hb8 HR2 hba
  go_wp2_with fail
  refine hlab.mono ?_
  rintro e w10 ⟨rfl, hb10⟩
  have hE := below_next hb10 hb9
  obtain ⟨A', n', c', e', -, -, hz⟩ := HR3.out.step hb10
  injection e' with e1 e2 e3
  subst e1 e2 e3
  obtain ⟨g, o, rfl, h1⟩ : ∃ g o, Ar = some ⟨g, o, none⟩ ∧ ZR w10.heap.size w10 (some ⟨g, o + 0 * 12, none⟩) 2 _ := by
    obtain ⟨g, o, h1, h2⟩ := hz.place
    exact ⟨g, o, h1 (by decide), h2⟩
  obtain ⟨kd, nm, ak, an, bk, bn, sa, sb, aA, bA, al, ac, bl, bc, ea, eb, D, dl, dc, E, el, ec, body, els, rest, heq, -, -, hcell, -, -, -, -, hz2⟩ := h1.next (by decide)
  have q1 : ([118, 48] : Ex.Bs) = nm.data.toList := by injection heq
  have q7 : St.P.cons 3 [] (.name [118, 48]) (.name [122]) .nil .nil .nil = rest := by injection heq
  clear heq
  subst q7
  obtain ⟨kd', nm', ak', an', bk', bn', sa', sb', aA', bA', al', ac', bl', bc', ea', eb', D', dl', dc', E', el', ec', body', els', rest', heq', -, -, hcell', xa, xb, -, -, -⟩ := hz2.next (by decide)
  have q3 : Ex.X.name [118, 48] = ea' := by injection heq'
  have q4 : Ex.X.name [122] = eb' := by injection heq'
  clear heq'
  subst q3 q4
  have s1 : w10.cell? ⟨g, o + 1, none⟩ = some (.string ⟨#[118, 48]⟩) := by
    rw [show (⟨#[118, 48]⟩ : ByteArray) = nm by rw [← Ex.ba_data nm, ← q1]; rfl]
    exact hcell 1 _ rfl
  have s2 : w10.cell? ⟨g, o + 12 + 4, none⟩ = some (.string ⟨#[118, 48]⟩) := by
    rw [show (⟨#[118, 48]⟩ : ByteArray) = sa' by rw [xz_name xa]; rfl]
    exact hcell' 4 _ rfl
  have s3 : w10.cell? ⟨g, o + 12 + 8, none⟩ = some (.string ⟨#[122]⟩) := by
    rw [show (⟨#[122]⟩ : ByteArray) = sb' by rw [xz_name xb]; rfl]
    exact hcell' 8 _ rfl
  have HE := Lib.hid hE
  clear hcell hcell' xa xb q1 hz hz2 h1 hlab hb9 hb10 HR3 hE
  go_wp2_with fail
  go_ret
  exact ⟨rfl, HE.out⟩
end Go.Proofs.YtdhjfckckghicaaDoor


namespace Go.Proofs.YtdhjfckckghicaaDoor
set_option linter.unusedVariables false
set_option linter.unusedSimpArgs false
set_option maxRecDepth 100000
open Go.ChangeShapes Go.WideShapes Go.ChangeAt Go.RowKit

theorem open_arg_stmts {H : Type} {enc : TypeId × Value → H} {W : World} {base : Nat} {v : Value} {d : DataW H} {p : List MemPlace} (hv : Value.okWide Tryd.prog W .any base 22 v) (h : DataW.Trod enc Tryd.prog W 0 (fun _ => true) true 22 v d p) (hlt : ∀ x ∈ p, x.block < W.heap.size) :
    ∃ (A : Option Addr) (n c : Nat) (t : St.P), v = .slice A n c ∧ IsP W (.slice A n c) t ∧ t.size ≤ Rows.uptoBulk d := by
  obtain ⟨a, len, cap, rfl⟩ := okWide_slice Tryd.underlying22 hv
  obtain ⟨fuel, hf⟩ := h
  obtain ⟨A, n, c, t, e, h1, h2, h3, h4⟩ := open_stmts fuel (.slice a len cap) (d, p) (by simpa [Value.cells] using hf) hlt
  exact ⟨a, len, cap, t, rfl, ⟨A, n, c, e, h1, h2, h3⟩, h4⟩

end Go.Proofs.YtdhjfckckghicaaDoor


namespace Go.Proofs.YtdhjfckckghicaaDoor
set_option linter.unusedVariables false
set_option linter.unusedSimpArgs false
set_option maxRecDepth 100000
open Go.ChangeShapes Go.WideShapes Go.ChangeAt Go.RowKit
set_option linter.unusedVariables false

theorem gPow : Tryd.prog.globalNamed "internal/strconv.uint64pow10" = some 0 := by kernel_rfl
theorem gPowType : (Tryd.prog.globals[0]?).map (·.type) = some 111 := by kernel_rfl
theorem cellsPow : Tryd.prog.cellsOf 111 = 20 := by kernel_rfl
theorem cellsWord : Tryd.prog.cellsOf 105 = 1 := by kernel_rfl
abbrev laidAll : List (String × DataW Unit) := [("math/bits.deBruijn32tab", Rows.laid_math_bits_deBruijn32tab), ("math/bits.deBruijn64tab", Rows.laid_math_bits_deBruijn64tab), ("internal/strconv.uint64pow10", Rows.laid_internal_strconv_uint64pow10)]
theorem pow_of {W : World} (h : laidMetH Tryd.prog laidAll W) : Pow W.heap.size W := by
  have h1 := laidMetH.filter (fun x => x.1 == "internal/strconv.uint64pow10") h
  have e : (laidAll.filter fun x => x.1 == "internal/strconv.uint64pow10") = [("internal/strconv.uint64pow10", Lib.tabData .u64 Lib.pow10Tab)] := by kernel_rfl
  rw [e] at h1
  exact Lib.tabBelow_of_tabIs (Lib.tabIs_of_head (rest := []) gPow gPowType Tryd.underlying111 Tryd.underlying105 cellsWord cellsPow h1)
def datVals : DataW Unit → Array Value
  | .agg l => (l.map fun d => match d with | .lit (.int k z) => Value.int k z | _ => .int .i64 0).toArray
  | _ => #[]
def layIn (d : DataW Unit) : Obj → Obj
  | .cells _ t frozen => .cells (datVals d) t frozen
  | o => o
noncomputable def laidWorld (os : Os) : World :=
  { World.holding Tryd.prog os ⟨#[], #[], []⟩ with heap := (((World.holding Tryd.prog os ⟨#[], #[], []⟩).heap.modify 1 (layIn Rows.laid_math_bits_deBruijn32tab)).modify 2 (layIn Rows.laid_math_bits_deBruijn64tab)).modify 0 (layIn Rows.laid_internal_strconv_uint64pow10) }

theorem isP_arg {W : World} {A : Option Addr} {l c : Nat} {p : St.P} (h : IsP W (.slice A l c) p) : IsP W (.slice A l c) p := h
end Go.Proofs.YtdhjfckckghicaaDoor


namespace Go.Proofs.YtdhjfckckghicaaDoor
set_option linter.unusedVariables false
set_option linter.unusedSimpArgs false
set_option maxRecDepth 100000
open Go.RowKit

namespace Sr
open Ex St
theorem rnx_leaves (en : List (Bs × Bs)) : ∀ e : X, (rnx en e).leaves = e.leaves
  | .num _ => rfl
  | .name _ => rfl
  | .bad => rfl
  | .two _ a b => by rw [rnx, X.leaves, X.leaves, rnx_leaves en a, rnx_leaves en b]
theorem rn_size : ∀ (p : P) (en : List (Bs × Bs)) (m : Nat), (rn vn p en m).1.size ≤ p.size
  | .nil, _, _ => Nat.le_refl _
  | .cons k nm a b body els rest, en, m => by
    have h4 := a.leaves_pos
    have h5 := b.leaves_pos
    unfold rn
    split
    · have h3 := rn_size rest (en ++ [(nm, vn m)]) (m + 1)
      simp only [P.size, rnx_leaves, X.leaves] at *; omega
    split
    · have h3 := rn_size rest en m
      simp only [P.size, rnx_leaves] at *; omega
    split
    · have h1 := rn_size body en m
      have h3 := rn_size rest en (rn vn body en m).2
      simp only [P.size, X.leaves] at *; omega
    split
    · have h1 := rn_size body en m
      have h2 := rn_size els en (rn vn body en m).2
      have h3 := rn_size rest en (rn vn els en (rn vn body en m).2).2
      simp only [P.size, rnx_leaves, X.leaves] at *; omega
    split
    · have h1 := rn_size body (en ++ [(nm, vn m)]) (m + 1)
      have h3 := rn_size rest en (rn vn body (en ++ [(nm, vn m)]) (m + 1)).2
      simp only [P.size, rnx_leaves] at *; omega
    · have h3 := rn_size rest en m
      simp only [P.size, X.leaves] at *; omega
theorem rename_size (p : P) : (rename vn p).size ≤ p.size := rn_size p [] 0
end Sr
theorem strs_length' (l : List ByteArray) : (strs l).length = l.length := by simp [strs]

set_option maxHeartbeats 4000000 in
theorem scopeTwice_walk (w : World) (p : St.P) (v : Value) (hp : IsP w v p) (hs : p.size ≤ 274877906944) (hP : Pow w.heap.size w) :
    Calls Tryd.prog 3 #[v] w fun e w' => e = .returned (.bool true) ∧ Below w.heap.size w w' := by
  have hq := Nat.le_trans (Sr.rename_size p) hs
  have hal := alive12_any w w.heap.size (Nat.le_refl _) hP
  have HP := Lib.hid (And.intro hP (And.intro hq hs))
  obtain ⟨D, dl, dc, rfl, hd⟩ := id hp
  clear hP hq hd
  go_enter Tryd.func3, Tryd.ntmps3
  go_wp2_with fail
  refine hal.mono ?_
  rintro e w1 ⟨rfl, hb1⟩
  have hp1 := hp.step hb1
  clear hal hp
  go_wp2_with fail
  refine (isP_rename hp1 hb1.size (HP.out.1.later hb1) hs).mono ?_
  rintro e w2 ⟨vr, rfl, hr, hb2⟩
  replace hp1 := hp1.step hb2
  replace hb2 := below_next hb2 hb1
  have hfr := isP_free hp1 hs
  have HR := Lib.hid (And.intro hr hp1)
  obtain ⟨Ar, nr, cr, rfl, hr0⟩ := hr
  clear hb1 hp1 hr0
  go_wp2_with fail
  refine hfr.mono ?_
  rintro e w3 ⟨vf, rfl, hf, hb3⟩
  have hb3' := below_next hb3 hb2
  have HR3 := Lib.hid (And.intro (HR.out.1.step hb3) (HR.out.2.step hb3))
  obtain ⟨fs, hfs⟩ : ∃ fs, fs = Sr.free p := ⟨_, rfl⟩
  rw [← hfs] at hf
  have HFS := Lib.hid hfs
  obtain ⟨Vf, cf, rfl, hcf1, hcf2⟩ := own_slice hf
  unfold maxLen at hcf2
  clear hfr HR hfs hb3 hb2
  go_wp2_with fail
  go_loopw [13] (fun i wr => ∃ k : Nat, k ≤ fs.length ∧ i = .int .i64 (k : Int) ∧ (∃ m, wr = w3.drewN m) ∧ ∀ s ∈ fs.take k, Sr.vlike s = false) (fun i _ => fs.length - (intOf i).toNat)
  case atStart => exact ⟨0, Nat.zero_le _, rfl, ⟨0, rfl⟩, by simp⟩
  case round =>
    obtain ⟨k, hk, rfl, ⟨m, rfl⟩, hno⟩ := hrel
    by_cases hlk : k < fs.length
    · obtain ⟨x, hx⟩ : ∃ x, fs[k]? = some x := ⟨_, List.getElem?_eq_getElem hlk⟩
      obtain ⟨b, o, rfl, hbl, hcell⟩ := (Cells.of_own hf).str hx
      have htk : fs.take (k + 1) = fs.take k ++ [x] := by
        obtain ⟨h', rfl⟩ := List.getElem?_eq_some_iff.1 hx
        exact List.take_succ_eq_append_getElem h'
      have HX := Lib.hid (And.intro htk hno)
      have hbE := below_drewN hb3' m
      clear htk hno hx hf
      obtain ⟨⟨l⟩⟩ := x
      rcases l with _ | ⟨c, l⟩
      · have HV := Lib.hid (show Sr.vlike ⟨⟨[]⟩⟩ = false by rfl)
        go_wp2_with fail
        go_roundw
        case rel => exact ⟨k + 1, by omega, by go_num, ⟨m, rfl⟩, by
          rw [HX.out.1]
          intro s hs
          rcases List.mem_append.1 hs with h | h
          · exact HX.out.2 s h
          · rw [List.mem_singleton.1 h]; exact HV.out⟩
        case measure => simp [intOf]; omega
      · have hz : 0 < (⟨⟨c :: l⟩⟩ : ByteArray).size := Nat.succ_pos _
        have hcc : (⟨⟨c :: l⟩⟩ : ByteArray)[0]'hz = c := rfl
        rcases hc : ((((⟨⟨c :: l⟩⟩ : ByteArray)[0]'hz).toNat : Int) == 118) with _ | _
        · have HV := Lib.hid (show Sr.vlike ⟨⟨c :: l⟩⟩ = false by
            rw [hcc] at hc
            simp at hc
            simp [Sr.vlike]
            intro e
            subst e
            exact hc rfl)
          clear hcc
          go_wp2_with fail
          go_roundw
          case rel => exact ⟨k + 1, by omega, by go_num, ⟨m, rfl⟩, by
            rw [HX.out.1]
            intro s hs
            rcases List.mem_append.1 hs with h | h
            · exact HX.out.2 s h
            · rw [List.mem_singleton.1 h]; exact HV.out⟩
          case measure => simp [intOf]; omega
        · clear hcc
          go_wp2_with fail
          go_ret
          exact ⟨rfl, hbE⟩
    · obtain rfl : k = fs.length := by omega
      rw [List.take_length] at hno
      have hb4 := below_drewN hb3' m
      have hkd : Below w3.heap.size w3 (w3.drewN m) := below_drewN (Below.refl _ _) m
      have hr4 := HR3.out.1.step hkd
      have hp4 := HR3.out.2.step hkd
      have HN := Lib.hid hno
      have hre := isP_rename hr4.is hb4.size (HP.out.1.later hb4) HP.out.2.1
      rw [Sr.twice_law] at hre
      clear hf hno HR3 hb3' hkd
      generalize w3.drewN m = W at hr4 hp4 hb4 hre ⊢
      go_wp2_with fail
      refine hre.mono ?_
      rintro e w5 ⟨vq, rfl, hr5, hb5⟩
      have hr5' := hr4.step hb5
      replace hp4 := hp4.step hb5
      replace hb4 := below_next hb5 hb4
      have hsm := sames_call _ w5 _ _ hr5 hr5'
      obtain ⟨Aq, nq, cq, rfl, -⟩ := id hr5
      clear hre hr4 hr5 hb5
      go_wp2_with fail
      refine hsm.mono ?_
      rintro e w6 ⟨rfl, hb6⟩
      replace hr5' := hr5'.step hb6
      replace hp4 := hp4.step hb6
      replace hb4 := below_next hb6 hb4
      have hf1 := isP_free hr5'.is HP.out.2.1
      clear hsm hb6
      go_wp2_with fail
      refine hf1.mono ?_
      rintro e w7 ⟨v7, rfl, hv7, hb7⟩
      obtain ⟨V7, c7, rfl, -, -⟩ := own_slice hv7
      replace hr5' := hr5'.step hb7
      replace hp4 := hp4.step hb7
      replace hb4 := below_next hb7 hb4
      have hs7 := SlV.of_own hv7
      rw [Sr.free_law p (by rw [← HFS.out]; exact HN.out)] at hs7
      have hf2 := isP_free hp4 hs
      clear hf1 hb7 hv7
      go_wp2_with fail
      refine hf2.mono ?_
      rintro e w8 ⟨v8, rfl, hv8, hb8⟩
      obtain ⟨V8, c8, rfl, -, -⟩ := own_slice hv8
      replace hr5' := hr5'.step hb8
      replace hp4 := hp4.step hb8
      replace hb4 := below_next hb8 hb4
      have heq := equal_b _ _ (Sr.free p) (Sr.free p) true (by simp) w8 (hs7.below hb8) (SlV.of_own hv8)
      clear hf2 hb8 hs7 hv8
      rw [Sr.free_law p (by rw [← HFS.out]; exact HN.out)]
      go_wp2_with fail
      refine heq.mono ?_
      rintro e w9 ⟨rfl, m9, hw9⟩
      have hk9 : Below w8.heap.size w8 w9 := by rw [hw9]; exact below_drewN (Below.refl _ _) m9
      replace hr5' := hr5'.step hk9
      replace hp4 := hp4.step hk9
      replace hb4 := below_next hk9 hb4
      have hl1 := isP_labels hr5'.is HP.out.2.1
      rw [Sr.labels_law] at hl1
      clear heq hw9 hk9
      go_wp2_with fail
      refine hl1.mono ?_
      rintro e wa ⟨rfl, hba⟩
      replace hp4 := hp4.step hba
      replace hb4 := below_next hba hb4
      have hl2 := isP_labels hp4 hs
      clear hl1 hba hr5'
      go_wp2_with fail
      refine hl2.mono ?_
      rintro e wb ⟨rfl, hbb⟩
      replace hb4 := below_next hbb hb4
      clear hl2 hp4
      go_wp2_with fail
      go_ret
      exact ⟨rfl, hb4⟩
end Go.Proofs.YtdhjfckckghicaaDoor
