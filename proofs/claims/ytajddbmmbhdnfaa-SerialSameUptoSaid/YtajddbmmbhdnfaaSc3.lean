/-
  scope's walker: stmts, walked; scope.Free.
-/
import Derived.Test.YtajddbmmbhdnfaaSc2
import Derived.Test.YtajddbmmbhdnfaaFacts
namespace Go.Proofs.Ytajddbmmbhdnfaa
set_option linter.unusedVariables false
set_option linter.unusedSimpArgs false
set_option maxRecDepth 100000
open Go.RowKit

theorem fr_kinds (k : Int) : k = 1 ∨ k = 2 ∨ k = 3 ∨ k = 4 ∨ k = 5 ∨ k = 6 ∨ k = 7 ∨ ((k == 1) = false ∧ (k == 2) = false ∧ (k == 3) = false ∧ (k == 4) = false ∧ (k == 5) = false ∧ (k == 6) = false ∧ (k == 7) = false) := by
  by_cases h1 : k = 1; · exact .inl h1
  by_cases h2 : k = 2; · exact .inr (.inl h2)
  by_cases h3 : k = 3; · exact .inr (.inr (.inl h3))
  by_cases h4 : k = 4; · exact .inr (.inr (.inr (.inl h4)))
  by_cases h5 : k = 5; · exact .inr (.inr (.inr (.inr (.inl h5))))
  by_cases h6 : k = 6; · exact .inr (.inr (.inr (.inr (.inr (.inl h6)))))
  by_cases h7 : k = 7; · exact .inr (.inr (.inr (.inr (.inr (.inr (.inl h7))))))
  exact .inr (.inr (.inr (.inr (.inr (.inr (.inr (by simp [h1, h2, h3, h4, h5, h6, h7])))))))

/-- what is known of the statement that is looked at, while the walker turns -/
structure StBox (B Q : Nat) (W : World) (T : Nat → Prop) (kd : Int) (nm : ByteArray) (ak an : Int) (sa : ByteArray) (aA : Option Addr) (al ac : Nat) (bk bn : Int) (sb : ByteArray) (bA : Option Addr) (bl bc : Nat) (D : Option Addr) (dl dc : Nat) (E : Option Addr) (el ec : Nat) (ea eb : Ex.X) (body els : St.P) : Prop where
  cells : ∀ w', Keeps T W w' → w'.cell? ⟨Q, 0, none⟩ = some (.int .i64 kd) ∧ w'.cell? ⟨Q, 1, none⟩ = some (.string nm) ∧
    w'.cell? ⟨Q, 2, none⟩ = some (.int .i64 ak) ∧ w'.cell? ⟨Q, 3, none⟩ = some (.int .i64 an) ∧ w'.cell? ⟨Q, 4, none⟩ = some (.string sa) ∧ w'.cell? ⟨Q, 5, none⟩ = some (.slice aA al ac) ∧
    w'.cell? ⟨Q, 6, none⟩ = some (.int .i64 bk) ∧ w'.cell? ⟨Q, 7, none⟩ = some (.int .i64 bn) ∧ w'.cell? ⟨Q, 8, none⟩ = some (.string sb) ∧ w'.cell? ⟨Q, 9, none⟩ = some (.slice bA bl bc) ∧
    w'.cell? ⟨Q, 10, none⟩ = some (.slice D dl dc) ∧ w'.cell? ⟨Q, 11, none⟩ = some (.slice E el ec)
  read : ∀ w', Keeps T W w' → XR B w' (xcells ak an sa aA al ac) ea ∧ XR B w' (xcells bk bn sb bA bl bc) eb ∧ PR B w' D dl body ∧ PR B w' E el els
theorem StBox.of {B Q : Nat} {w W : World} {T : Nat → Prop} {kd : Int} {nm : ByteArray} {ak an : Int} {sa : ByteArray} {aA : Option Addr} {al ac : Nat} {bk bn : Int} {sb : ByteArray} {bA : Option Addr} {bl bc : Nat} {D : Option Addr} {dl dc : Nat} {E : Option Addr} {el ec : Nat} {ea eb : Ex.X} {body els : St.P} {t : TypeId}
    (hb : Below w.heap.size w W) (hB : B ≤ w.heap.size) (hT : ∀ i, T i → B ≤ i) (hQ : ¬ T Q) (p : Blk W Q t [.int .i64 kd, .string nm, .int .i64 ak, .int .i64 an, .string sa, .slice aA al ac, .int .i64 bk, .int .i64 bn, .string sb, .slice bA bl bc, .slice D dl dc, .slice E el ec])
    (xa : XR B w (xcells ak an sa aA al ac) ea) (xb : XR B w (xcells bk bn sb bA bl bc) eb) (pb : PR B w D dl body) (pe : PR B w E el els) : StBox B Q W T kd nm ak an sa aA al ac bk bn sb bA bl bc D dl dc E el ec ea eb body els := by
  refine ⟨fun w' k => ?_, fun w' k => ?_⟩
  · have p' := p.keeps k hQ
    exact ⟨(p'.cell 0).trans rfl, (p'.cell 1).trans rfl, (p'.cell 2).trans rfl, (p'.cell 3).trans rfl, (p'.cell 4).trans rfl, (p'.cell 5).trans rfl, (p'.cell 6).trans rfl, (p'.cell 7).trans rfl, (p'.cell 8).trans rfl, (p'.cell 9).trans rfl, (p'.cell 10).trans rfl, (p'.cell 11).trans rfl⟩
  · have hk : Below B w w' := (hb.mono hB).trans (k.below (Nat.le_trans hB hb.size) hT)
    exact ⟨xa.later hk, xb.later hk, pb.later hk, pe.later hk⟩

theorem PR.tail {B n k g o : Nat} {w : World} {kd : Int} {nm : List UInt8} {ea eb : Ex.X} {body els rest : St.P} (h : PR B w (some ⟨g, o + k * 12, none⟩) n (.cons kd nm ea eb body els rest)) (hn : 0 < n) : PR B w (some ⟨g, o + (k + 1) * 12, none⟩) (n - 1) rest := by
  obtain ⟨_, _, _, _, _, _, _, _, _, _, _, _, _, _, _, _, _, _, _, _, _, _, body', els', rest', e1, -, -, -, -, -, -, -, pr0⟩ := h.next hn
  injection e1 with _ _ _ _ _ _ e1
  subst e1
  exact pr0


set_option maxHeartbeats 8000000 in
theorem stmts_step (p : St.P) (ih : ∀ q : St.P, q.size < p.size → StmtsOK q) : StmtsOK p := by
  intro w B n c g A vb vf bd fs hp hnc hcm hO hsb hsf
  obtain ⟨g0, o, hA, hpl⟩ := hp.place
  have hn63 : n ≤ 9223372036854775807 := by unfold maxLen at hcm; omega
  have hP0 : ∀ w' (A' : Option Addr) (m : Nat) (q : St.P), Keeps (WkT g vb bd vf fs) w w' → PR B w A' m q → PR B w' A' m q := fun w' A' m q k h => h.later (hO.below k)
  have HP0 := Lib.hid (And.intro hP0 hO)
  clear hP0 hp
  go_enter Try.func51, Try.ntmps51
  go_wp2
  go_loopw [8] (fun i wr => ∃ (k : Nat) (q : St.P) (vb' vf' : Value) (bd' fs' : List ByteArray), k ≤ n ∧ i = .int .i64 (k : Int) ∧ PR B w (some ⟨g0, o + k * 12, none⟩) (n - k) q ∧ WkTo B w (WkT g vb bd vf fs) wr g vb' bd' vf' fs' ∧ Sr.bda q bd' = Sr.bda p bd ∧ Sr.fr q bd' fs' = Sr.fr p bd fs ∧ q.size ≤ p.size ∧ bd'.length + q.size ≤ bd.length + p.size ∧ fs'.length + q.size ≤ fs.length + p.size) (fun i _ => n - (intOf i).toNat)
  case atStart => exact ⟨0, p, vb, vf, bd, fs, Nat.zero_le _, rfl, hpl, OwnTo.start hO, rfl, rfl, Nat.le_refl _, Nat.le_refl _, Nat.le_refl _⟩
  case round =>
    clear hO hpl
    obtain ⟨k, q, vb', vf', bd', fs', hk, rfl, hq0, hW, hbda, hfr, hqs, hqb, hqf⟩ := hrel
    have hq := HP0.out.1 wr _ _ _ hW.kp hq0
    by_cases hlt : k < n
    · obtain ⟨kd, nm, ak, an, bk, bn, sa, sb, aA, bA, al, ac, bl, bc, ea, eb, D, dl, dc, E, el, ec, body, els, rest, rfl, hg, ⟨hd1, hd2, he1, he2⟩, hcell, xa, xb, pb, pe, pr⟩ := hq.next (by omega)
      have pr0 := hq0.tail (by omega)
      have hAA := hA (by omega)
      subst hAA
      have hPR := Lib.hid pr0
      have c0 : wr.cell? ⟨g0, o + k * 12, none⟩ = some (.int .i64 kd) := hcell 0 _ rfl
      have c1 := hcell 1 _ rfl
      have c2 := hcell 2 _ rfl
      have c3 := hcell 3 _ rfl
      have c4 := hcell 4 _ rfl
      have c5 := hcell 5 _ rfl
      have c6 := hcell 6 _ rfl
      have c7 := hcell 7 _ rfl
      have c8 := hcell 8 _ rfl
      have c9 := hcell 9 _ rfl
      have c10 := hcell 10 _ rfl
      have c11 := hcell 11 _ rfl
      have hBr : B ≤ wr.heap.size := hW.own.base
      have hs : body.size < p.size ∧ els.size < p.size ∧ rest.size ≤ p.size := by rw [St.P.size] at hqs; omega
      have hz : ea.leaves + eb.leaves + body.size + els.size + rest.size + 1 ≤ 549755813888 := by rw [St.P.size] at hqs; omega
      have hzf : fs'.length + (1 + ea.leaves + eb.leaves + body.size + els.size + rest.size) ≤ 549755813888 := by rw [St.P.size] at hqf; omega
      have hzb : bd'.length + (1 + ea.leaves + eb.leaves + body.size + els.size + rest.size) ≤ 549755813888 := by rw [St.P.size] at hqb; omega
      obtain ⟨Q, hQq⟩ : ∃ Q, Q = wr.heap.size := ⟨_, rfl⟩
      have hbA : Below wr.heap.size wr (wr.alloc (.cells (stcells kd nm (xcells ak an sa aA al ac) (xcells bk bn sb bA bl bc) D dl dc E el ec).toArray 66)) := below_alloc (Below.refl _ _) _
      have hX : StBox B Q (wr.alloc (.cells (stcells kd nm (xcells ak an sa aA al ac) (xcells bk bn sb bA bl bc) D dl dc E el ec).toArray 66)) (WkT g vb' bd' vf' fs') kd nm ak an sa aA al ac bk bn sb bA bl bc D dl dc E el ec ea eb body els := by
        refine StBox.of (t := 66) hbA hBr (fun i hi => hW.own.ge hi) (fun h => by have := hW.own.lt h; omega) ?_ xa xb pb pe
        rw [hQq]
        exact Blk.new _ _ _
      have T0 : WkTo B (wr.alloc (.cells (stcells kd nm (xcells ak an sa aA al ac) (xcells bk bn sb bA bl bc) D dl dc E el ec).toArray 66)) (WkT g vb' bd' vf' fs') (wr.alloc (.cells (stcells kd nm (xcells ak an sa aA al ac) (xcells bk bn sb bA bl bc) D dl dc E el ec).toArray 66)) g vb' bd' vf' fs' := OwnTo.start (hW.own.later hbA)
      have hQQ := Lib.hid hQq
      have HQ := Lib.hid (And.intro hbda (And.intro hfr (And.intro hs (And.intro hqs (And.intro hqb (And.intro hqf (And.intro hz (And.intro hzf hzb))))))))
      have HW := Lib.hid hW
      clear hQq hcell hq hq0 hbda hfr hs hqs hqb hqf hz hzf hzb hW xa xb pb pe pr pr0
      unfold stcells xcells at hbA hX T0
      have hWs := hbA.size
      simp only [List.cons_append, List.nil_append] at hbA hX T0 hWs
      rcases fr_kinds kd with rfl | rfl | rfl | rfl | rfl | rfl | rfl | ⟨k1, k2, k3, k4, k5, k6, k7⟩
      · go_wp2_with fail
        generalize (wr.alloc (.cells #[.int .i64 1, .string nm, .int .i64 ak, .int .i64 an, .string sa, .slice aA al ac, .int .i64 bk, .int .i64 bn, .string sb, .slice bA bl bc, .slice D dl dc, .slice E el ec] 66)) = W0 at hbA hX T0 hWs ⊢
        rw [← hQQ.out]
        clear c0 c1 c2 c3 c4 c5 c6 c7 c8 c9 c10 c11
        obtain ⟨c0, c1, c2, c3, c4, c5, c6, c7, c8, c9, c10, c11⟩ := hX.cells _ T0.kp
        obtain ⟨xa, xb, pb, pe⟩ := hX.read _ T0.kp
        refine (uses_any ea B _ g _ _ _ _ _ T0.own xa (by have := HQ.out; omega) (by have := HQ.out; omega)).mono ?_
        rintro r w1 ⟨rfl, vbw1, vfw1, hw1⟩
        have Tw1 := T0.step hw1
        have Uw1 := Sr.use_length bd' fs' ea
        clear hw1
        clear c0 c1 c2 c3 c4 c5 c6 c7 c8 c9 c10 c11 xa xb pb pe
        have r1 : w1.ownsRow B 9 1 vbw1 bd'.length (strs bd') := Tw1.own.row 0 rfl
        obtain ⟨VB, cb, rfl, -, -⟩ := own_slice r1
        have hR : ∀ w', Below w1.heap.size w1 w' → w'.ownsRow B 9 1 (.slice VB bd'.length cb) bd'.length (strs bd') ∧ B ≤ w'.heap.size := fun w' hb => ⟨(Tw1.own.later hb).row 0 rfl, (Tw1.own.later hb).base⟩
        have keepS : ∀ w', Keeps (fun k => (Value.slice VB bd'.length cb).ownBlock = some k) w1 w' → Keeps (fun k => (Value.slice VB bd'.length cb).ownBlock = some k) w1 w' ∧ w'.cell? ⟨g, 0, none⟩ = some (.slice VB bd'.length cb) ∧ w'.cell? ⟨Q, 1, none⟩ = some (.string nm) := fun w' k => by
          have k2 : Keeps (WkT g vb' bd' vf' fs') W0 w' := Tw1.kp.step k (fun i hi e => (Tw1.nw i (.inr ⟨_, List.mem_cons_self, e⟩)).resolve_right (by omega))
          exact ⟨k, ((Tw1.own.blk.keeps k (Tw1.own.ng _ List.mem_cons_self)).cell 0).trans rfl, (hX.cells _ k2).2.1⟩
        have hS1 := keepS _ ((Keeps.refl _ w1).drewN 1)
        have hn63 : bd'.length + 1 ≤ maxLen := by have := HQ.out; unfold maxLen; omega
        have hn47 : (bd'.length + 1) * 16 ≤ 140737488355328 := by have := HQ.out; omega
        have HT := Lib.hid Tw1
        clear Tw1 r1 hX T0 hWs
        go_wp2_with fail
        refine wp_walk_mt 11 (fun i => ([8] : List Nat).contains i) (fun i => ([0,9,10] : List Nat).contains i) [8] (by intro m h; simpa using h) (by kernel_rfl) (by kernel_rfl) (by kernel_rfl) (fun w w' => Below w.heap.size w w') (fun w' => Keeps (fun k => (Value.slice VB bd'.length cb).ownBlock = some k) w1 w' ∧ w'.cell? ⟨g, 0, none⟩ = some (.slice VB bd'.length cb) ∧ w'.cell? ⟨Q, 1, none⟩ = some (.string nm)) (fun w' => Below w1.heap.size w1 w') hS1 (below_drew (Below.refl _ _)) (fun _ _ h h' => below_next h' h) ?_
        simp only [List.length_cons, List.length_nil, Nat.reduceAdd, Nat.reduceSub, List.take_succ_cons, List.take_zero, List.drop_succ_cons, List.drop_zero]
        repeat (first | (refine nsettle_skip (by rfl) (fun _ => by rfl) ?_; (simp only [Act.put, List.setIfInBounds_toArray, List.set_cons_zero, List.set_cons_succ])) | (refine' nsettle_run (by rfl) (fun _ _ => Below.refl _ _) (fun _ => by rfl) ?_ ?_; rotate_left; (focus (intro ρ w hS hF hP; (try dsimp only at hS); go_split_ands; go_simp; try with_reducible rfl)); (simp only [Act.put, List.setIfInBounds_toArray, List.set_cons_zero, List.set_cons_succ])))
        (refine nsettle_known (FSl 1 1 [.string nm]) (by rfl) (by rfl) (by rfl) (fun _ => by rfl)  ?_ ?_; (focus (intro ρ w hS hF hP K hK; (simp only [Act.put, List.setIfInBounds_toArray, List.set_cons_zero, List.set_cons_succ] at hK); go_simp; exact hK _ _ (SlV.lit w [.string nm] 9 1 1 rfl (by decide)) (keepS _ (hS.1.alloc _)) (below_alloc (Below.refl _ _) _))); (simp only [Act.put, List.setIfInBounds_toArray, List.set_cons_zero, List.set_cons_succ]))
        (refine nsettle_mark (FPush w1 B 9 1 (.slice VB bd'.length cb) (bd'.length + 1) (strs bd' ++ [.string nm])) (by rfl) (by rfl) (by rfl) (fun _ => by rfl) ?_ ?_; (focus (intro ρ w hS hF hP K hK; refine oper_append (.tmp 25) (.tmp 28) B _ _ _ _ _ Try.underlying116 info_str rfl (by decide) (hR w (hP (by rfl))).1 (hF.1 (by rfl)) (strs_one [nm]) hn63 hn47 (hR w (hP (by rfl))).2 rfl rfl rfl ?_; intro v' w' hown hg hv _; exact hK v' w' ⟨w, hP (by rfl), hg, hown, hv.imp id fun e => ⟨_, Nat.le_refl _, e⟩⟩ (keepS _ (hS.1.trans ((Keeps.of_grown hg).mono fun i hi => hi.symm))))); (simp only [Act.put, List.setIfInBounds_toArray, List.set_cons_zero, List.set_cons_succ]))
        repeat (first | (refine nsettle_skip (by rfl) (fun _ => by rfl) ?_; (simp only [Act.put, List.setIfInBounds_toArray, List.set_cons_zero, List.set_cons_succ])) | (refine' nsettle_run (by rfl) (fun _ _ => Below.refl _ _) (fun _ => by rfl) ?_ ?_; rotate_left; (focus (intro ρ w hS hF hP; (try dsimp only at hS); go_split_ands; go_simp; try with_reducible rfl)); (simp only [Act.put, List.setIfInBounds_toArray, List.set_cons_zero, List.set_cons_succ])))
        refine nsettle_nil ?_
        intro ρ w4 hS hF
        obtain ⟨wa, ha1, ha2, ha3, ha4⟩ := hF 29 (FPush w1 B 9 1 (.slice VB bd'.length cb) (bd'.length + 1) (strs bd' ++ [.string nm])) (by repeat (first | exact List.mem_cons_self | apply List.mem_cons_of_mem))
        clear hF hS hS1 keepS hR
        dsimp only
        generalize ρ 29 = v4 at ha3 ha4 ⊢
        have hB4 := ((HT.out.own.later ha1).put (i := 0) (r := strRw (.slice VB bd'.length cb) bd') rfl (n' := (bd' ++ [nm]).length) (xs' := strs (bd' ++ [nm])) (by simpa [strs, strRw] using ha3) ha2 ha4).1
        have hend : ∀ w5, Blk w5 g 127 [v4, vfw1] → w4.grownBy w5 (some g) → WkTo B W0 (WkT g vb' bd' vf' fs') w5 g v4 (bd' ++ [nm]) vfw1 (Sr.use bd' fs' ea) := fun w5 b5 g5 =>
          (HT.out.later ha1).step ((HT.out.own.later ha1).put_to (i := 0) (r := strRw (.slice VB bd'.length cb) bd') rfl (n' := (bd' ++ [nm]).length) (xs' := strs (bd' ++ [nm])) (by simpa [strs, strRw] using ha3) ha2 ha4 b5 g5)
        obtain ⟨V4, c4, rfl, -, -⟩ := own_slice ha3
        clear ha1 ha2 ha3 ha4
        go_wp2_with (first | (refine wpl_set_blk hB4 0 _ (by kernel_rfl) (by simp) rfl rfl rfl rfl rfl rfl ?_; intro w5 hB5 hg5; have Tw5 := hend w5 hB5 hg5; clear hB4 hB5 hg5 hend) | fail)
        have TE := (HW.out.later hbA).step Tw5
        have HE := Lib.hid TE
        clear TE Tw5 hbA
        try go_wp2_with fail
        go_roundw
        case rel => exact ⟨k + 1, rest, _, _, _, _, by omega, by go_num, by rw [show n - (k + 1) = n - k - 1 by omega]; exact hPR.out, HE.out, by rw [← HQ.out.1]; simp [Sr.bda, Ex.ba_data], by rw [← HQ.out.2.1]; simp [Sr.fr, Ex.ba_data], by have := HQ.out; omega, by have := HQ.out.2.2.2.2.1; rw [St.P.size] at this; first | omega | (simp only [List.length_append, List.length_singleton]; omega), by have := HQ.out.2.2.2.2.2.1; rw [St.P.size] at this; omega⟩
        case measure => simp [intOf]; omega
      · go_wp2_with fail
        generalize (wr.alloc (.cells #[.int .i64 2, .string nm, .int .i64 ak, .int .i64 an, .string sa, .slice aA al ac, .int .i64 bk, .int .i64 bn, .string sb, .slice bA bl bc, .slice D dl dc, .slice E el ec] 66)) = W0 at hbA hX T0 hWs ⊢
        rw [← hQQ.out]
        clear c0 c1 c2 c3 c4 c5 c6 c7 c8 c9 c10 c11
        obtain ⟨c0, c1, c2, c3, c4, c5, c6, c7, c8, c9, c10, c11⟩ := hX.cells _ T0.kp
        obtain ⟨xa, xb, pb, pe⟩ := hX.read _ T0.kp
        refine (uses_any ea B _ g _ _ _ _ _ T0.own xa (by have := HQ.out; omega) (by have := HQ.out; omega)).mono ?_
        rintro r w1 ⟨rfl, vbw1, vfw1, hw1⟩
        have Tw1 := T0.step hw1
        have Uw1 := Sr.use_length bd' fs' ea
        clear hw1
        clear c0 c1 c2 c3 c4 c5 c6 c7 c8 c9 c10 c11 xa xb pb pe
        have r1 : w1.ownsRow B 9 1 vbw1 bd'.length (strs bd') := Tw1.own.row 0 rfl
        obtain ⟨VB, cb, rfl, -, -⟩ := own_slice r1
        have hR : ∀ w', Below w1.heap.size w1 w' → w'.ownsRow B 9 1 (.slice VB bd'.length cb) bd'.length (strs bd') ∧ B ≤ w'.heap.size := fun w' hb => ⟨(Tw1.own.later hb).row 0 rfl, (Tw1.own.later hb).base⟩
        have keepS : ∀ w', Keeps (fun k => (Value.slice VB bd'.length cb).ownBlock = some k) w1 w' → Keeps (fun k => (Value.slice VB bd'.length cb).ownBlock = some k) w1 w' ∧ w'.cell? ⟨g, 0, none⟩ = some (.slice VB bd'.length cb) ∧ w'.cell? ⟨Q, 1, none⟩ = some (.string nm) := fun w' k => by
          have k2 : Keeps (WkT g vb' bd' vf' fs') W0 w' := Tw1.kp.step k (fun i hi e => (Tw1.nw i (.inr ⟨_, List.mem_cons_self, e⟩)).resolve_right (by omega))
          exact ⟨k, ((Tw1.own.blk.keeps k (Tw1.own.ng _ List.mem_cons_self)).cell 0).trans rfl, (hX.cells _ k2).2.1⟩
        have hS1 := keepS _ ((Keeps.refl _ w1).drewN 1)
        have hn63 : bd'.length + 1 ≤ maxLen := by have := HQ.out; unfold maxLen; omega
        have hn47 : (bd'.length + 1) * 16 ≤ 140737488355328 := by have := HQ.out; omega
        have HT := Lib.hid Tw1
        clear Tw1 r1 hX T0 hWs
        go_wp2_with fail
        refine wp_walk_mt 11 (fun i => ([8] : List Nat).contains i) (fun i => ([0,9,10] : List Nat).contains i) [8] (by intro m h; simpa using h) (by kernel_rfl) (by kernel_rfl) (by kernel_rfl) (fun w w' => Below w.heap.size w w') (fun w' => Keeps (fun k => (Value.slice VB bd'.length cb).ownBlock = some k) w1 w' ∧ w'.cell? ⟨g, 0, none⟩ = some (.slice VB bd'.length cb) ∧ w'.cell? ⟨Q, 1, none⟩ = some (.string nm)) (fun w' => Below w1.heap.size w1 w') hS1 (below_drew (Below.refl _ _)) (fun _ _ h h' => below_next h' h) ?_
        simp only [List.length_cons, List.length_nil, Nat.reduceAdd, Nat.reduceSub, List.take_succ_cons, List.take_zero, List.drop_succ_cons, List.drop_zero]
        repeat (first | (refine nsettle_skip (by rfl) (fun _ => by rfl) ?_; (simp only [Act.put, List.setIfInBounds_toArray, List.set_cons_zero, List.set_cons_succ])) | (refine' nsettle_run (by rfl) (fun _ _ => Below.refl _ _) (fun _ => by rfl) ?_ ?_; rotate_left; (focus (intro ρ w hS hF hP; (try dsimp only at hS); go_split_ands; go_simp; try with_reducible rfl)); (simp only [Act.put, List.setIfInBounds_toArray, List.set_cons_zero, List.set_cons_succ])))
        (refine nsettle_known (FSl 1 1 [.string nm]) (by rfl) (by rfl) (by rfl) (fun _ => by rfl)  ?_ ?_; (focus (intro ρ w hS hF hP K hK; (simp only [Act.put, List.setIfInBounds_toArray, List.set_cons_zero, List.set_cons_succ] at hK); go_simp; exact hK _ _ (SlV.lit w [.string nm] 9 1 1 rfl (by decide)) (keepS _ (hS.1.alloc _)) (below_alloc (Below.refl _ _) _))); (simp only [Act.put, List.setIfInBounds_toArray, List.set_cons_zero, List.set_cons_succ]))
        (refine nsettle_mark (FPush w1 B 9 1 (.slice VB bd'.length cb) (bd'.length + 1) (strs bd' ++ [.string nm])) (by rfl) (by rfl) (by rfl) (fun _ => by rfl) ?_ ?_; (focus (intro ρ w hS hF hP K hK; refine oper_append (.tmp 25) (.tmp 28) B _ _ _ _ _ Try.underlying116 info_str rfl (by decide) (hR w (hP (by rfl))).1 (hF.1 (by rfl)) (strs_one [nm]) hn63 hn47 (hR w (hP (by rfl))).2 rfl rfl rfl ?_; intro v' w' hown hg hv _; exact hK v' w' ⟨w, hP (by rfl), hg, hown, hv.imp id fun e => ⟨_, Nat.le_refl _, e⟩⟩ (keepS _ (hS.1.trans ((Keeps.of_grown hg).mono fun i hi => hi.symm))))); (simp only [Act.put, List.setIfInBounds_toArray, List.set_cons_zero, List.set_cons_succ]))
        repeat (first | (refine nsettle_skip (by rfl) (fun _ => by rfl) ?_; (simp only [Act.put, List.setIfInBounds_toArray, List.set_cons_zero, List.set_cons_succ])) | (refine' nsettle_run (by rfl) (fun _ _ => Below.refl _ _) (fun _ => by rfl) ?_ ?_; rotate_left; (focus (intro ρ w hS hF hP; (try dsimp only at hS); go_split_ands; go_simp; try with_reducible rfl)); (simp only [Act.put, List.setIfInBounds_toArray, List.set_cons_zero, List.set_cons_succ])))
        refine nsettle_nil ?_
        intro ρ w4 hS hF
        obtain ⟨wa, ha1, ha2, ha3, ha4⟩ := hF 29 (FPush w1 B 9 1 (.slice VB bd'.length cb) (bd'.length + 1) (strs bd' ++ [.string nm])) (by repeat (first | exact List.mem_cons_self | apply List.mem_cons_of_mem))
        clear hF hS hS1 keepS hR
        dsimp only
        generalize ρ 29 = v4 at ha3 ha4 ⊢
        have hB4 := ((HT.out.own.later ha1).put (i := 0) (r := strRw (.slice VB bd'.length cb) bd') rfl (n' := (bd' ++ [nm]).length) (xs' := strs (bd' ++ [nm])) (by simpa [strs, strRw] using ha3) ha2 ha4).1
        have hend : ∀ w5, Blk w5 g 127 [v4, vfw1] → w4.grownBy w5 (some g) → WkTo B W0 (WkT g vb' bd' vf' fs') w5 g v4 (bd' ++ [nm]) vfw1 (Sr.use bd' fs' ea) := fun w5 b5 g5 =>
          (HT.out.later ha1).step ((HT.out.own.later ha1).put_to (i := 0) (r := strRw (.slice VB bd'.length cb) bd') rfl (n' := (bd' ++ [nm]).length) (xs' := strs (bd' ++ [nm])) (by simpa [strs, strRw] using ha3) ha2 ha4 b5 g5)
        obtain ⟨V4, c4, rfl, -, -⟩ := own_slice ha3
        clear ha1 ha2 ha3 ha4
        go_wp2_with (first | (refine wpl_set_blk hB4 0 _ (by kernel_rfl) (by simp) rfl rfl rfl rfl rfl rfl ?_; intro w5 hB5 hg5; have Tw5 := hend w5 hB5 hg5; clear hB4 hB5 hg5 hend) | fail)
        have TE := (HW.out.later hbA).step Tw5
        have HE := Lib.hid TE
        clear TE Tw5 hbA
        try go_wp2_with fail
        go_roundw
        case rel => exact ⟨k + 1, rest, _, _, _, _, by omega, by go_num, by rw [show n - (k + 1) = n - k - 1 by omega]; exact hPR.out, HE.out, by rw [← HQ.out.1]; simp [Sr.bda, Ex.ba_data], by rw [← HQ.out.2.1]; simp [Sr.fr, Ex.ba_data], by have := HQ.out; omega, by have := HQ.out.2.2.2.2.1; rw [St.P.size] at this; first | omega | (simp only [List.length_append, List.length_singleton]; omega), by have := HQ.out.2.2.2.2.2.1; rw [St.P.size] at this; omega⟩
        case measure => simp [intOf]; omega
      · go_wp2_with fail
        generalize (wr.alloc (.cells #[.int .i64 3, .string nm, .int .i64 ak, .int .i64 an, .string sa, .slice aA al ac, .int .i64 bk, .int .i64 bn, .string sb, .slice bA bl bc, .slice D dl dc, .slice E el ec] 66)) = W0 at hbA hX T0 hWs ⊢
        rw [← hQQ.out]
        clear c0 c1 c2 c3 c4 c5 c6 c7 c8 c9 c10 c11
        obtain ⟨c0, c1, c2, c3, c4, c5, c6, c7, c8, c9, c10, c11⟩ := hX.cells _ T0.kp
        obtain ⟨xa, xb, pb, pe⟩ := hX.read _ T0.kp
        refine (uses_any ea B _ g _ _ _ _ _ T0.own xa (by have := HQ.out; omega) (by have := HQ.out; omega)).mono ?_
        rintro r w1 ⟨rfl, vbw1, vfw1, hw1⟩
        have Tw1 := T0.step hw1
        have Uw1 := Sr.use_length bd' fs' ea
        clear hw1
        obtain ⟨c0, c1, c2, c3, c4, c5, c6, c7, c8, c9, c10, c11⟩ := hX.cells _ Tw1.kp
        obtain ⟨xa, xb, pb, pe⟩ := hX.read _ Tw1.kp
        clear T0 hWs
        go_wp2_with fail
        refine (uses_any eb B _ g _ _ _ _ _ Tw1.own xb (by have := HQ.out; omega) (by have := HQ.out; omega)).mono ?_
        rintro r w2 ⟨rfl, vbw2, vfw2, hw2⟩
        have Tw2 := Tw1.step hw2
        have Uw2 := Sr.use_length bd' (Sr.use bd' fs' ea) eb
        clear hw2
        clear c0 c1 c2 c3 c4 c5 c6 c7 c8 c9 c10 c11 xa xb pb pe Tw1 hX
        have TE := (HW.out.later hbA).step Tw2
        have HE := Lib.hid TE
        clear TE Tw2 hbA
        try go_wp2_with fail
        go_roundw
        case rel => exact ⟨k + 1, rest, _, _, _, _, by omega, by go_num, by rw [show n - (k + 1) = n - k - 1 by omega]; exact hPR.out, HE.out, by rw [← HQ.out.1]; simp [Sr.bda, Ex.ba_data], by rw [← HQ.out.2.1]; simp [Sr.fr, Ex.ba_data], by have := HQ.out; omega, by have := HQ.out.2.2.2.2.1; rw [St.P.size] at this; first | omega | (simp only [List.length_append, List.length_singleton]; omega), by have := HQ.out.2.2.2.2.2.1; rw [St.P.size] at this; omega⟩
        case measure => simp [intOf]; omega
      · go_wp2_with fail
        generalize (wr.alloc (.cells #[.int .i64 4, .string nm, .int .i64 ak, .int .i64 an, .string sa, .slice aA al ac, .int .i64 bk, .int .i64 bn, .string sb, .slice bA bl bc, .slice D dl dc, .slice E el ec] 66)) = W0 at hbA hX T0 hWs ⊢
        rw [← hQQ.out]
        clear c0 c1 c2 c3 c4 c5 c6 c7 c8 c9 c10 c11
        obtain ⟨c0, c1, c2, c3, c4, c5, c6, c7, c8, c9, c10, c11⟩ := hX.cells _ T0.kp
        obtain ⟨xa, xb, pb, pe⟩ := hX.read _ T0.kp
        refine (within_any body (ih body (by have := HQ.out; omega)) _ B dl dc g D _ _ (.slice none 0 0) bd' _ [] pb hd1 hd2 T0.own (SlV.nil _ 1) (by have := HQ.out; simp only [List.length_nil, List.length_singleton]; omega) (by have := HQ.out; omega)).mono ?_
        rintro r w1 ⟨rfl, vbw1, vfw1, hw1⟩
        have Tw1 := T0.step hw1
        have Uw1 := Sr.fr_length body (bd' ++ []) fs'
        try rw [List.append_nil] at Tw1 Uw1
        clear hw1
        clear c0 c1 c2 c3 c4 c5 c6 c7 c8 c9 c10 c11 xa xb pb pe T0 hX hWs
        have TE := (HW.out.later hbA).step Tw1
        have HE := Lib.hid TE
        clear TE Tw1 hbA
        try go_wp2_with fail
        go_roundw
        case rel => exact ⟨k + 1, rest, _, _, _, _, by omega, by go_num, by rw [show n - (k + 1) = n - k - 1 by omega]; exact hPR.out, HE.out, by rw [← HQ.out.1]; simp [Sr.bda, Ex.ba_data], by rw [← HQ.out.2.1]; simp [Sr.fr, Ex.ba_data], by have := HQ.out; omega, by have := HQ.out.2.2.2.2.1; rw [St.P.size] at this; first | omega | (simp only [List.length_append, List.length_singleton]; omega), by have := HQ.out.2.2.2.2.2.1; rw [St.P.size] at this; omega⟩
        case measure => simp [intOf]; omega
      · go_wp2_with fail
        generalize (wr.alloc (.cells #[.int .i64 5, .string nm, .int .i64 ak, .int .i64 an, .string sa, .slice aA al ac, .int .i64 bk, .int .i64 bn, .string sb, .slice bA bl bc, .slice D dl dc, .slice E el ec] 66)) = W0 at hbA hX T0 hWs ⊢
        rw [← hQQ.out]
        clear c0 c1 c2 c3 c4 c5 c6 c7 c8 c9 c10 c11
        obtain ⟨c0, c1, c2, c3, c4, c5, c6, c7, c8, c9, c10, c11⟩ := hX.cells _ T0.kp
        obtain ⟨xa, xb, pb, pe⟩ := hX.read _ T0.kp
        refine (within_any body (ih body (by have := HQ.out; omega)) _ B dl dc g D _ _ (.slice none 0 0) bd' _ [] pb hd1 hd2 T0.own (SlV.nil _ 1) (by have := HQ.out; simp only [List.length_nil, List.length_singleton]; omega) (by have := HQ.out; omega)).mono ?_
        rintro r w1 ⟨rfl, vbw1, vfw1, hw1⟩
        have Tw1 := T0.step hw1
        have Uw1 := Sr.fr_length body (bd' ++ []) fs'
        try rw [List.append_nil] at Tw1 Uw1
        clear hw1
        clear c0 c1 c2 c3 c4 c5 c6 c7 c8 c9 c10 c11 xa xb pb pe T0 hX hWs
        have TE := (HW.out.later hbA).step Tw1
        have HE := Lib.hid TE
        clear TE Tw1 hbA
        try go_wp2_with fail
        go_roundw
        case rel => exact ⟨k + 1, rest, _, _, _, _, by omega, by go_num, by rw [show n - (k + 1) = n - k - 1 by omega]; exact hPR.out, HE.out, by rw [← HQ.out.1]; simp [Sr.bda, Ex.ba_data], by rw [← HQ.out.2.1]; simp [Sr.fr, Ex.ba_data], by have := HQ.out; omega, by have := HQ.out.2.2.2.2.1; rw [St.P.size] at this; first | omega | (simp only [List.length_append, List.length_singleton]; omega), by have := HQ.out.2.2.2.2.2.1; rw [St.P.size] at this; omega⟩
        case measure => simp [intOf]; omega
      · go_wp2_with fail
        generalize (wr.alloc (.cells #[.int .i64 6, .string nm, .int .i64 ak, .int .i64 an, .string sa, .slice aA al ac, .int .i64 bk, .int .i64 bn, .string sb, .slice bA bl bc, .slice D dl dc, .slice E el ec] 66)) = W0 at hbA hX T0 hWs ⊢
        rw [← hQQ.out]
        clear c0 c1 c2 c3 c4 c5 c6 c7 c8 c9 c10 c11
        obtain ⟨c0, c1, c2, c3, c4, c5, c6, c7, c8, c9, c10, c11⟩ := hX.cells _ T0.kp
        obtain ⟨xa, xb, pb, pe⟩ := hX.read _ T0.kp
        refine (uses_any ea B _ g _ _ _ _ _ T0.own xa (by have := HQ.out; omega) (by have := HQ.out; omega)).mono ?_
        rintro r w1 ⟨rfl, vbw1, vfw1, hw1⟩
        have Tw1 := T0.step hw1
        have Uw1 := Sr.use_length bd' fs' ea
        clear hw1
        obtain ⟨c0, c1, c2, c3, c4, c5, c6, c7, c8, c9, c10, c11⟩ := hX.cells _ Tw1.kp
        obtain ⟨xa, xb, pb, pe⟩ := hX.read _ Tw1.kp
        clear T0 hWs
        go_wp2_with fail
        refine (within_any body (ih body (by have := HQ.out; omega)) _ B dl dc g D _ _ (.slice none 0 0) bd' _ [] pb hd1 hd2 Tw1.own (SlV.nil _ 1) (by have := HQ.out; simp only [List.length_nil, List.length_singleton]; omega) (by have := HQ.out; omega)).mono ?_
        rintro r w2 ⟨rfl, vbw2, vfw2, hw2⟩
        have Tw2 := Tw1.step hw2
        have Uw2 := Sr.fr_length body (bd' ++ []) (Sr.use bd' fs' ea)
        try rw [List.append_nil] at Tw2 Uw2
        clear hw2
        obtain ⟨c0, c1, c2, c3, c4, c5, c6, c7, c8, c9, c10, c11⟩ := hX.cells _ Tw2.kp
        obtain ⟨xa, xb, pb, pe⟩ := hX.read _ Tw2.kp
        clear Tw1
        go_wp2_with fail
        refine (within_any els (ih els (by have := HQ.out; omega)) _ B el ec g E _ _ (.slice none 0 0) bd' _ [] pe he1 he2 Tw2.own (SlV.nil _ 1) (by have := HQ.out; simp only [List.length_nil, List.length_singleton]; omega) (by have := HQ.out; omega)).mono ?_
        rintro r w3 ⟨rfl, vbw3, vfw3, hw3⟩
        have Tw3 := Tw2.step hw3
        have Uw3 := Sr.fr_length els (bd' ++ []) (Sr.fr body bd' (Sr.use bd' fs' ea))
        try rw [List.append_nil] at Tw3 Uw3
        clear hw3
        clear c0 c1 c2 c3 c4 c5 c6 c7 c8 c9 c10 c11 xa xb pb pe Tw2 hX
        have TE := (HW.out.later hbA).step Tw3
        have HE := Lib.hid TE
        clear TE Tw3 hbA
        try go_wp2_with fail
        go_roundw
        case rel => exact ⟨k + 1, rest, _, _, _, _, by omega, by go_num, by rw [show n - (k + 1) = n - k - 1 by omega]; exact hPR.out, HE.out, by rw [← HQ.out.1]; simp [Sr.bda, Ex.ba_data], by rw [← HQ.out.2.1]; simp [Sr.fr, Ex.ba_data], by have := HQ.out; omega, by have := HQ.out.2.2.2.2.1; rw [St.P.size] at this; first | omega | (simp only [List.length_append, List.length_singleton]; omega), by have := HQ.out.2.2.2.2.2.1; rw [St.P.size] at this; omega⟩
        case measure => simp [intOf]; omega
      · go_wp2_with fail
        generalize (wr.alloc (.cells #[.int .i64 7, .string nm, .int .i64 ak, .int .i64 an, .string sa, .slice aA al ac, .int .i64 bk, .int .i64 bn, .string sb, .slice bA bl bc, .slice D dl dc, .slice E el ec] 66)) = W0 at hbA hX T0 hWs ⊢
        rw [← hQQ.out]
        clear c0 c1 c2 c3 c4 c5 c6 c7 c8 c9 c10 c11
        obtain ⟨c0, c1, c2, c3, c4, c5, c6, c7, c8, c9, c10, c11⟩ := hX.cells _ T0.kp
        obtain ⟨xa, xb, pb, pe⟩ := hX.read _ T0.kp
        refine (uses_any ea B _ g _ _ _ _ _ T0.own xa (by have := HQ.out; omega) (by have := HQ.out; omega)).mono ?_
        rintro r w1 ⟨rfl, vbw1, vfw1, hw1⟩
        have Tw1 := T0.step hw1
        have Uw1 := Sr.use_length bd' fs' ea
        clear hw1
        obtain ⟨c0, c1, c2, c3, c4, c5, c6, c7, c8, c9, c10, c11⟩ := hX.cells _ Tw1.kp
        obtain ⟨xa, xb, pb, pe⟩ := hX.read _ Tw1.kp
        clear T0 hWs
        go_wp2_with fail
        refine (uses_any eb B _ g _ _ _ _ _ Tw1.own xb (by have := HQ.out; omega) (by have := HQ.out; omega)).mono ?_
        rintro r w2 ⟨rfl, vbw2, vfw2, hw2⟩
        have Tw2 := Tw1.step hw2
        have Uw2 := Sr.use_length bd' (Sr.use bd' fs' ea) eb
        clear hw2
        obtain ⟨c0, c1, c2, c3, c4, c5, c6, c7, c8, c9, c10, c11⟩ := hX.cells _ Tw2.kp
        obtain ⟨xa, xb, pb, pe⟩ := hX.read _ Tw2.kp
        clear Tw1
        have TA := Tw2.later (below_alloc (Below.refl _ _) (.cells #[.string nm] 9))
        have hm := SlV.lit w2 [.string nm] 9 1 1 rfl (by decide)
        obtain ⟨-, -, pb', -⟩ := hX.read _ TA.kp
        go_wp2_with fail
        refine (within_any body (ih body (by have := HQ.out; omega)) _ B dl dc g D _ _ _ bd' _ [nm] pb' hd1 hd2 TA.own hm (by have := HQ.out; simp only [List.length_nil, List.length_singleton]; omega) (by have := HQ.out; omega)).mono ?_
        rintro r w3 ⟨rfl, vbw3, vfw3, hw3⟩
        have Tw3 := TA.step hw3
        have Uw3 := Sr.fr_length body (bd' ++ [nm]) (Sr.use bd' (Sr.use bd' fs' ea) eb)
        try rw [List.append_nil] at Tw3 Uw3
        clear hw3
        clear c0 c1 c2 c3 c4 c5 c6 c7 c8 c9 c10 c11 xa xb pb pe pb' hm TA Tw2 hX
        have TE := (HW.out.later hbA).step Tw3
        have HE := Lib.hid TE
        clear TE Tw3 hbA
        try go_wp2_with fail
        go_roundw
        case rel => exact ⟨k + 1, rest, _, _, _, _, by omega, by go_num, by rw [show n - (k + 1) = n - k - 1 by omega]; exact hPR.out, HE.out, by rw [← HQ.out.1]; simp [Sr.bda, Ex.ba_data], by rw [← HQ.out.2.1]; simp [Sr.fr, Ex.ba_data], by have := HQ.out; omega, by have := HQ.out.2.2.2.2.1; rw [St.P.size] at this; first | omega | (simp only [List.length_append, List.length_singleton]; omega), by have := HQ.out.2.2.2.2.2.1; rw [St.P.size] at this; omega⟩
        case measure => simp [intOf]; omega
      · have K := Lib.hid (show kd ≠ 1 ∧ kd ≠ 2 ∧ kd ≠ 3 ∧ kd ≠ 4 ∧ kd ≠ 5 ∧ kd ≠ 6 ∧ kd ≠ 7 by simp at k1 k2 k3 k4 k5 k6 k7; omega)
        go_wp2_with fail
        generalize (wr.alloc (.cells #[.int .i64 kd, .string nm, .int .i64 ak, .int .i64 an, .string sa, .slice aA al ac, .int .i64 bk, .int .i64 bn, .string sb, .slice bA bl bc, .slice D dl dc, .slice E el ec] 66)) = W0 at hbA hX T0 hWs ⊢
        clear c0 c1 c2 c3 c4 c5 c6 c7 c8 c9 c10 c11 k1 k2 k3 k4 k5 k6 k7
        have TE := (HW.out.later hbA).step T0
        have HE := Lib.hid TE
        clear TE T0 hbA
        try go_wp2_with fail
        go_roundw
        case rel => exact ⟨k + 1, rest, _, _, _, _, by omega, by go_num, by rw [show n - (k + 1) = n - k - 1 by omega]; exact hPR.out, HE.out, by rw [← HQ.out.1]; simp [Sr.bda, Ex.ba_data, K.out], by rw [← HQ.out.2.1]; simp [Sr.fr, Ex.ba_data, K.out], by have := HQ.out; omega, by have := HQ.out.2.2.2.2.1; rw [St.P.size] at this; first | omega | (simp only [List.length_append, List.length_singleton]; omega), by have := HQ.out.2.2.2.2.2.1; rw [St.P.size] at this; omega⟩
        case measure => simp [intOf]; omega
    · obtain rfl : k = n := by omega
      rw [Nat.sub_self] at hq
      have hq' := hq.zero
      subst hq'
      go_wp2_with fail
      go_end0
      exact ⟨rfl, vb', vf', by rw [← hbda, ← hfr]; exact hW⟩
theorem stmts_any (p : St.P) : StmtsOK p := by
  suffices h : ∀ n, ∀ q : St.P, q.size ≤ n → StmtsOK q from h _ p (Nat.le_refl _)
  intro n
  induction n with
  | zero => exact fun q hq => stmts_step q fun r hr => by omega
  | succ n ih => exact fun q hq => stmts_step q fun r hr => ih r (by omega)

/-- **scope.Free** -/
theorem free_any (p : St.P) (w : World) (B n c : Nat) (A : Option Addr) (hB : B ≤ w.heap.size) (hp : PR B w A n p) (hnc : n ≤ c) (hc : c ≤ maxLen) (hsz : p.size ≤ 549755813888) :
    Calls Try.prog 44 #[.slice A n c] w fun e w' => ∃ v, e = .returned v ∧ w'.ownsRow w.heap.size 9 1 v (Sr.free p).length (strs (Sr.free p)) ∧ Below w.heap.size w w' := by
  have hb0 : Below w.heap.size w (w.alloc (.cells #[.slice none 0 0, .slice none 0 0] 127)) := below_alloc (Below.refl _ _) _
  have hO : WkO w.heap.size (w.alloc (.cells #[.slice none 0 0, .slice none 0 0] 127)) w.heap.size (.slice none 0 0) [] (.slice none 0 0) [] := by
    refine ⟨Blk.new w 127 [.slice none 0 0, .slice none 0 0], fun r hr => ?_, fun i j r s hr hs hij k hk => ?_, fun r hr => ?_, by simp, Nat.le_refl _⟩
    · simp [strRw] at hr
      subst hr
      exact World.ownsRow_nil _ _ _ _
    · match i, hr with
      | 0, hr => injection hr with hr; subst hr; cases hk
      | 1, hr => injection hr with hr; subst hr; cases hk
    · simp [strRw] at hr
      subst hr
      simp [Value.ownBlock]
  have hs := stmts_any p _ w.heap.size n c w.heap.size A (.slice none 0 0) (.slice none 0 0) [] [] ((hp.later (hb0.mono hB)).up hB) hnc hc hO (by simpa using hsz) (by simpa using hsz)
  clear hO hp
  go_enter Try.func44, Try.ntmps44
  go_wp2_with fail
  refine hs.mono ?_
  rintro e w1 ⟨rfl, vb1, vf1, hT⟩
  have c1 : w1.cell? ⟨w.heap.size, 1, none⟩ = some vf1 := (hT.own.blk.cell 1).trans rfl
  have r1 : w1.ownsRow w.heap.size 9 1 vf1 (Sr.fr p [] []).length (strs (Sr.fr p [] [])) := hT.own.row 1 rfl
  have hb : Below w.heap.size w w1 := hb0.trans (hT.kp.below (by simp) (fun i hi => hi.elim (fun e => by omega) (fun ⟨r, hr, e⟩ => by simp [strRw] at hr; subst hr; cases e)))
  obtain ⟨V, cV, rfl, -, -⟩ := own_slice r1
  have HR := Lib.hid (And.intro r1 hb)
  clear hs hT r1 hb hb0
  go_wp2
  go_ret
  exact ⟨_, rfl, HR.out⟩
end Go.Proofs.Ytajddbmmbhdnfaa
