/-
  steal.pick, walked: who is idle, and steals.
-/
import Derived.Test.YtajddbmmbhdnfaaYdPick2
namespace Go.Proofs.Ytajddbmmbhdnfaa
set_option linter.unusedVariables false
set_option linter.unusedSimpArgs false
set_option maxRecDepth 100000
open Go.RowKit




set_option maxHeartbeats 8000000 in
theorem pick_dry (y : Stl.Y) (who whom : Nat) (q : List Nat) (a : Int) (w : World) (yb base lv : Nat) (P A Q D : Value) (gs : List Nat) (rs : List (Option Nat)) (h : YA w yb base y lv P A Q D gs rs)
    (hq : y.qs[who]? = some q) (ha : y.at_[who]? = some a) (ha0 : a < 0) (hN : y.ps.length ≤ 1152921504606846976) (hwm : whom < y.at_.length) (hww : whom ≠ who) (hqw : y.qs[whom]? = some []) :
    Calls Try.prog 29 #[.pointer (some ⟨yb, 0, none⟩), .agg #[.int .i64 (who : Int), .int .i64 (whom : Int)]] w (PickPost w yb base lv y P A Q gs) := by
  have hwho := (List.getElem?_eq_some_iff.1 ha).1
  obtain ⟨ag, ac, rfl, hale, ham, hab, hal⟩ := own_addr h.ats (by omega)
  obtain ⟨-, -, b2, b3, -⟩ := h.heads
  have ca := h.at_cell rfl ha
  have l1 := h.lt
  unfold maxLen at ham
  have hb5 : Below w.heap.size w (w.alloc (.cells #[.int .i64 (who : Int), .int .i64 (whom : Int)] 29)) := below_alloc (Below.refl _ _) _
  have hY0 := h.below hb5
  have B3 := Blk.new w 29 [.int .i64 (who : Int), .int .i64 (whom : Int)]
  have hbB := (Fr.refl base w).alloc h.base_le (.cells #[.int .i64 (who : Int), .int .i64 (whom : Int)] 29)
  obtain ⟨nA, hnA⟩ : ∃ nA, nA = y.at_.length := ⟨_, rfl⟩
  rw [← hnA] at hale hwho b2 hY0 ⊢
  have hnd1 : decide ((who : Int) < 0) = false := by simp
  have hnd2 : decide (nA ≤ who) = false := by simp; omega
  have hnd3 : decide (0 ≤ a) = false := by simp; omega
  have HH := Lib.hid (And.intro hq (And.intro ha hnA))
  clear hq ha hnA h
  go_enter Try.func29, Try.ntmps29
  go_wp2
  go_quiet (fail)
  rename Nat => nq0
  go_wp2_with fail
  go_quiet (fail)
  go_wp2_with fail
  obtain ⟨q3, hq3⟩ : ∃ q3, q3 = w.heap.size := ⟨_, rfl⟩
  rw [← hq3] at B3 ⊢
  have hY1 := hY0.below (below_drewN (Below.refl _ _) (nq0 + nq))
  have hbB1 := hbB.drewN (nq0 + nq)
  have B1 := B3.drewN (nq0 + nq)
  clear hY0 hbB B3 b2 ca hb5 hq3 b3
  generalize ((w.alloc (.cells ([.int .i64 (who : Int), .int .i64 (whom : Int)] : List Value).toArray 29)).drewN (nq0 + nq)) = W at hY1 hbB1 B1 ⊢
  obtain ⟨-, -, b2, b3, -⟩ := hY1.heads
  have f0 : W.cell? ⟨q3, 0, none⟩ = some (.int .i64 (who : Int)) := (B1.cell 0).trans rfl
  have f1 : W.cell? ⟨q3, 1, none⟩ = some (.int .i64 (whom : Int)) := (B1.cell 1).trans rfl
  have hd : decide (0 ≤ (whom : Int)) = true := by simp
  have hd2 : decide (whom < nA) = true := by simp; rw [HH.out.2.2]; exact hwm
  have hd3 : ((whom : Int) != (who : Int)) = true := by simp; omega
  obtain ⟨qg, qc, rfl, hqle, hqm, hqb, hql⟩ := own_addr hY1.qus (by have := hY1.len1; have := hY1.len3; omega)
  unfold maxLen at hqm
  obtain ⟨g, r, hgw, hrw, hdq, hgb⟩ := hY1.at_dq hqw
  have hwg : whom < gs.length := (List.getElem?_eq_some_iff.1 hgw).1
  have qcell := hY1.q_cell rfl hgw
  have HG := Lib.hid (And.intro hgw (And.intro hrw (And.intro hgb hqw)))
  have hY := Lib.hid hY1
  have hB := Lib.hid hbB1
  have HB1 := Lib.hid B1
  clear hgw hrw hgb hqw hY1 hbB1 B1 hdq
  go_quiet (fail)
  rename Nat => nq2
  go_wp2_with fail
  go_cut [5, 6] (fun s5 s6 wx => s6 = .bool false ∧ ∃ k, wx = W.drewN k)
  case first =>
    go_region_with ((go_at_call 39; refine (steal_none g r _ ((hY.out.below (below_drew (below_drewN (Below.refl _ _) nq2))).dq whom g r [] HG.out.1 HG.out.2.1 HG.out.2.2.2).1).mono ?_; rintro e w2 ⟨rfl, rfl⟩))
    all_goals
      go_wp2_with fail
      go_meet
      case rel => exact ⟨rfl, _, rfl⟩
  case rest =>
    obtain ⟨rfl, k, rfl⟩ := hcut
    go_wp2_with fail
    refine (settle_any 1 y who q a y.ps q a _ yb base lv _ _ _ D gs rs (hY.out.below (below_drewN (Below.refl _ _) _)) HH.out.1 HH.out.2.1 hN (by simp [Stl.settle, ha0])).mono ?_
    rintro e w9 ⟨rfl, ⟨rs9, h9⟩, hb9⟩
    have e1 : y.at_.set who a = y.at_ := by
      obtain ⟨h1, h2⟩ := List.getElem?_eq_some_iff.1 HH.out.2.1
      rw [← h2]; exact List.set_getElem_self ..
    have e2 : y.qs.set who q = y.qs := by
      obtain ⟨h1, h2⟩ := List.getElem?_eq_some_iff.1 HH.out.1
      rw [← h2]; exact List.set_getElem_self ..
    rw [e1, e2] at h9
    have HE9 := Lib.hid (And.intro h9 ((hB.out.drewN _).trans hb9))
    clear h9 hb9 e1 e2
    go_wp2
    go_end0
    exact ⟨rfl, ⟨_, _, HE9.out.1⟩, HE9.out.2⟩
end Go.Proofs.Ytajddbmmbhdnfaa
