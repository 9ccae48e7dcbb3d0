/-
  steal.pick, walked: who is idle steals a part; a pick, whatever comes.
-/
import Derived.Test.YtajddbmmbhdnfaaYdPick3
namespace Go.Proofs.Ytajddbmmbhdnfaa
set_option linter.unusedVariables false
set_option linter.unusedSimpArgs false
set_option maxRecDepth 100000
open Go.RowKit



set_option maxHeartbeats 8000000 in
theorem pick_steal (f : Nat) (y : Stl.Y) (who whom k : Nat) (rest q : List Nat) (a : Int) (ps2 : List Stl.Part) (q2 : List Nat) (a2 : Int) (w : World) (yb base lv : Nat) (P A Q D : Value) (gs : List Nat) (rs : List (Option Nat)) (h : YA w yb base y lv P A Q D gs rs)
    (hq : y.qs[who]? = some q) (ha : y.at_[who]? = some a) (ha0 : a < 0) (hN : y.ps.length ≤ 1152921504606846976) (hwm : whom < y.at_.length) (hww : whom ≠ who) (hqw : y.qs[whom]? = some (k :: rest)) (hs : Stl.settle f y.ps q (k : Int) = some (ps2, q2, a2)) :
    Calls Try.prog 29 #[.pointer (some ⟨yb, 0, none⟩), .agg #[.int .i64 (who : Int), .int .i64 (whom : Int)]] w (PickPost w yb base lv ⟨ps2, y.at_.set who a2, (y.qs.set whom rest).set who q2, y.log⟩ P A Q gs) := by
  have HS := Lib.hid hs
  clear hs
  have hbw := h.base_le
  have hwho := (List.getElem?_eq_some_iff.1 ha).1
  obtain ⟨ag, ac, rfl, hale, ham, hab, hal⟩ := own_addr h.ats (by omega)
  obtain ⟨-, -, b2, b3, -⟩ := h.heads
  have ca := h.at_cell rfl ha
  have l1 := h.lt
  unfold maxLen at ham
  have hb5 : Below w.heap.size w (w.alloc (.cells #[.int .i64 (who : Int), .int .i64 (whom : Int)] 29)) := below_alloc (Below.refl _ _) _
  have hY0 := h.below hb5
  have B3 := Blk.new w 29 [.int .i64 (who : Int), .int .i64 (whom : Int)]
  have hbB := (Fr.refl base w).alloc h.base_le (.cells #[.int .i64 (who : Int), .int .i64 (whom : Int)] 29)
  obtain ⟨nA, hnA⟩ : ∃ nA, nA = y.at_.length := ⟨_, rfl⟩
  rw [← hnA] at hale hwho b2 hY0 ⊢
  have hnd1 : decide ((who : Int) < 0) = false := by simp
  have hnd2 : decide (nA ≤ who) = false := by simp; omega
  have hnd3 : decide (0 ≤ a) = false := by simp; omega
  have HH := Lib.hid (And.intro hq (And.intro ha hnA))
  clear hq ha hnA h
  go_enter Try.func29, Try.ntmps29
  go_wp2
  go_quiet (fail)
  rename Nat => nq0
  go_wp2_with fail
  go_quiet (fail)
  go_wp2_with fail
  obtain ⟨q3, hq3⟩ : ∃ q3, q3 = w.heap.size := ⟨_, rfl⟩
  rw [← hq3] at B3 ⊢
  have hY1 := hY0.below (below_drewN (Below.refl _ _) (nq0 + nq))
  have hbB1 := hbB.drewN (nq0 + nq)
  have B1 := B3.drewN (nq0 + nq)
  clear hY0 hbB B3 b2 ca hb5 hq3 b3
  generalize ((w.alloc (.cells ([.int .i64 (who : Int), .int .i64 (whom : Int)] : List Value).toArray 29)).drewN (nq0 + nq)) = W at hY1 hbB1 B1 ⊢
  obtain ⟨-, -, b2, b3, -⟩ := hY1.heads
  have f0 : W.cell? ⟨q3, 0, none⟩ = some (.int .i64 (who : Int)) := (B1.cell 0).trans rfl
  have f1 : W.cell? ⟨q3, 1, none⟩ = some (.int .i64 (whom : Int)) := (B1.cell 1).trans rfl
  have hd : decide (0 ≤ (whom : Int)) = true := by simp
  have hd2 : decide (whom < nA) = true := by simp; rw [HH.out.2.2]; exact hwm
  have hd3 : ((whom : Int) != (who : Int)) = true := by simp; omega
  obtain ⟨qg, qc, rfl, hqle, hqm, hqb, hql⟩ := own_addr hY1.qus (by have := hY1.len1; have := hY1.len3; omega)
  unfold maxLen at hqm
  obtain ⟨g, r, hgw, hrw, hdq, hgb⟩ := hY1.at_dq hqw
  have hwg : whom < gs.length := (List.getElem?_eq_some_iff.1 hgw).1
  have qcell := hY1.q_cell rfl hgw
  have HG := Lib.hid (And.intro hgw (And.intro hrw (And.intro hgb hqw)))
  have hY := Lib.hid hY1
  have hB := Lib.hid hbB1
  have HB1 := Lib.hid B1
  clear hgw hrw hgb hqw hY1 hbB1 B1 hdq
  go_quiet (fail)
  rename Nat => nq2
  go_wp2_with fail
  go_cut [5, 6] (fun s5 s6 wx => s6 = .bool true ∧ s5 = .int .i64 (k : Int) ∧ YA wx yb base ⟨y.ps, y.at_, y.qs.set whom rest, y.log⟩ lv P (.slice (some ⟨ag, 0, none⟩) nA ac) (.slice (some ⟨qg, 0, none⟩) gs.length qc) D gs (rs.set whom r) ∧ Fr base w wx ∧ Blk wx q3 29 [.int .i64 (who : Int), .int .i64 (whom : Int)])
  case first =>
    have hY2 := Lib.hid (hY.out.below (below_drew (below_drewN (Below.refl _ _) nq2)))
    have hB2 := Lib.hid (hB.out.drewN nq2).drew
    have HB2 := Lib.hid (HB1.out.drewN nq2).drew
    go_region_with ((go_at_call 39; refine (steal_some g (k : Int) (rest.map fun (k : Nat) => (k : Int)) r _ (hY2.out.dq whom g r (k :: rest) HG.out.1 HG.out.2.1 HG.out.2.2.2).1).mono ?_; rintro e w2 ⟨rfl, hd2', hk2⟩))
    all_goals
      have hY3 := hY2.out.deque (l := rest) HG.out.1 HG.out.2.1 (hk2.mono fun _ => .inl) hd2' (.inl rfl)
      have hfr := Fr.dq (hY2.out.dq whom g r (k :: rest) HG.out.1 HG.out.2.1 HG.out.2.2.2).1 (hk2.mono fun _ => .inl) hY2.out.base_le HG.out.2.2.1
      have HE := Lib.hid (And.intro hY3 (And.intro (hB2.out.trans hfr) (hfr.pk _ _ HB2.out)))
      clear hY3 hfr hd2' hk2
      go_wp2_with fail
      go_meet
      case rel => exact ⟨rfl, rfl, HE.out⟩
  case rest =>
    obtain ⟨rfl, rfl, hY3, hb3, B3⟩ := hcut
    obtain ⟨-, -, b2, -, -⟩ := hY3.heads
    have ca := hY3.at_cell rfl HH.out.2.1
    have f0 : wc.cell? ⟨q3, 0, none⟩ = some (.int .i64 (who : Int)) := (B3.cell 0).trans rfl
    have hrow := hY3.ats
    have e : y.at_.length = nA := HH.out.2.2.symm
    dsimp only at hrow
    rw [e] at hrow
    have HY := Lib.hid (And.intro hY3 (And.intro hb3 (And.intro B3 e)))
    clear hY3 hb3 B3 e
    go_wp2_with fail
    (refine still_last (by kernel_rfl) (by kernel_rfl) ?_; simp only [List.length_cons, List.length_nil, Nat.reduceAdd, Nat.reduceSub, List.take_succ_cons, List.take_zero, List.drop_succ_cons, List.drop_zero]; repeat still_step; try refine wpStill_nil ?_)
    refine wpl_set_row (hrow.drewN_ 1) who (.int .i64 (k : Int)) (by kernel_rfl) (by omega) rfl rfl rfl rfl rfl rfl ?_
    intro w4 hown4 hg4
    have hY4 := YA.moved (A := .slice (some ⟨ag, 0, none⟩) nA ac) (HY.out.1.below (below_drewN (Below.refl _ _) 1)) (xs := y.at_.set who (k : Int)) rfl (by simp) (by
      dsimp only
      rw [ints_set, HY.out.2.2.2]
      exact hown4) hg4
    have hfr := Fr.row (HY.out.1.below (below_drewN (Below.refl _ _) 1)).ats (by decide) rfl hg4 (HY.out.1.below (below_drewN (Below.refl _ _) 1)).base_le
    have B4 := hfr.pk _ _ (HY.out.2.2.1.drewN 1)
    have hb4 := (HY.out.2.1.drewN 1).trans hfr
    have g0 : w4.cell? ⟨q3, 0, none⟩ = some (.int .i64 (who : Int)) := (B4.cell 0).trans rfl
    have HE := Lib.hid (And.intro hY4 hb4)
    clear hY4 hb4 hfr B4 hown4 hg4 hrow b2 ca f0
    go_wp2_with fail
    have hw1 : (y.qs.set whom rest)[who]? = some q := by rw [List.getElem?_set, if_neg hww]; exact HH.out.1
    have hw2 : (y.at_.set who (k : Int))[who]? = some (k : Int) := by
      have := (List.getElem?_eq_some_iff.1 HH.out.2.1).1
      simp [this]
    refine (settle_any f ⟨y.ps, y.at_.set who (k : Int), y.qs.set whom rest, y.log⟩ who q k ps2 q2 a2 w4 yb base lv _ _ _ D gs _ HE.out.1 hw1 hw2 hN HS.out).mono ?_
    rintro e w9 ⟨rfl, ⟨rs9, h9⟩, hb9⟩
    simp only [List.set_set] at h9
    have HE9 := Lib.hid (And.intro h9 (HE.out.2.trans hb9))
    clear h9 hb9
    go_wp2
    go_end0
    exact ⟨rfl, ⟨_, _, HE9.out.1⟩, HE9.out.2⟩

/-- **a pick** -/
theorem pick_any (f : Nat) (y y' : Stl.Y) (who whom : Int) (w : World) (yb base lv : Nat) (P A Q D : Value) (gs : List Nat) (rs : List (Option Nat)) (h : YA w yb base y lv P A Q D gs rs) (hN : y.ps.length ≤ 1152921504606846976) (hlog : y.log.length ≤ 1099511627776) (hF : Stl.pickF f y who whom = some y') :
    Calls Try.prog 29 #[.pointer (some ⟨yb, 0, none⟩), .agg #[.int .i64 who, .int .i64 whom]] w (PickPost w yb base lv y' P A Q gs) := by
  unfold Stl.pickF at hF
  split at hF
  · rename_i hr
    cases hF
    exact pick_out y who whom w yb base lv P A Q D gs rs h hr
  rename_i hr
  obtain ⟨v, rfl⟩ : ∃ v : Nat, who = v := ⟨who.toNat, by omega⟩
  rw [Int.toNat_natCast] at hF
  split at hF
  · rename_i a q ha hq
    split at hF
    · rename_i ha0
      obtain ⟨n, rfl⟩ : ∃ n : Nat, a = n := ⟨a.toNat, by omega⟩
      rw [Int.toNat_natCast] at hF
      split at hF
      · rename_i p ps1 q1 a1 hp he
        split at hF
        · rename_i ps2 q2 a2 hs
          cases hF
          exact pick_leaf f y v n whom q p ps1 q1 a1 ps2 q2 a2 w yb base lv P A Q D gs rs h hq ha hp he hs hN hlog
        · cases hF
      · cases hF
    · rename_i ha0
      split at hF
      · rename_i hc
        obtain ⟨u, rfl⟩ : ∃ u : Nat, whom = u := ⟨whom.toNat, by omega⟩
        rw [Int.toNat_natCast] at hF
        split at hF
        · rename_i k rest hqw
          split at hF
          · rename_i ps2 q2 a2 hs
            cases hF
            exact pick_steal f y v u k rest q a ps2 q2 a2 w yb base lv P A Q D gs rs h hq ha (by omega) hN (by omega) (fun e => hc.2.2 (by rw [e])) hqw hs
          · cases hF
        · rename_i hqw
          cases hF
          exact pick_dry y v u q a w yb base lv P A Q D gs rs h hq ha (by omega) hN (by omega) (fun e => hc.2.2 (by rw [e])) hqw
        · cases hF
      · rename_i hc
        cases hF
        exact pick_none_ y v whom q a w yb base lv P A Q D gs rs h hq ha (by omega) hN hc
  · cases hF
end Go.Proofs.Ytajddbmmbhdnfaa
