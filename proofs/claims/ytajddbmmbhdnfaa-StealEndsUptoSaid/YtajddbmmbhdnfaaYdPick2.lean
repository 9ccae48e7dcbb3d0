/-
  steal.pick, walked: who is idle.
-/
import Derived.Test.YtajddbmmbhdnfaaYdPick
namespace Go.Proofs.Ytajddbmmbhdnfaa
set_option linter.unusedVariables false
set_option linter.unusedSimpArgs false
set_option maxRecDepth 100000
open Go.RowKit



set_option maxHeartbeats 8000000 in
theorem pick_none_ (y : Stl.Y) (who : Nat) (whom : Int) (q : List Nat) (a : Int) (w : World) (yb base lv : Nat) (P A Q D : Value) (gs : List Nat) (rs : List (Option Nat)) (h : YA w yb base y lv P A Q D gs rs)
    (hq : y.qs[who]? = some q) (ha : y.at_[who]? = some a) (ha0 : a < 0) (hN : y.ps.length ≤ 1152921504606846976) (hno : ¬ (0 ≤ whom ∧ whom < y.at_.length ∧ whom ≠ (who : Int))) :
    Calls Try.prog 29 #[.pointer (some ⟨yb, 0, none⟩), .agg #[.int .i64 (who : Int), .int .i64 whom]] w (PickPost w yb base lv y P A Q gs) := by
  have hwho := (List.getElem?_eq_some_iff.1 ha).1
  obtain ⟨ag, ac, rfl, hale, ham, hab, hal⟩ := own_addr h.ats (by omega)
  obtain ⟨-, -, b2, b3, -⟩ := h.heads
  have ca := h.at_cell rfl ha
  have l1 := h.lt
  unfold maxLen at ham
  have hb5 : Below w.heap.size w (w.alloc (.cells #[.int .i64 (who : Int), .int .i64 whom] 29)) := below_alloc (Below.refl _ _) _
  have hY0 := h.below hb5
  have B3 := Blk.new w 29 [.int .i64 (who : Int), .int .i64 whom]
  have hbB := (Fr.refl base w).alloc h.base_le (.cells #[.int .i64 (who : Int), .int .i64 whom] 29)
  obtain ⟨nA, hnA⟩ : ∃ nA, nA = y.at_.length := ⟨_, rfl⟩
  rw [← hnA] at hale hwho b2 hY0 ⊢
  have hnd1 : decide ((who : Int) < 0) = false := by simp
  have hnd2 : decide (nA ≤ who) = false := by simp; omega
  have hnd3 : decide (0 ≤ a) = false := by simp; omega
  have HH := Lib.hid (And.intro hq (And.intro ha hnA))
  clear hq ha hnA h
  go_enter Try.func29, Try.ntmps29
  go_wp2
  go_quiet (fail)
  rename Nat => nq0
  go_wp2_with fail
  go_quiet (fail)
  go_wp2_with fail
  obtain ⟨q3, hq3⟩ : ∃ q3, q3 = w.heap.size := ⟨_, rfl⟩
  rw [← hq3] at B3 ⊢
  have hY1 := hY0.below (below_drewN (Below.refl _ _) (nq0 + nq))
  have hbB1 := hbB.drewN (nq0 + nq)
  have B1 := B3.drewN (nq0 + nq)
  clear hY0 hbB B3 b2 ca hb5 hq3 b3
  generalize ((w.alloc (.cells ([.int .i64 (who : Int), .int .i64 whom] : List Value).toArray 29)).drewN (nq0 + nq)) = W at hY1 hbB1 B1 ⊢
  obtain ⟨-, -, b2, b3, -⟩ := hY1.heads
  have f0 : W.cell? ⟨q3, 0, none⟩ = some (.int .i64 (who : Int)) := (B1.cell 0).trans rfl
  have f1 : W.cell? ⟨q3, 1, none⟩ = some (.int .i64 whom) := (B1.cell 1).trans rfl
  have hY := Lib.hid hY1
  have hB := Lib.hid hbB1
  clear hY1 hbB1 B1
  have hno' := hno
  rw [← HH.out.2.2] at hno'
  have HNO := Lib.hid hno'
  clear hno hno'
  rcases Int.lt_or_le whom 0 with h0 | h0
  · have hd : decide (0 ≤ whom) = false := by simp; omega
    go_quiet (fail)
    go_wp2_with fail
    refine (settle_any 1 y who q a y.ps q a _ yb base lv _ _ _ D gs rs (hY.out.below (below_drewN (Below.refl _ _) _)) HH.out.1 HH.out.2.1 hN (by simp [Stl.settle, ha0])).mono ?_
    rintro e w9 ⟨rfl, ⟨rs9, h9⟩, hb9⟩
    have e1 : y.at_.set who a = y.at_ := by
      obtain ⟨h1, h2⟩ := List.getElem?_eq_some_iff.1 HH.out.2.1
      rw [← h2]; exact List.set_getElem_self ..
    have e2 : y.qs.set who q = y.qs := by
      obtain ⟨h1, h2⟩ := List.getElem?_eq_some_iff.1 HH.out.1
      rw [← h2]; exact List.set_getElem_self ..
    rw [e1, e2] at h9
    have HE9 := Lib.hid (And.intro h9 ((hB.out.drewN _).trans hb9))
    clear h9 hb9 e1 e2
    go_wp2
    go_end0
    exact ⟨rfl, ⟨_, _, HE9.out.1⟩, HE9.out.2⟩
  have hd : decide (0 ≤ whom) = true := by simpa using h0
  rcases Int.lt_or_le whom nA with h1 | h1
  · have hd2 : decide (whom < (nA : Int)) = true := by simpa using h1
    have hd3 : (whom != (who : Int)) = false := by
      have := HNO.out
      simp
      omega
    go_quiet (fail)
    go_wp2_with fail
    refine (settle_any 1 y who q a y.ps q a _ yb base lv _ _ _ D gs rs (hY.out.below (below_drewN (Below.refl _ _) _)) HH.out.1 HH.out.2.1 hN (by simp [Stl.settle, ha0])).mono ?_
    rintro e w9 ⟨rfl, ⟨rs9, h9⟩, hb9⟩
    have e1 : y.at_.set who a = y.at_ := by
      obtain ⟨h1, h2⟩ := List.getElem?_eq_some_iff.1 HH.out.2.1
      rw [← h2]; exact List.set_getElem_self ..
    have e2 : y.qs.set who q = y.qs := by
      obtain ⟨h1, h2⟩ := List.getElem?_eq_some_iff.1 HH.out.1
      rw [← h2]; exact List.set_getElem_self ..
    rw [e1, e2] at h9
    have HE9 := Lib.hid (And.intro h9 ((hB.out.drewN _).trans hb9))
    clear h9 hb9 e1 e2
    go_wp2
    go_end0
    exact ⟨rfl, ⟨_, _, HE9.out.1⟩, HE9.out.2⟩
  · have hd2 : decide (whom < (nA : Int)) = false := by simpa using h1
    go_quiet (fail)
    go_wp2_with fail
    refine (settle_any 1 y who q a y.ps q a _ yb base lv _ _ _ D gs rs (hY.out.below (below_drewN (Below.refl _ _) _)) HH.out.1 HH.out.2.1 hN (by simp [Stl.settle, ha0])).mono ?_
    rintro e w9 ⟨rfl, ⟨rs9, h9⟩, hb9⟩
    have e1 : y.at_.set who a = y.at_ := by
      obtain ⟨h1, h2⟩ := List.getElem?_eq_some_iff.1 HH.out.2.1
      rw [← h2]; exact List.set_getElem_self ..
    have e2 : y.qs.set who q = y.qs := by
      obtain ⟨h1, h2⟩ := List.getElem?_eq_some_iff.1 HH.out.1
      rw [← h2]; exact List.set_getElem_self ..
    rw [e1, e2] at h9
    have HE9 := Lib.hid (And.intro h9 ((hB.out.drewN _).trans hb9))
    clear h9 hb9 e1 e2
    go_wp2
    go_end0
    exact ⟨rfl, ⟨_, _, HE9.out.1⟩, HE9.out.2⟩
end Go.Proofs.Ytajddbmmbhdnfaa
