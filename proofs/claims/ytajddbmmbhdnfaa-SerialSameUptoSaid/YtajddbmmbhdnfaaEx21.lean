/-
  expr.Names, walked: the whole.
-/
import Derived.Test.YtajddbmmbhdnfaaEx20
namespace Go.Proofs.Ytajddbmmbhdnfaa
set_option linter.unusedVariables false
set_option linter.unusedSimpArgs false
set_option maxRecDepth 100000
open Go.RowKit

theorem names_world (w W w5 : World) (cs : List Value) (e : Ex.X) (hb : Below w.heap.size w W) (hz : W.heap.size = w.heap.size + 1 + 1) (d0 : Blk W w.heap.size 64 cs) (d1 : Blk W (w.heap.size + 1) 116 [.slice none 0 0]) (h : XR w.heap.size w cs e)
    (hB5 : Blk w5 (w.heap.size + 1 + 1) 136 [.func (.func 61) #[] #[.pointer (some ⟨w.heap.size + 1 + 1, 0, none⟩), .pointer (some ⟨w.heap.size + 1, 0, none⟩)]]) (hg5 : (W.alloc (.cells #[.nilFunc] 136)).grownBy w5 (some (w.heap.size + 1 + 1))) :
    Nm w.heap.size w5 (w.heap.size + 1 + 1) (w.heap.size + 1) (.slice none 0 0) [] ∧ XR w.heap.size w5 cs e ∧ Blk w5 w.heap.size 64 cs ∧ Below w.heap.size w w5 := by
  have k5 : Below W.heap.size W w5 := (below_alloc (Below.refl _ W) _).trans (below_of_grown hg5 (by simp) (by omega))
  have kw : Below w.heap.size w w5 := below_next k5 hb
  exact ⟨⟨hB5, d1.below k5, World.ownsRow_nil _ _ _ _, kw.size, by omega, by simp [Value.ownBlock], by simp [Value.ownBlock], by omega⟩, h.later kw, d0.below k5, kw⟩

/-- **expr.Names** -/
theorem names_own (e : Ex.X) (w : World) (cs : List Value) (h : XR w.heap.size w cs e) (hn : e.leaves ≤ 8796093022200) : Calls Try.prog 59 #[.agg cs.toArray] w fun r w' => ∃ v, r = .returned v ∧ w'.ownsRow w.heap.size 9 1 v (Ex.names [] e).length (strs (Ex.names [] e)) ∧ Below w.heap.size w w' := by
  obtain ⟨a0, a1, a2, A3, a4, a5, rfl, -, -⟩ := h.form
  obtain ⟨d0, d1, hz, hb⟩ := allocs2 w (xcells a0 a1 a2 A3 a4 a5) [.slice none 0 0] 64 116
  have d2 := Blk.new ((w.alloc (.cells (xcells a0 a1 a2 A3 a4 a5).toArray 64)).alloc (.cells [Value.slice none 0 0].toArray 116)) 136 [.nilFunc]
  rw [hz] at d2
  have HD := Lib.hid (fun w5 hB5 hg5 => names_world w _ w5 _ e hb hz d0 d1 h hB5 hg5)
  clear hb hz d0 d1 h
  unfold xcells at HD d2 ⊢
  go_enter Try.func59, Try.ntmps59
  go_wp2_with (first | (refine wpl_set_blk d2 0 (.func (.func 61) #[] #[.pointer (some ⟨w.heap.size + 1 + 1, 0, none⟩), .pointer (some ⟨w.heap.size + 1, 0, none⟩)]) (by kernel_rfl) (by simp) rfl rfl rfl rfl rfl rfl ?_; intro w5 hB5 hg5; obtain ⟨hL, hx, hb0, hbw⟩ := HD.out w5 hB5 hg5; have x0 := (hb0.cell 0).trans rfl; have x1 := (hb0.cell 1).trans rfl; have x2 := (hb0.cell 2).trans rfl; have x3 := (hb0.cell 3).trans rfl; have f5 := (hL.fn.cell 0).trans rfl; simp only [List.getElem?_cons_zero, List.getElem?_cons_succ] at x0 x1 x2 x3 f5; clear HD hB5 hg5 hb0 d2) | fail)
  refine (names1_ok e _ _ _ _ _ _ _ hx hL (by simpa using hn)).mono ?_
  rintro r w6 ⟨rfl, v6, L6, k6, o6⟩
  have y := (L6.blk.cell 0).trans rfl
  simp only [List.getElem?_cons_zero] at y
  have hs := L6.row
  have hb6 : Below w.heap.size w w6 := hbw.trans (k6.below hL.base (fun i hi => hi.elim (fun e => by omega) (fun e => by simp [Value.ownBlock] at e)))
  obtain ⟨V, c, rfl, -, -⟩ := own_slice L6.row
  have HS := Lib.hid (And.intro hs hb6)
  clear x0 x1 x2 x3 f5 hL hx hbw L6 k6 o6 hs hb6
  go_wp2
  go_ret
  exact ⟨_, rfl, HS.out⟩
theorem names_ok (e : Ex.X) (w : World) (cs : List Value) (h : XR w.heap.size w cs e) (hn : e.leaves ≤ 8796093022200) : Calls Try.prog 59 #[.agg cs.toArray] w fun r w' => ∃ v, r = .returned v ∧ SlV w' 1 v (Ex.names [] e).length (strs (Ex.names [] e)) ∧ Below w.heap.size w w' :=
  (names_own e w cs h hn).mono fun r w' ⟨v, h1, h2, h3⟩ => ⟨v, h1, SlV.of_own h2, h3⟩
end Go.Proofs.Ytajddbmmbhdnfaa
