/-
  expr.Eval at a name: the loop over slices.Backward.
-/
import Derived.Test.YtajddbmmbhdnfaaEx4
namespace Go.Proofs.Ytajddbmmbhdnfaa
set_option linter.unusedVariables false
set_option linter.unusedSimpArgs false
set_option maxRecDepth 100000
open Go.RowKit Go.Shelf

attribute [local go_sem] Oper.semAt_some

theorem eval_name_in (n : Int) (s : ByteArray) (A : Option Addr) (len cap : Nat) (w : World) (hle : len ≤ cap) (hm : cap ≤ maxLen) (zs : List Ex.Bd) (V : Option Addr) (vc : Nat) (hc : Cells w w.heap.size V (Ex.bindcs zs)) (hr : zs.length ≤ 8796093022200) :
    Calls Try.prog 47 #[.agg (xcells 2 n s A len cap).toArray, .slice V zs.length vc] w fun e w' => (∃ r, e = .returned (.int .i64 r) ∧ ((r = 0 ∧ ∀ p ∈ Ex.down zs 0, (p.2.1.toList == s.toList) = false) ∨ (∃ m ini x, m ≤ zs.length ∧ Ex.down zs m = ini ++ [(x : Nat × Ex.Bd)] ∧ (x.2.1.toList == s.toList) = true ∧ (∀ p ∈ ini, (p.2.1.toList == s.toList) = false) ∧ r = x.2.2))) ∧ Below w.heap.size w w' := by
  refine (callsIn_wide (n := 3)).1 ?_
  have h1 : 1 ≤ 3 := by omega
  refine callsIn_of_wp_marks Try.func47 rfl trivial ?_ rfl
  simp only [Try.ntmps47, List.size_toArray, List.length_cons, List.length_nil, Nat.reduceAdd, Nat.reduceSub, Array.replicate_succ, Array.replicate_zero, List.push_toArray, List.append_toArray, List.nil_append, List.cons_append]
  unfold xcells
  gi_wp2_with fail
  refine ⟨trivial, (callsIn_wide.2 (two_no _ 2 n s A len cap (by omega) hle hm)).mono ?_⟩
  rintro e w1 ⟨rfl, hb1⟩
  unfold Ex.zeros
  obtain ⟨q0, q1, hz, hbw⟩ := allocs2 w (xcells 2 n s A len cap) [.int .i64 0] 64 3
  unfold xcells at q0 q1 hz hbw
  have p0 := q0.below hb1
  have p1 := q1.below hb1
  have hbw1 := below_next hb1 hbw
  have hz1 := hb1.size
  rw [hz] at hz1
  clear q0 q1 hz hb1 hbw
  have x0 : ∀ o o' : Obj, ((w1.alloc o).alloc o').cell? ⟨w.heap.size, 0, none⟩ = some (.int .i64 2) := fun o o' => (((p0.alloc o).alloc o').cell 0).trans rfl
  gi_wp2_with fail
  refine ⟨trivial, (backward_in Fence.wide _ trivial rfl _ _ _ _).mono ?_⟩
  rintro e w' ⟨rfl, rfl⟩
  have p0 := ((p0.alloc (.cells Ex.zeros.toArray 64)).alloc (.cells Ex.zeros.toArray 64)).alloc (.cells #[.slice V zs.length vc] 118)
  have p1 := ((p1.alloc (.cells Ex.zeros.toArray 64)).alloc (.cells Ex.zeros.toArray 64)).alloc (.cells #[.slice V zs.length vc] 118)
  have hbw3 : Below w.heap.size w (((w1.alloc (.cells Ex.zeros.toArray 64)).alloc (.cells Ex.zeros.toArray 64)).alloc (.cells #[.slice V zs.length vc] 118)) := below_alloc (below_alloc (below_alloc hbw1 _) _) _
  have p2 := Blk.new ((w1.alloc (.cells Ex.zeros.toArray 64)).alloc (.cells Ex.zeros.toArray 64)) 118 [.slice V zs.length vc]
  unfold Ex.zeros at p0 p1 hbw3 p2
  gi_wp2_with fail
  simp only [World.size_alloc] at p2
  obtain ⟨k1, hk1⟩ : ∃ k, k = w1.heap.size := ⟨_, rfl⟩
  simp only [← hk1] at *
  generalize ((w1.alloc (.cells #[.int .i64 0, .int .i64 0, .string ⟨#[]⟩, .slice none 0 0] 64)).alloc (.cells #[.int .i64 0, .int .i64 0, .string ⟨#[]⟩, .slice none 0 0] 64)).alloc (.cells #[.slice V zs.length vc] 118) = W0 at *
  clear x0 hbw1
  have l2 := p2.lt
  have hx2 : W0.cell? ⟨w.heap.size, 2, none⟩ = some (.string s) := (p0.cell 2).trans rfl
  have y0 : W0.cell? ⟨w.heap.size + 1, 0, none⟩ = some (.int .i64 0) := (p1.cell 0).trans rfl
  have yf : W0.frozen? ⟨w.heap.size + 1, 0, none⟩ = false := p1.frozen 0
  have hcW : Cells W0 W0.heap.size V (Ex.bindcs zs) := hc.keep (by omega) (fun p hp => hbw3.cell hp)
  refine wpIn_rangeFunc_ownH rfl (by omega) (gf := 58) (lb := #[.pointer (some ⟨k1 + 1 + 1, 0, none⟩)]) rfl trivial (enters_of Try.func58 (by kernel_rfl) rfl)
    (backward_stops Fence.wide 2 trivial rfl (by omega) (k1 + 1 + 1) W0.heap.size vc V zs hr W0 l2 (Nat.le_refl _) ((p2.cell 0).trans rfl) hcW) belowK_t (belowK_b (Nat.le_refl _)) (Below.refl _ _) (fun _ => rfl)
    (fun pre W => ((∀ p ∈ pre, (p.2.1.toList == s.toList) = false) ∧ W.cell? ⟨w.heap.size, 2, none⟩ = some (.string s) ∧ W.cell? ⟨w.heap.size + 1, 0, none⟩ = some (.int .i64 0) ∧ W.frozen? ⟨w.heap.size + 1, 0, none⟩ = false) ∧ Below W0.heap.size W0 W)
    (fun c pre W => (c = .ret ∧ ∃ ini x, pre = ini ++ [(x : Nat × Ex.Bd)] ∧ (∀ p ∈ ini, (p.2.1.toList == s.toList) = false) ∧ (x.2.1.toList == s.toList) = true ∧ W.cell? ⟨w.heap.size + 1, 0, none⟩ = some (.int .i64 x.2.2)) ∧ Below w.heap.size w W)
    (OwnFrom.and (Own.from (fun s A B row hs hg hr => ⟨hs.1, cell_kept hs.2.1 hg hr, cell_kept hs.2.2.1 hg hr, (frozen_kept hs.2.2.1 hg hr).trans hs.2.2.2⟩) _) (ownFrom_below (Nat.le_refl _) (Nat.le_refl _)))
    (fun c => OwnFrom.and (Own.from (fun s A B row hs hg hr => by obtain ⟨hc, ini, x, e1, e2, e3, e4⟩ := hs; exact ⟨hc, ini, x, e1, e2, e3, cell_kept e4 hg hr⟩) _) (ownFrom_below (Nat.le_refl _) (by omega)))
    ⟨⟨by simp, hx2, y0, yf⟩, Below.refl _ _⟩
    (fun x a' W => ∃ Bx, w.heap.size + 1 < Bx ∧ (W.cell? ⟨Bx, 0, none⟩ = some (.string x.2.1) ∧ W.cell? ⟨Bx, 1, none⟩ = some (.int .i64 x.2.2)) ∧ a' = { tmps := #[(.agg #[.int .i64 2, .int .i64 n, .string s, .slice A len cap]), .slice V zs.length vc, (.pointer (some ⟨w.heap.size, 0, none⟩)), undef, (.pointer (some ⟨w.heap.size + 1, 0, none⟩)), (.pointer (some ⟨k1, 0, none⟩)), (.pointer (some ⟨k1 + 1, 0, none⟩)), .bool false, undef, (.pointer (some ⟨Bx, 0, none⟩)), (.tuple #[(.agg #[.int .i64 0, .int .i64 0, .string ⟨#[]⟩, .slice none 0 0]), (.agg #[.int .i64 0, .int .i64 0, .string ⟨#[]⟩, .slice none 0 0]), .bool false]), (.agg #[.int .i64 2, .int .i64 n, .string s, .slice A len cap]), (.tuple #[(.agg #[.int .i64 0, .int .i64 0, .string ⟨#[]⟩, .slice none 0 0]), (.agg #[.int .i64 0, .int .i64 0, .string ⟨#[]⟩, .slice none 0 0]), .bool false]), (.agg #[.int .i64 0, .int .i64 0, .string ⟨#[]⟩, .slice none 0 0]), (.agg #[.int .i64 0, .int .i64 0, .string ⟨#[]⟩, .slice none 0 0]), .bool false, .bool false, .bool false, undef, undef, undef, undef, undef, undef, undef, undef, undef, .bool false, (.pointer (some ⟨w.heap.size, 0, none⟩)), .int .i64 2, .bool false, undef, undef, .bool true, (.pointer (some ⟨w.heap.size, 0, none⟩)), .int .i64 2, .bool true, .slice V zs.length vc, (.func (.func 58) #[] #[(.pointer (some ⟨k1 + 1 + 1, 0, none⟩))]), .int .i64 (x.1 : Int), (.agg #[.string x.2.1, .int .i64 x.2.2]), undef, undef, undef, undef, undef, undef, undef], defers := [] })
    (fun x a' _ X Y row hs hg hr => by obtain ⟨Bx, h1, ⟨h2, h3⟩, h4⟩ := hs; exact ⟨Bx, h1, ⟨cell_kept h2 hg (fun r e => (hr r e).2), cell_kept h3 hg (fun r e => (hr r e).2)⟩, h4⟩)
    ?assign ?body ?done ?stop
  case assign =>
    rintro l pre x W K ⟨⟨i1, i2, i3, i4⟩, i5⟩ hK
    gi_wp2
    have hs5 := i5.size
    have ha := fun (o : Obj) => (Below.refl W.heap.size W).alloc (Nat.le_refl _) o
    have hB := Blk.new W 121 [.string x.2.1, .int .i64 x.2.2]
    refine hK _ _ ((KeepsOthers.alloc _ _).from _) ((Below.refl _ W).alloc hs5 _) ⟨⟨i1, ((ha _).cell (p := ⟨w.heap.size, 2, none⟩) (show w.heap.size < W.heap.size by omega)).trans i2, ((ha _).cell (p := ⟨w.heap.size + 1, 0, none⟩) (show w.heap.size + 1 < W.heap.size by omega)).trans i3, ((ha _).frozen (p := ⟨w.heap.size + 1, 0, none⟩) (show w.heap.size + 1 < W.heap.size by omega)).trans i4⟩, i5.alloc hs5 _⟩ ⟨W.heap.size, by omega, ⟨(hB.cell 0).trans rfl, (hB.cell 1).trans rfl⟩, rfl⟩
  case body =>
    rintro l pre x a' W hl ⟨r, hr⟩ ⟨⟨i1, i2, i3, i4⟩, i5⟩ ⟨Bx, hBx, ⟨bx0, bx1⟩, rfl⟩ hlt
    rcases hq : (x.2.1.toList == s.toList) with _ | _
    · gi_wp2
      exact ⟨KeepsFrom.refl _ _, Below.refl _ _, ⟨fun p hp => (List.mem_append.1 hp).elim (i1 p) (fun e => by simp at e; subst e; exact hq), i2, i3, i4⟩, i5⟩
    · have i6 := hbw3.trans (i5.mono (show w.heap.size ≤ W0.heap.size by omega))
      gi_wp2
      exact ⟨(KeepsOthers.setCell _ _ _).from _, ⟨rfl, pre, x, rfl, i1, hq, World.cell?_setCell_same' _ _ _ (by rw [i3]; rfl)⟩, i6.setCell (p := ⟨w.heap.size + 1, 0, none⟩) (by simp) _⟩
  case done =>
    rintro D ys W hD rfl ⟨⟨i1, i2, i3, i4⟩, i0⟩ hK
    have i5 := hbw3.trans (i0.mono (show w.heap.size ≤ W0.heap.size by omega))
    clear i0
    gi_wp2
    have hK' := (KeepsOthers.setCell W ⟨w.heap.size + 1, 0, none⟩ (.int .i64 0)).same D _ hK rfl
    refine ⟨by simp, .inl ⟨_, _, rfl, run_takeDeferred hK', ?_⟩⟩
    have hc5 := cell_kept (World.cell?_setCell_same' W ⟨w.heap.size + 1, 0, none⟩ (.int .i64 0) (by rw [i3]; rfl)) (grownBy_putObj' _ D (.deferred none)) (fun r e => by cases e; exact ⟨_, hK', rfl⟩)
    refine ⟨.int .i64 0, by simp [results, Try.results47, go_sem, hc5], ⟨0, rfl, .inl ⟨rfl, i1⟩⟩, (i5.setCell (p := ⟨w.heap.size + 1, 0, none⟩) (by simp) _).trans (belowK_b (w := w) (Nat.le_refl _) _ D _ _ (by omega) hK' rfl rfl)⟩
  case stop =>
    rintro D c pre W hD ⟨m, hm, rfl⟩ ⟨⟨rfl, ini, x, e1, e2, e3, e4⟩, i5⟩ hK
    gi_wp2
    refine ⟨by simp, .inl ⟨_, _, rfl, run_takeDeferred hK, ?_⟩⟩
    have hc5 := cell_kept e4 (grownBy_putObj' _ D (.deferred none)) (fun r e => by cases e; exact ⟨_, hK, rfl⟩)
    refine ⟨.int .i64 x.2.2, by simp [results, Try.results47, go_sem, hc5], ⟨_, rfl, .inr ⟨m, ini, x, hm, e1, e3, e2, rfl⟩⟩, i5.trans (belowK_b (w := w) (Nat.le_refl _) W D _ _ (by omega) hK rfl rfl)⟩
end Go.Proofs.Ytajddbmmbhdnfaa
