/-
  Package graph, walked: first.
-/
import Derived.Test.YtcpoglchjkpbpaaDoorBs9
namespace Go.Proofs.YtcpoglchjkpbpaaDoor
set_option linter.unusedVariables false
set_option linter.unusedSimpArgs false
set_option maxRecDepth 100000
open Go.RowKit Go.Shelf

attribute [local go_sem] Oper.semAt_some

/-- the least of a set, or -1 -/
def Gr.least (l : List Nat) : Int := match l with | [] => -1 | n :: _ => (n : Int)
set_option maxHeartbeats 2000000 in
theorem first_any (w : World) (v : Value) (xs : List Nat) (h : SlU w v xs) (hT : Tab w) (hr : xs.length ≤ 17592186044) :
    Calls Tryd.prog 60 #[v] w fun e w' => (∃ r, e = .returned (.int .i64 r) ∧ r = Gr.least (Bs.ls 0 xs)) ∧ Below w.heap.size w w' := by
  obtain ⟨⟨A, c, rfl, hle, hm, hlen, hc⟩, hw⟩ := h
  clear hlen
  have hN := Bs.ls_length 0 xs hw
  have htl := hT.lt
  refine (callsIn_wide (n := 3)).1 ?_
  refine callsIn_of_wp_marks Tryd.func60 rfl trivial ?_ rfl
  simp only [Tryd.ntmps60, List.size_toArray, List.length_cons, List.length_nil, Nat.reduceAdd, Nat.reduceSub, Array.replicate_succ, Array.replicate_zero, List.push_toArray, List.append_toArray, List.nil_append, List.cons_append]
  gi_wp2_with fail
  refine ⟨trivial, (all_in _ _ _ _).mono ?_⟩
  rintro e w' ⟨rfl, rfl⟩
  have hbw : Below w.heap.size w ((w.alloc (.cells #[.int .i64 0] 3)).alloc (.cells #[.slice A xs.length c] 81)) := below_alloc (below_alloc (Below.refl _ _) _) _
  have p0 : Boxed ((w.alloc (.cells #[.int .i64 0] 3)).alloc (.cells #[.slice A xs.length c] 81)) w.heap.size 3 (.int .i64 0) := (Boxed.new w _ _).alloc _
  have p1 := Blk.new (w.alloc (.cells #[.int .i64 0] 3)) 81 [.slice A xs.length c]
  gi_wp2_with fail
  have hz : (w.alloc (.cells #[.int .i64 0] 3)).heap.size = w.heap.size + 1 := by simp
  rw [hz] at p1
  obtain ⟨p, hp⟩ : ∃ p, p = w.heap.size := ⟨_, rfl⟩
  rw [← hp] at p0 p1 ⊢
  have hsz : ((w.alloc (.cells #[.int .i64 0] 3)).alloc (.cells #[.slice A xs.length c] 81)).heap.size = p + 1 + 1 := by simp [hp]
  generalize ((w.alloc (.cells #[.int .i64 0] 3)).alloc (.cells #[.slice A xs.length c] 81)) = W0 at *
  have hcW : Cells W0 p A (nats xs) := by rw [hp]; exact hc.keep (Nat.le_refl _) (fun a ha => hbw.cell ha)
  have hTW : Tab W0 := fun j hj => (hbw.cell (p := ⟨0, j, none⟩) htl).trans (hT j hj)
  have hst := all_stops (p + 1) (p + 1 + 1) p c A xs hw (by omega) W0 (by omega) (by omega) ((p1.cell 0).trans rfl) hcW (by omega) hTW (by omega) (by omega)
  have y0 : W0.cell? ⟨p, 0, none⟩ = some (.int .i64 0) := p0.cell
  have yf : W0.frozen? ⟨p, 0, none⟩ = false := p0.frozen
  have HP := Lib.hid hp
  have hps : w.heap.size ≤ p := by omega
  clear hp hz hc hT p1 p0
  refine wpIn_rangeFunc_ownH rfl (by omega) (gf := 65) (lb := #[.pointer (some ⟨p + 1, 0, none⟩)]) rfl trivial (enters_of Tryd.func65 (by kernel_rfl) rfl)
    hst (fun h k => h.trans k) (kpP_b (by omega)) (Below.refl _ _) (fun _ => rfl)
    (fun pre W => (pre = [] ∧ W.cell? ⟨p, 0, none⟩ = some (.int .i64 0) ∧ W.frozen? ⟨p, 0, none⟩ = false) ∧ Below w.heap.size w W)
    (fun c pre W => (c = .ret ∧ ∃ x : Nat, pre = [x] ∧ W.cell? ⟨p, 0, none⟩ = some (.int .i64 (x : Int))) ∧ Below w.heap.size w W)
    (OwnFrom.and (Own.from (fun s A B row hs hg hr => ⟨hs.1, cell_kept hs.2.1 hg hr, (frozen_kept hs.2.1 hg hr).trans hs.2.2⟩) _) (ownFrom_below (Nat.le_refl _) (by have := hbw.size; omega)))
    (fun c => OwnFrom.and (Own.from (fun s A B row hs hg hr => by obtain ⟨hc, x, e1, e2⟩ := hs; exact ⟨hc, x, e1, cell_kept e2 hg hr⟩) _) (ownFrom_below (Nat.le_refl _) (by have := hbw.size; omega)))
    ⟨⟨rfl, y0, yf⟩, hbw⟩
    (fun x a' W => a' = { tmps := #[.slice A xs.length c, undef, .pointer (some ⟨p, 0, none⟩), .int .i64 (x : Int), .slice A xs.length c, .func (.func 65) #[] #[.pointer (some ⟨p + 1, 0, none⟩)], .int .i64 (x : Int), undef], defers := [] })
    (fun x a' _ X Y row hs hg hr => hs)
    ?assign ?body ?done ?stop
  case assign =>
    rintro l pre x W K hI hK
    gi_wp2
    exact hK _ _ (KeepsFrom.refl _ _) (KpP.refl _ _ _) hI rfl
  case body =>
    rintro l pre x a' W hl ⟨r, hr⟩ ⟨⟨rfl, i2, i3⟩, i5⟩ rfl hlt
    gi_wp2
    exact ⟨(KeepsOthers.setCell _ _ _).from _, ⟨rfl, x, rfl, World.cell?_setCell_same' _ _ _ (by rw [i2]; rfl)⟩, i5.setCell (p := ⟨p, 0, none⟩) hps _⟩
  case done =>
    rintro D ys W hD rfl ⟨⟨e0, i2, i3⟩, i5⟩ hK
    gi_wp2
    have hK' := (KeepsOthers.setCell W ⟨p, 0, none⟩ (.int .i64 (-1))).same D _ hK rfl
    refine ⟨by simp, .inl ⟨_, _, rfl, run_takeDeferred hK', ?_⟩⟩
    have hc5 := cell_kept (World.cell?_setCell_same' W ⟨p, 0, none⟩ (.int .i64 (-1)) (by rw [i2]; rfl)) (grownBy_putObj' _ D (.deferred none)) (fun r e => by cases e; exact ⟨_, hK', rfl⟩)
    refine ⟨.int .i64 (-1), by simp [results, Tryd.results60, go_sem, hc5], ⟨-1, rfl, by rw [e0]; rfl⟩, (i5.setCell (p := ⟨p, 0, none⟩) hps _).trans (belowK_b (w := w) (Nat.le_refl _) _ D _ _ (by omega) hK' rfl rfl)⟩
  case stop =>
    rintro D c pre W hD ⟨t, ht⟩ ⟨⟨rfl, x, e1, e4⟩, i5⟩ hK
    gi_wp2
    refine ⟨by simp, .inl ⟨_, _, rfl, run_takeDeferred hK, ?_⟩⟩
    have hc5 := cell_kept e4 (grownBy_putObj' _ D (.deferred none)) (fun r e => by cases e; exact ⟨_, hK, rfl⟩)
    refine ⟨.int .i64 x, by simp [results, Tryd.results60, go_sem, hc5], ⟨_, rfl, by rw [ht, e1]; rfl⟩, i5.trans (belowK_b (w := w) (Nat.le_refl _) W D _ _ (by omega) hK rfl rfl)⟩
end Go.Proofs.YtcpoglchjkpbpaaDoor
