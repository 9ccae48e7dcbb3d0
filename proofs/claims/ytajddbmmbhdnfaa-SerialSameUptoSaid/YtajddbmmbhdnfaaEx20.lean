/-
  expr.Names, walked.
-/
import Derived.Test.YtajddbmmbhdnfaaEx19
namespace Go.Proofs.Ytajddbmmbhdnfaa
set_option linter.unusedVariables false
set_option linter.unusedSimpArgs false
set_option maxRecDepth 100000
open Go.RowKit

def NmOK (e : Ex.X) : Prop := ∀ (B : Nat) (w : World) (gf g : Nat) (v : Value) (xs : List ByteArray) (cs : List Value), XR B w cs e → Nm B w gf g v xs → xs.length + e.leaves ≤ 8796093022200 →
    Calls Try.prog 61 #[.agg cs.toArray, .pointer (some ⟨gf, 0, none⟩), .pointer (some ⟨g, 0, none⟩)] w (NmEnd B w gf g v (Ex.names xs e))

set_option maxHeartbeats 2000000 in
theorem names1_two (k : Int) (e0 e1 : Ex.X) (ih0 : NmOK e0) (ih1 : NmOK e1) : NmOK (.two k e0 e1) := by
  intro B w gf g v xs cs h hL hn
  unfold Ex.X.leaves at hn
  have hB := hL.base
  have h2 := h.alloc hB (.cells cs.toArray 64)
  have hb0 : Below w.heap.size w (w.alloc (.cells cs.toArray 64)) := below_alloc (Below.refl _ _) _
  have hB2 : B ≤ (w.alloc (.cells cs.toArray 64)).heap.size := by simp; omega
  have hz0 := hb0.size
  obtain ⟨a0, a1, a2, A3, a4, a5, rfl, -, -⟩ := h.form
  unfold xcells at h2 hb0 hB2 hz0 ⊢
  clear h
  go_enter Try.func61, Try.ntmps61
  go_wp2_with fail
  refine (two_yes _ _ _ k e0 e1 h2 hB2).mono ?_
  rintro e w1 ⟨c0, c1, rfl, r0, r1, hb1⟩
  have hbw1 := below_next hb1 hb0
  replace r0 := r0.later (hb1.mono hB2)
  replace r1 := r1.later (hb1.mono hB2)
  clear h2 hb0 hb1 hB2 hz0
  have hs1 := hbw1.size
  obtain ⟨q0, q1, hz3, hb3⟩ := allocs2 w1 c0 c1 64 64
  have hbw3 := below_next hb3 hbw1
  replace r0 := r0.later (hb3.mono (by omega))
  replace r1 := r1.later (hb3.mono (by omega))
  have hL3 := hL.keeps (keeps_below hbw3)
  have hkw := keeps_below hbw3
  have hvw : ∀ i, v.ownBlock = some i → i < w.heap.size := fun i hi => (hL.row.lt i hi).2
  have hvB : ∀ i, v.ownBlock = some i → B ≤ i := own_ge hL.row
  have hgw := hL.blk.lt
  have hgB := hL.at_
  clear hbw1 hbw3 hb3 hL
  obtain ⟨b0, b1, b2, B3, b4, b5, rfl, -, -⟩ := r0.form
  obtain ⟨d0, d1, d2, D3, d4, d5, rfl, -, -⟩ := r1.form
  unfold xcells at q0 q1 hz3 r0 r1 hL3 hkw ⊢
  have HK := Lib.hid hkw
  have f3 := (hL3.fn.cell 0).trans rfl
  simp only [List.getElem?_cons_zero] at f3
  clear hkw q0
  go_wp2_with fail
  refine (ih0 B _ gf g v xs _ r0 hL3 (by omega)).mono ?_
  rintro e w2 ⟨rfl, v2, L2, k2, o2⟩
  rw [hz3] at o2
  have hl1 := Ex.names_length xs e0
  have hbel := k2.below (B := B) hL3.base (fun i hi => hi.elim (fun e => by omega) (hvB i))
  have hz2 := hbel.size
  have r1' := r1.later hbel
  have Q1 := q1.keeps k2 (fun h => h.elim (fun e => by omega) (fun e => by have := hvw _ e; omega))
  have d0' := (Q1.cell 0).trans rfl
  have d1' := (Q1.cell 1).trans rfl
  have d2' := (Q1.cell 2).trans rfl
  have d3' := (Q1.cell 3).trans rfl
  have f2 := (L2.fn.cell 0).trans rfl
  simp only [List.getElem?_cons_zero, List.getElem?_cons_succ] at d0' d1' d2' d3' f2
  have kk := HK.out.mono (S' := fun k => k = g ∨ v.ownBlock = some k) (fun _ h => h.elim) |>.trans k2
  clear Q1 hbel r0 r1 hL3 k2 HK q1 hz2 hz3 f3
  go_wp2_with fail
  refine (ih1 B _ gf g v2 _ _ r1' L2 (by omega)).mono ?_
  rintro e w3 ⟨rfl, v3, L3, k3, o3⟩
  have hw2 := kk.size
  have kf := kk.step k3 (fun i hi h => h.elim .inl (fun e => (o2 i e).elim .inr (fun h => by omega)))
  clear d0' d1' d2' d3' f2 r1' L2
  go_wp2
  go_end0
  exact ⟨rfl, v3, L3, kf, fun i hi => (o3 i hi).elim (fun h => (o2 i h).imp id (fun h => by omega)) (fun h => .inr (by omega))⟩

theorem names1_ok : ∀ e : Ex.X, NmOK e
  | .num n => fun B w gf g v xs cs h hL hn => by
    cases h with
    | num n s A len cap h1 h2 h3 => exact names1_odd B w gf g v xs hL 1 n s A len cap (by omega) h1 h2 rfl
  | .bad => fun B w gf g v xs cs h hL hn => by
    cases h with
    | bad k n s A len cap h1 h2 h3 h4 h5 => exact names1_odd B w gf g v xs hL k n s A len cap h5 h1 h2 (by simpa using h4)
  | .name s => fun B w gf g v xs cs h hL hn => by
    cases h with
    | name n s A len cap h1 h2 =>
      unfold Ex.X.leaves at hn
      unfold Ex.names
      rw [Ex.ba_data]
      rcases hs : Ex.has s xs with _ | _
      · simpa using names1_new B w gf g v xs hL n s A len cap h1 h2 hs (by omega)
      · simpa using names1_has B w gf g v xs hL n s A len cap h1 h2 hs
  | .two k a b => names1_two k a b (names1_ok a) (names1_ok b)
end Go.Proofs.Ytajddbmmbhdnfaa
