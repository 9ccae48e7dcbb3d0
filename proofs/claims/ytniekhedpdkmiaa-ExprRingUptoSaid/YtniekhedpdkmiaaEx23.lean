/-
  SameExpr, walked: what has two.
-/
import Derived.Test.YtniekhedpdkmiaaEx22
namespace Go.Proofs.Ytniekhedpdkmiaa
set_option linter.unusedVariables false
set_option linter.unusedSimpArgs false
open Go.RowKit

def SameOK (e : Ex.X) : Prop := ∀ (f : Ex.X) (b : Bool), (b = true ↔ e = f) → ∀ (w : World) (ca cb : List Value), XN w.heap.size w ca e → XN w.heap.size w cb f →
    Calls Try.prog 15 #[.agg ca.toArray, .agg cb.toArray] w fun r w' => r = .returned (.bool b) ∧ Below w.heap.size w w'

set_option maxHeartbeats 2000000 in
theorem same_two (w : World) (k : Int) (g o cap g' o' cap' : Nat) (cs0 cs1 ds0 ds1 : List Value) (e0 e1 f0 f1 : Ex.X) (hle : 2 ≤ cap) (hm : cap ≤ maxLen) (hle' : 2 ≤ cap') (hm' : cap' ≤ maxLen)
    (hg : g < w.heap.size) (hg' : g' < w.heap.size) (h0 : ∀ j u, cs0[j]? = some u → w.cell? ⟨g, o + j, none⟩ = some u) (h1 : ∀ j u, cs1[j]? = some u → w.cell? ⟨g, o + 4 + j, none⟩ = some u)
    (h0' : ∀ j u, ds0[j]? = some u → w.cell? ⟨g', o' + j, none⟩ = some u) (h1' : ∀ j u, ds1[j]? = some u → w.cell? ⟨g', o' + 4 + j, none⟩ = some u)
    (x0 : XN w.heap.size w cs0 e0) (x1 : XN w.heap.size w cs1 e1) (y0 : XN w.heap.size w ds0 f0) (y1 : XN w.heap.size w ds1 f1) (ih0 : SameOK e0) (ih1 : SameOK e1) (p q : Bool) (hp : p = true ↔ e0 = f0) (hq : q = true ↔ e1 = f1) :
    Calls Try.prog 15 #[.agg (xcells k 0 ⟨#[]⟩ (some ⟨g, o, none⟩) 2 cap).toArray, .agg (xcells k 0 ⟨#[]⟩ (some ⟨g', o', none⟩) 2 cap').toArray] w fun r w' => r = .returned (.bool (p && q)) ∧ Below w.heap.size w w' := by
  have gE0 : ∀ w', Below w.heap.size w w' → Calls Try.prog 15 #[.agg cs0.toArray, .agg ds0.toArray] w' fun r w'' => r = .returned (.bool p) ∧ Below w'.heap.size w' w'' := fun w' hb => ih0 f0 p hp w' _ _ ((x0.later hb).up hb.size) ((y0.later hb).up hb.size)
  have gE1 : ∀ w', Below w.heap.size w w' → Calls Try.prog 15 #[.agg cs1.toArray, .agg ds1.toArray] w' fun r w'' => r = .returned (.bool q) ∧ Below w'.heap.size w' w'' := fun w' hb => ih1 f1 q hq w' _ _ ((x1.later hb).up hb.size) ((y1.later hb).up hb.size)
  have hW : ∃ W0, W0 = ((w.alloc (.cells (xcells k 0 ⟨#[]⟩ (some ⟨g, o, none⟩) 2 cap).toArray 38)).alloc (.cells (xcells k 0 ⟨#[]⟩ (some ⟨g', o', none⟩) 2 cap').toArray 38)) := ⟨_, rfl⟩
  obtain ⟨P0, P1, hz, hbw⟩ := allocs2 w (xcells k 0 ⟨#[]⟩ (some ⟨g, o, none⟩) 2 cap) (xcells k 0 ⟨#[]⟩ (some ⟨g', o', none⟩) 2 cap') 38 38
  obtain ⟨W0, hW0⟩ := hW
  rw [← hW0] at P0 P1 hz hbw
  have HW := Lib.hid hW0
  clear hW0
  obtain ⟨a0, a1, a2, A3, a4, a5, rfl, -, -⟩ := x0.form
  obtain ⟨b0, b1, b2, B3, b4, b5, rfl, -, -⟩ := x1.form
  obtain ⟨c0, c1, c2, C3, c4, c5, rfl, -, -⟩ := y0.form
  obtain ⟨d0, d1, d2, D3, d4, d5, rfl, -, -⟩ := y1.form
  clear x0 x1 y0 y1 ih0 ih1 hp hq
  have n0 : ∀ {p : Addr} {u : Value} {w' : World}, Below w.heap.size w w' → p.block < w.heap.size → w.cell? p = some u → w'.cell? p = some u := fun hb hl h => (hb.cell hl).trans h
  have keepS : ∀ w', Below W0.heap.size W0 w' → (Below W0.heap.size W0 w' ∧ w'.cell? ⟨w.heap.size, 3, none⟩ = some (.slice (some ⟨g, o, none⟩) 2 cap) ∧ w'.cell? ⟨w.heap.size + 1, 3, none⟩ = some (.slice (some ⟨g', o', none⟩) 2 cap') ∧ w'.cell? ⟨g, o, none⟩ = some (.int .i64 a0) ∧ w'.cell? ⟨g, o + 1, none⟩ = some (.int .i64 a1) ∧ w'.cell? ⟨g, o + 2, none⟩ = some (.string a2) ∧ w'.cell? ⟨g, o + 3, none⟩ = some (.slice A3 a4 a5) ∧ w'.cell? ⟨g, o + 4, none⟩ = some (.int .i64 b0) ∧ w'.cell? ⟨g, o + 5, none⟩ = some (.int .i64 b1) ∧ w'.cell? ⟨g, o + 6, none⟩ = some (.string b2) ∧ w'.cell? ⟨g, o + 7, none⟩ = some (.slice B3 b4 b5) ∧ w'.cell? ⟨g', o', none⟩ = some (.int .i64 c0) ∧ w'.cell? ⟨g', o' + 1, none⟩ = some (.int .i64 c1) ∧ w'.cell? ⟨g', o' + 2, none⟩ = some (.string c2) ∧ w'.cell? ⟨g', o' + 3, none⟩ = some (.slice C3 c4 c5) ∧ w'.cell? ⟨g', o' + 4, none⟩ = some (.int .i64 d0) ∧ w'.cell? ⟨g', o' + 5, none⟩ = some (.int .i64 d1) ∧ w'.cell? ⟨g', o' + 6, none⟩ = some (.string d2) ∧ w'.cell? ⟨g', o' + 7, none⟩ = some (.slice D3 d4 d5)) := fun w' hb =>
    ⟨hb, ((P0.below hb).cell 3).trans rfl, ((P1.below hb).cell 3).trans rfl, n0 (below_next hb hbw) hg (h0 0 _ rfl), n0 (below_next hb hbw) hg (h0 1 _ rfl), n0 (below_next hb hbw) hg (h0 2 _ rfl), n0 (below_next hb hbw) hg (h0 3 _ rfl), n0 (below_next hb hbw) hg (h1 0 _ rfl), n0 (below_next hb hbw) hg (h1 1 _ rfl), n0 (below_next hb hbw) hg (h1 2 _ rfl), n0 (below_next hb hbw) hg (h1 3 _ rfl), n0 (below_next hb hbw) hg' (h0' 0 _ rfl), n0 (below_next hb hbw) hg' (h0' 1 _ rfl), n0 (below_next hb hbw) hg' (h0' 2 _ rfl), n0 (below_next hb hbw) hg' (h0' 3 _ rfl), n0 (below_next hb hbw) hg' (h1' 0 _ rfl), n0 (below_next hb hbw) hg' (h1' 1 _ rfl), n0 (below_next hb hbw) hg' (h1' 2 _ rfl), n0 (below_next hb hbw) hg' (h1' 3 _ rfl)⟩
  clear h0 h1 h0' h1' n0 P0 P1 hz
  unfold maxLen at hm hm'
  unfold xcells at HW gE0 gE1 ⊢
  have HB := Lib.hid hbw
  have hr : ((⟨#[]⟩ : ByteArray).toList == (⟨#[]⟩ : ByteArray).toList) = true := by simp
  go_enter Try.func15, Try.ntmps15
  go_wp2
  go_loopw [37] (fun i wr => (i = .int .i64 0 ∨ (i = .int .i64 1 ∧ p = true) ∨ (i = .int .i64 2 ∧ p = true ∧ q = true)) ∧ Below W0.heap.size W0 wr) (fun i _ => 2 - (intOf i).toNat)
  case atStart => exact ⟨.inl rfl, by rw [HW.out]; exact Below.refl _ _⟩
  case round =>
    obtain ⟨rfl | ⟨rfl, rfl⟩ | ⟨rfl, rfl, rfl⟩, hbr⟩ := hrel
    · go_wp2
      have hS0 := keepS _ (below_drew hbr)
      refine wp_walk (by kernel_rfl) (by kernel_rfl) (fun _ _ => True) (fun w' => (Below W0.heap.size W0 w' ∧ w'.cell? ⟨w.heap.size, 3, none⟩ = some (.slice (some ⟨g, o, none⟩) 2 cap) ∧ w'.cell? ⟨w.heap.size + 1, 3, none⟩ = some (.slice (some ⟨g', o', none⟩) 2 cap') ∧ w'.cell? ⟨g, o, none⟩ = some (.int .i64 a0) ∧ w'.cell? ⟨g, o + 1, none⟩ = some (.int .i64 a1) ∧ w'.cell? ⟨g, o + 2, none⟩ = some (.string a2) ∧ w'.cell? ⟨g, o + 3, none⟩ = some (.slice A3 a4 a5) ∧ w'.cell? ⟨g, o + 4, none⟩ = some (.int .i64 b0) ∧ w'.cell? ⟨g, o + 5, none⟩ = some (.int .i64 b1) ∧ w'.cell? ⟨g, o + 6, none⟩ = some (.string b2) ∧ w'.cell? ⟨g, o + 7, none⟩ = some (.slice B3 b4 b5) ∧ w'.cell? ⟨g', o', none⟩ = some (.int .i64 c0) ∧ w'.cell? ⟨g', o' + 1, none⟩ = some (.int .i64 c1) ∧ w'.cell? ⟨g', o' + 2, none⟩ = some (.string c2) ∧ w'.cell? ⟨g', o' + 3, none⟩ = some (.slice C3 c4 c5) ∧ w'.cell? ⟨g', o' + 4, none⟩ = some (.int .i64 d0) ∧ w'.cell? ⟨g', o' + 5, none⟩ = some (.int .i64 d1) ∧ w'.cell? ⟨g', o' + 6, none⟩ = some (.string d2) ∧ w'.cell? ⟨g', o' + 7, none⟩ = some (.slice D3 d4 d5))) hS0 ?_
      repeat (first | (refine settle_skip (fun _ => by rfl) ?_; (simp only [Act.put, List.setIfInBounds_toArray, List.set_cons_zero, List.set_cons_succ])) | (refine' settle_run (fun _ _ => trivial) (fun _ => by rfl) ?_ ?_; rotate_left; (focus (intro ρ w hS hF; (try dsimp only at hS); go_split_ands; go_simp; try with_reducible rfl)); (simp only [Act.put, List.setIfInBounds_toArray, List.set_cons_zero, List.set_cons_succ])) | (refine' settle_step (fun _ => by rfl) ?_ ?_; rotate_left; (focus (intro ρ w hS hF K hK; (simp only [Act.put, List.setIfInBounds_toArray, List.set_cons_zero, List.set_cons_succ] at hK); go_simp; first | (go_at_call 15; refine (gE0 _ (below_next hS.1 hbw)).mono ?_; rintro e w6 ⟨rfl, hb6⟩; have hS' := keepS _ (below_next hb6 hS.1); have hE' := True.intro; exact hK _ hS' hE'))); (simp only [Act.put, List.setIfInBounds_toArray, List.set_cons_zero, List.set_cons_succ])))
      refine settle_nil ?_
      intro ρ w4 hS _
      have HS := Lib.hid hS.1
      clear keepS gE0 gE1 hS hS0
      rcases p with _ | _
      · go_wp2
        go_ret
        exact ⟨rfl, below_next HS.out HB.out⟩
      · go_wp2
        go_roundw
        case rel => exact ⟨.inr (.inl (by simp)), HS.out⟩
        case measure => simp [intOf]
    · go_wp2
      have hS0 := keepS _ (below_drew hbr)
      refine wp_walk (by kernel_rfl) (by kernel_rfl) (fun _ _ => True) (fun w' => (Below W0.heap.size W0 w' ∧ w'.cell? ⟨w.heap.size, 3, none⟩ = some (.slice (some ⟨g, o, none⟩) 2 cap) ∧ w'.cell? ⟨w.heap.size + 1, 3, none⟩ = some (.slice (some ⟨g', o', none⟩) 2 cap') ∧ w'.cell? ⟨g, o, none⟩ = some (.int .i64 a0) ∧ w'.cell? ⟨g, o + 1, none⟩ = some (.int .i64 a1) ∧ w'.cell? ⟨g, o + 2, none⟩ = some (.string a2) ∧ w'.cell? ⟨g, o + 3, none⟩ = some (.slice A3 a4 a5) ∧ w'.cell? ⟨g, o + 4, none⟩ = some (.int .i64 b0) ∧ w'.cell? ⟨g, o + 5, none⟩ = some (.int .i64 b1) ∧ w'.cell? ⟨g, o + 6, none⟩ = some (.string b2) ∧ w'.cell? ⟨g, o + 7, none⟩ = some (.slice B3 b4 b5) ∧ w'.cell? ⟨g', o', none⟩ = some (.int .i64 c0) ∧ w'.cell? ⟨g', o' + 1, none⟩ = some (.int .i64 c1) ∧ w'.cell? ⟨g', o' + 2, none⟩ = some (.string c2) ∧ w'.cell? ⟨g', o' + 3, none⟩ = some (.slice C3 c4 c5) ∧ w'.cell? ⟨g', o' + 4, none⟩ = some (.int .i64 d0) ∧ w'.cell? ⟨g', o' + 5, none⟩ = some (.int .i64 d1) ∧ w'.cell? ⟨g', o' + 6, none⟩ = some (.string d2) ∧ w'.cell? ⟨g', o' + 7, none⟩ = some (.slice D3 d4 d5))) hS0 ?_
      repeat (first | (refine settle_skip (fun _ => by rfl) ?_; (simp only [Act.put, List.setIfInBounds_toArray, List.set_cons_zero, List.set_cons_succ])) | (refine' settle_run (fun _ _ => trivial) (fun _ => by rfl) ?_ ?_; rotate_left; (focus (intro ρ w hS hF; (try dsimp only at hS); go_split_ands; go_simp; try with_reducible rfl)); (simp only [Act.put, List.setIfInBounds_toArray, List.set_cons_zero, List.set_cons_succ])) | (refine' settle_step (fun _ => by rfl) ?_ ?_; rotate_left; (focus (intro ρ w hS hF K hK; (simp only [Act.put, List.setIfInBounds_toArray, List.set_cons_zero, List.set_cons_succ] at hK); go_simp; first | (go_at_call 15; refine (gE1 _ (below_next hS.1 hbw)).mono ?_; rintro e w6 ⟨rfl, hb6⟩; have hS' := keepS _ (below_next hb6 hS.1); have hE' := True.intro; exact hK _ hS' hE'))); (simp only [Act.put, List.setIfInBounds_toArray, List.set_cons_zero, List.set_cons_succ])))
      refine settle_nil ?_
      intro ρ w4 hS _
      have HS := Lib.hid hS.1
      clear keepS gE0 gE1 hS hS0
      rcases q with _ | _
      · go_wp2
        go_ret
        exact ⟨rfl, below_next HS.out HB.out⟩
      · go_wp2
        go_roundw
        case rel => exact ⟨.inr (.inr (by simp)), HS.out⟩
        case measure => simp [intOf]
    · clear keepS gE0 gE1
      go_wp2
      go_ret
      exact ⟨rfl, below_next hbr HB.out⟩

namespace Ex
/-- what a node says itself -/
def head : X → Int × Int × ByteArray × Nat
  | .num n => (1, n, ⟨#[]⟩, 0)
  | .name s => (2, 0, ba s, 0)
  | .two k _ _ => (k, 0, ⟨#[]⟩, 2)
  | .bad => (0, 0, ⟨#[]⟩, 0)
end Ex
theorem XN.head {B : Nat} {w : World} {k n : Int} {s : ByteArray} {A : Option Addr} {len cap : Nat} {e : Ex.X} (h : XN B w (xcells k n s A len cap) e) : (k, n, s, len) = Ex.head e := by
  generalize hc : xcells k n s A len cap = cs at h
  cases h with
  | num n s A len cap h1 h2 h3 hN =>
    obtain ⟨rfl, rfl⟩ := hN rfl
    simp only [xcells, List.cons.injEq, Value.int.injEq, Value.string.injEq, Value.slice.injEq, true_and, and_true] at hc
    simp [Ex.head, hc]
  | name n s A len cap h1 h2 hN =>
    obtain ⟨rfl, rfl⟩ := hN rfl
    simp only [xcells, List.cons.injEq, Value.int.injEq, Value.string.injEq, Value.slice.injEq, true_and, and_true] at hc
    simp [Ex.head, hc, Ex.ba_data]
  | bad k n s A len cap h1 h2 h3 h4 h5 hN => cases hN
  | two k n s g o len cap cs0 cs1 e0 e1 h1 h2 h3 h4 h5 h6 h7 h8 r0 r1 hN =>
    obtain ⟨rfl, rfl, rfl⟩ := hN rfl
    simp only [xcells, List.cons.injEq, Value.int.injEq, Value.string.injEq, Value.slice.injEq, true_and, and_true] at hc
    simp [Ex.head, hc]
theorem Ex.ba_inj {s t : Ex.Bs} (h : Ex.ba s = Ex.ba t) : s = t := by
  have := congrArg (fun b : ByteArray => b.data.toList) h
  simpa [Ex.ba] using this

theorem same_diff (e f : Ex.X) (hd : Ex.head e ≠ Ex.head f) (b : Bool) (hb : b = true ↔ e = f) (w : World) (ca cb : List Value) (hx : XN w.heap.size w ca e) (hy : XN w.heap.size w cb f) :
    Calls Try.prog 15 #[.agg ca.toArray, .agg cb.toArray] w fun r w' => r = .returned (.bool b) ∧ Below w.heap.size w w' := by
  obtain ⟨k, n, s, A, len, cap, rfl, hle, hm⟩ := hx.form
  obtain ⟨k', n', s', A', len', cap', rfl, hle', hm'⟩ := hy.form
  have h1 := XN.head hx
  have h2 := XN.head hy
  have hb' : b = false := by
    rw [Bool.eq_false_iff]
    intro h
    rw [hb.1 h] at hd
    exact hd rfl
  subst hb'
  refine same_ne w k n k' n' s s' A A' len cap len' cap' hle hm hle' hm' ?_
  rw [Bool.eq_false_iff]
  intro h
  simp only [Bool.and_eq_true, beq_iff_eq] at h
  obtain ⟨rfl, rfl, h3, rfl⟩ := h
  obtain rfl : s = s' := Ex.bytes_eq (by simpa using h3)
  exact hd (h1 ▸ h2)

/-- **SameExpr**, of what the program itself made -/
theorem same_ok (e : Ex.X) : SameOK e := by
  induction e with
  | num n =>
    intro f b hb w ca cb hx hy
    by_cases hh : Ex.head (.num n) = Ex.head f
    · obtain rfl : f = .num n := by
        cases hy <;> simp only [Ex.head, Prod.mk.injEq] at hh <;> first | (obtain ⟨-, rfl, -⟩ := hh; rfl) | omega
      obtain rfl : b = true := hb.2 rfl
      cases hx with
      | num n s A len cap h1 h2 h3 hN =>
        obtain ⟨rfl, rfl⟩ := hN rfl
        cases hy with
        | num n s' A' len' cap' h1' h2' h3' hN' =>
          obtain ⟨rfl, rfl⟩ := hN' rfl
          exact same_leaf w 1 n _ A A' cap cap' h2 h2'
    · exact same_diff _ _ hh b hb w ca cb hx hy
  | name s =>
    intro f b hb w ca cb hx hy
    by_cases hh : Ex.head (.name s) = Ex.head f
    · obtain rfl : f = .name s := by
        cases hy <;> simp only [Ex.head, Prod.mk.injEq] at hh <;> first | omega | (rw [Ex.ba_inj hh.2.2.1])
      obtain rfl : b = true := hb.2 rfl
      generalize hs : Ex.X.name s = e at hx hy
      cases hx with
      | name n s A len cap h1 h2 hN =>
        obtain ⟨rfl, rfl⟩ := hN rfl
        generalize hs' : Ex.X.name s.data.toList = e at hy
        cases hy with
        | name n' s' A' len' cap' h1' h2' hN' =>
          obtain ⟨rfl, rfl⟩ := hN' rfl
          injection hs' with hs'
          obtain rfl : s = s' := by
            have := congrArg Ex.ba hs'
            rwa [Ex.ba_data, Ex.ba_data] at this
          exact same_leaf w 2 0 s A A' cap cap' h2 h2'
        | num => cases hs'
        | two => cases hs'
        | bad => cases hs'
      | num => cases hs
      | two => cases hs
      | bad => cases hs
    · exact same_diff _ _ hh b hb w ca cb hx hy
  | bad =>
    intro f b hb w ca cb hx hy
    cases hx with
    | bad k n s A len cap h1 h2 h3 h4 h5 hN => cases hN
  | two k a c ia ic =>
    intro f b hb w ca cb hx hy
    by_cases hh : Ex.head (.two k a c) = Ex.head f
    · cases hx with
      | two k n s g o len cap cs0 cs1 e0 e1 h1 h2 h3 h4 h5 h6 h7 h8 r0 r1 hN =>
        obtain ⟨rfl, rfl, rfl⟩ := hN rfl
        cases hy with
        | two k' n' s' g' o' len' cap' ds0 ds1 f0 f1 h1' h2' h3' h4' h5' h6' h7' h8' r0' r1' hN' =>
          obtain ⟨rfl, rfl, rfl⟩ := hN' rfl
          simp only [Ex.head, Prod.mk.injEq, and_true] at hh
          subst hh
          have hbb : b = (decide (a = f0) && decide (c = f1)) := by
            rw [Bool.eq_iff_iff, hb]
            simp
          rw [hbb]
          exact same_two w k g o cap g' o' cap' cs0 cs1 ds0 ds1 a c f0 f1 h1 h2 h1' h2' h6 h6' h7 h8 h7' h8' r0 r1 r0' r1' ia ic _ _ (by simp) (by simp)
        | num => simp only [Ex.head, Prod.mk.injEq] at hh; omega
        | name => simp only [Ex.head, Prod.mk.injEq] at hh; omega
        | bad k n s A len cap h1 h2 h3 h4 h5 hN => cases hN
    · exact same_diff _ _ hh b hb w ca cb hx hy
end Go.Proofs.Ytniekhedpdkmiaa
