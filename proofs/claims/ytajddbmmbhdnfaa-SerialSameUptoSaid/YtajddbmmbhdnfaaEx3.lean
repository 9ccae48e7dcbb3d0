/-
  slices.Backward over bindings: a range over a function.
-/
import Derived.Test.YtajddbmmbhdnfaaEx2
import Derived.RangeFuncNested
import Derived.RangeFuncBound
import Derived.RangeFuncCalls
import Derived.RangeFuncLeaves
import Derived.Shelf.Abstract
import Derived.Shelf.RegionOpen
import Derived.WalkKit
import Derived.OwnWalkIn
import Derived.TacticsInMore
import Derived.LoopNIn
import Derived.LoopIn
namespace Go.Proofs.Ytajddbmmbhdnfaa
set_option linter.unusedVariables false
set_option linter.unusedSimpArgs false
set_option maxRecDepth 100000
open Go.RowKit Go.Shelf

attribute [local go_sem] Oper.semAt_some

namespace Ex
abbrev Bd := ByteArray × Int
def bindc (x : Bd) : List Value := [.string x.1, .int .i64 x.2]
def bindcs (l : List Bd) : List Value := l.flatMap bindc
theorem bindcs_length (l : List Bd) : (bindcs l).length = l.length * 2 := flat_length bindc 2 (fun _ => rfl) l
/-- the two cells of one binding -/
theorem bind_cells {w : World} {B : Nat} {A : Option Addr} {zs : List Bd} (h : Cells w B A (bindcs zs)) {k : Nat} {o : Bd} (ho : zs[k]? = some o) :
    ∃ b off, A = some ⟨b, off, none⟩ ∧ b < B ∧ w.cell? ⟨b, off + k * 2, none⟩ = some (.string o.1) ∧ w.cell? ⟨b, off + k * 2 + 1, none⟩ = some (.int .i64 o.2) := by
  have g : ∀ j, j < 2 → (bindcs zs)[k * 2 + j]? = (bindc o)[j]? := fun j hj => flat_get bindc 2 (fun _ => rfl) zs k j o ho hj
  obtain ⟨b, off, hA, hb, hc⟩ := h.at_ (by
    intro h0
    have := g 0 (by decide)
    rw [h0] at this
    simp [bindc] at this)
  exact ⟨b, off, hA, hb, hc _ _ (g 0 (by decide)), hc _ _ (g 1 (by decide))⟩
/-- what has come, m being left: downward -/
def down (zs : List Bd) (m : Nat) : List (Nat × Bd) := ((zs.zipIdx.drop m).map fun x => (x.2, x.1)).reverse
theorem down_all (zs : List Bd) : down zs zs.length = [] := by simp [down]
theorem down_succ (zs : List Bd) (m : Nat) (x : Bd) (h : zs[m]? = some x) : down zs m = down zs (m + 1) ++ [(m, x)] := by
  obtain ⟨hlt, hx⟩ := List.getElem?_eq_some_iff.1 h
  unfold down
  rw [List.drop_eq_getElem_cons (by simpa using hlt)]
  simp [hx]
theorem down_length (zs : List Bd) (m : Nat) : (down zs m).length = zs.length - m := by simp [down]
theorem down_snd (zs : List Bd) (m : Nat) : (down zs m).map Prod.snd = (zs.drop m).reverse := by
  unfold down
  rw [List.map_reverse, List.map_map]
  congr 1
  show List.map Prod.fst (List.drop m zs.zipIdx) = _
  rw [List.map_drop, List.zipIdx_map_fst]
end Ex

/-- the closure -/
theorem backward1_in (F : Fence) (n : Nat) (hF : F.fn 58) (hro : F.round = none) (hn : 1 ≤ n) (l Bs n₀ cap : Nat) (A : Option Addr) (zs : List Ex.Bd) (hreach : zs.length ≤ 8796093022200) (J Jx : List (Nat × Ex.Bd) → World → Prop)
    (hY : ∀ pre x W, J pre W → pre.length < zs.length → YieldAt F (n - 1) Try.prog l #[.int .i64 (x.1 : Int), .agg #[.string x.2.1, .int .i64 x.2.2]] W fun e W' =>
      (e = .returned (.bool true) ∧ J (pre ++ [x]) W' ∧ Below n₀ W W') ∨ (e = .returned (.bool false) ∧ Jx (pre ++ [x]) W'))
    (W : World) (hB : Bs < n₀) (hBs : W.cell? ⟨Bs, 0, none⟩ = some (.slice A zs.length cap)) (hc : Cells W n₀ A (Ex.bindcs zs)) (h0 : J [] W) :
    CallsIn F n Try.prog 58 #[.func (.yield l) #[] #[], .pointer (some ⟨Bs, 0, none⟩)] W fun e W' => (∃ v, e = .returned v) ∧
      ((J (Ex.down zs 0) W') ∨ (∃ m, m ≤ zs.length ∧ Jx (Ex.down zs m) W')) := by
  refine callsIn_of_wp Try.func58 rfl hF ?_ hro
  simp only [Try.ntmps58, List.size_toArray, List.length_cons, List.length_nil, Nat.reduceAdd, Nat.reduceSub, Array.replicate_succ, Array.replicate_zero, List.push_toArray, List.append_toArray, List.nil_append, List.cons_append]
  gi_wp2
  gi_loopw [3] (fun i wr => ∃ m : Nat, m ≤ zs.length ∧ i = .int .i64 ((m : Int) - 1) ∧ J (Ex.down zs m) wr ∧ Below n₀ W wr)
    (fun i _ => (intOf i + 1).toNat)
  case atStart => exact ⟨zs.length, Nat.le_refl _, rfl, by rw [Ex.down_all]; exact h0, Below.refl _ _⟩
  case round =>
    obtain ⟨m, hm, rfl, hJs, hnx⟩ := hrel
    have hbx := (hnx.cell (p := ⟨Bs, 0, none⟩) hB).trans hBs
    match m, hm, hJs with
    | 0, _, hJs =>
      gi_wp2
      go_end0
      exact ⟨⟨_, rfl⟩, .inl hJs⟩
    | m + 1, hm, hJs =>
      have hx : zs[m]? = some zs[m] := List.getElem?_eq_getElem hm
      obtain ⟨x, hxx⟩ : ∃ x, x = zs[m] := ⟨_, rfl⟩
      rw [← hxx] at hx
      clear hxx
      obtain ⟨b, off, rfl, hb, hc0, hc1⟩ := Ex.bind_cells hc hx
      have hcx0 := (hnx.cell (p := ⟨b, off + m * 2, none⟩) hb).trans hc0
      have hcx1 := (hnx.cell (p := ⟨b, off + m * 2 + 1, none⟩) hb).trans hc1
      clear hc0 hc1
      rw [show ((m + 1 : Nat) : Int) - 1 = (m : Int) by omega] at *
      obtain ⟨fn, tmps, assign, body, hy, hR⟩ := hY _ (m, x) wr hJs (by rw [Ex.down_length]; omega)
      dsimp only at hy
      rw [← Ex.down_succ zs m x hx] at hR
      gi_wp2
      refine hR.mono ?_
      rintro e W3 (⟨rfl, hJ3, hk3⟩ | ⟨rfl, hJx3⟩)
      · gi_wp2
        go_roundw
        case rel => exact ⟨m, by omega, by simp, hJ3, hnx.trans hk3⟩
        case measure => simp [intOf]
      · gi_wp2
        refine bodyPost_ret (results_none rfl _ _ _) rfl ?_
        exact ⟨⟨_, rfl⟩, .inr ⟨m, by omega, hJx3⟩⟩

/-- slices.Backward: the slice is boxed -/
theorem backward_in (F : Fence) (n : Nat) (hF : F.fn 54) (hro : F.round = none) (a : Option Addr) (len cap : Nat) (w : World) :
    CallsIn F n Try.prog 54 #[.slice a len cap] w fun e w' => e = .returned (.func (.func 58) #[] #[.pointer (some ⟨w.heap.size, 0, none⟩)]) ∧ w' = w.alloc (.cells #[.slice a len cap] 118) := by
  refine callsIn_of_wp Try.func54 rfl hF ?_ hro
  simp only [Try.ntmps54, List.size_toArray, List.length_cons, List.length_nil, Nat.reduceAdd, Nat.reduceSub, Array.replicate_succ, Array.replicate_zero, List.push_toArray, List.append_toArray, List.nil_append, List.cons_append]
  gi_wp2
  go_ret
  exact ⟨rfl, rfl⟩

/-- .. and hands back what goes down the slice -/
theorem backward_stops (F : Fence) (n : Nat) (hF : F.fn 58) (hro : F.round = none) (hn : 1 ≤ n) (Bs n₀ cap : Nat) (A : Option Addr) (zs : List Ex.Bd) (hreach : zs.length ≤ 8796093022200) (w : World) (hB : Bs < n₀) (hn₀ : n₀ ≤ w.heap.size)
    (hb : w.cell? ⟨Bs, 0, none⟩ = some (.slice A zs.length cap)) (hc : Cells w n₀ A (Ex.bindcs zs)) :
    SeqStopsK F n Try.prog 58 #[.pointer (some ⟨Bs, 0, none⟩)] (fun x : Nat × Ex.Bd => #[Value.int .i64 (x.1 : Int), .agg #[.string x.2.1, .int .i64 x.2.2]]) (Below n₀) (fun ys => ys = Ex.down zs 0)
      (fun pre => ∃ m, m ≤ zs.length ∧ pre = Ex.down zs m) zs.length w := fun l J Jx W hW _ _ hY h0 => by
  have hW' := hW.mono hn₀
  have hb' := (hW'.cell (p := ⟨Bs, 0, none⟩) hB).trans hb
  have hc' := hc.keep (Nat.le_refl _) (fun p hp => hW'.cell hp)
  refine (backward1_in F n hF hro hn l Bs n₀ cap A zs hreach J Jx hY W hB hb' hc' h0).mono ?_
  rintro e W' ⟨he, hj | ⟨m, hm, hj⟩⟩
  · exact ⟨he, .inl ⟨_, rfl, hj⟩⟩
  · exact ⟨he, .inr ⟨_, ⟨m, hm, rfl⟩, hj⟩⟩
end Go.Proofs.Ytajddbmmbhdnfaa
