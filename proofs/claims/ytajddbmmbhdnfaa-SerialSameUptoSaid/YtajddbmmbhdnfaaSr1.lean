/-
  serial's runner: Cell, step, access, walked; slices.Clip of bindings.
-/
import Derived.Test.YtajddbmmbhdnfaaOwn
import Derived.Test.YtajddbmmbhdnfaaSrPl
import Derived.Test.YtajddbmmbhdnfaaMarkT
import Derived.Test.YtajddbmmbhdnfaaFacts
import Derived.Test.YtajddbmmbhdnfaaSpWalk
import Derived.WalkLawsBesides
namespace Go.Proofs.Ytajddbmmbhdnfaa
set_option linter.unusedVariables false
set_option linter.unusedSimpArgs false
set_option maxRecDepth 100000
open Go.RowKit

namespace Sr
/-- the accesses that are kept -/
def rows (vt : Value) (t : List Sp.Acc) : List Rw := [⟨23, 3, vt, t.length, Sp.acccs t⟩]
def rcells (F : Nat) (m : M) (vt : Value) : List Value := ints .i64 m.heap ++ [.int .i64 (F : Int), .int .i64 (m.steps : Int), vt]
end Sr
abbrev RnO (B : Nat) (w : World) (g F : Nat) (m : Sr.M) (vt : Value) : Prop := Own B w g 96 (Sr.rcells F m vt) (Sr.rows vt m.trace)
abbrev RnT (g : Nat) (m : Sr.M) (vt : Value) : Nat → Prop := Tw g (Sr.rows vt m.trace)
abbrev RnTo (B : Nat) (w0 : World) (T : Nat → Prop) (w : World) (g F : Nat) (m : Sr.M) (vt : Value) : Prop := OwnTo B w0 T w g 96 (Sr.rcells F m vt) (Sr.rows vt m.trace)
/-- what ends a run for lack of fuel -/
def spent : List PanicEntry := [{ v := .iface 113 (.agg #[]), recovered := false }]

theorem Sr.heap8 {h : List Int} (hl : h.length = 8) : ∃ a b c d e f g i, h = [a, b, c, d, e, f, g, i] := by
  match h, hl with
  | [a, b, c, d, e, f, g, i], _ => exact ⟨a, b, c, d, e, f, g, i, rfl⟩

theorem Sr.cell_eq (n : Int) : (wrap64 (n.tmod 8 + 8)).tmod 8 = ((Sr.cell n : Nat) : Int) := by
  have h1 := Int.mul_tdiv_add_tmod n 8
  have h2 := Int.tmod_lt_of_pos n (b := 8) (by decide)
  have h3 := Int.lt_tmod_of_pos n (b := 8) (by decide)
  unfold Sr.cell
  generalize n.tmod 8 = x at h1 h2 h3 ⊢
  generalize n.tdiv 8 = q at h1
  rw [show wrap64 (x + 8) = x + 8 by unfold wrap64; omega, Int.tmod_eq_emod_of_nonneg (by omega)]
  omega

theorem cell_any (n : Int) (w : World) : Calls Try.prog 21 #[.int .i64 n] w fun e w' => e = .returned (.int .i64 (Sr.cell n : Nat)) ∧ w = w' := by
  have HH := Lib.hid (Sr.cell_eq n)
  go_enter Try.func21, Try.ntmps21
  go_wp2
  go_ret
  exact ⟨ret_int HH.out, rfl⟩

theorem Sr.rcells_get {F : Nat} {m : Sr.M} {vt : Value} (hl : m.heap.length = 8) : (∀ c, c < 8 → (Sr.rcells F m vt)[c]? = some (.int .i64 (m.heap.getD c 0))) ∧ (Sr.rcells F m vt)[8]? = some (.int .i64 (F : Int)) ∧ (Sr.rcells F m vt)[9]? = some (.int .i64 (m.steps : Int)) ∧ (Sr.rcells F m vt)[10]? = some vt := by
  obtain ⟨a, b, c, d, e, f, g, i, h⟩ := Sr.heap8 hl
  unfold Sr.rcells
  rw [h]
  refine ⟨fun c hc => ?_, rfl, rfl, rfl⟩
  match c, hc with
  | 0, _ => rfl
  | 1, _ => rfl
  | 2, _ => rfl
  | 3, _ => rfl
  | 4, _ => rfl
  | 5, _ => rfl
  | 6, _ => rfl
  | 7, _ => rfl

theorem step_ok (B : Nat) (w : World) (g F : Nat) (m : Sr.M) (vt : Value) (h : RnO B w g F m vt) (hl : m.heap.length = 8) (hs : m.steps < F) (hF : F ≤ 2000) :
    Calls Try.prog 45 #[.pointer (some ⟨g, 0, none⟩)] w fun e w' => e = .returned (.tuple #[]) ∧ RnTo B w (RnT g m vt) w' g F m.step vt := by
  obtain ⟨r0, r8, r9, r10⟩ := Sr.rcells_get (F := F) (vt := vt) hl
  have c8 : w.cell? ⟨g, 8, none⟩ = some (.int .i64 (F : Int)) := (h.blk.cell 8).trans r8
  have c9 : w.cell? ⟨g, 9, none⟩ = some (.int .i64 (m.steps : Int)) := (h.blk.cell 9).trans r9
  have g1 : ((m.steps : Int) == (F : Int)) = false := by simp; omega
  have hB := h.blk
  have hend : ∀ w2, Blk w2 g 96 ((Sr.rcells F m vt).set 9 (.int .i64 ((m.steps : Int) + 1))) → w.grownBy w2 (some g) → RnTo B w (RnT g m vt) w2 g F m.step vt := fun w2 b2 g2 => by
    have := h.cells_to b2 g2
    obtain ⟨a, b, c, d, e, f, g', i, h8⟩ := Sr.heap8 hl
    have e : (Sr.rcells F m vt).set 9 (.int .i64 ((m.steps : Int) + 1)) = Sr.rcells F m.step vt := by
      unfold Sr.rcells Sr.M.step
      rw [h8]
      rfl
    rw [e] at this
    exact this
  have HE := Lib.hid hend
  clear hend h r0 r8 r9 r10
  go_enter Try.func45, Try.ntmps45
  go_wp2_with fail
  go_quiet (fail)
  go_wp2_with (first | (refine wpl_set_blk hB 9 (.int .i64 ((m.steps : Int) + 1)) (by kernel_rfl) (by simp [Sr.rcells, ints_length, hl]) rfl rfl rfl rfl rfl rfl ?_; intro w2 hB2 hg2) | fail)
  go_end0
  exact ⟨rfl, HE.out w2 hB2 (grown_undrewN hg2)⟩

theorem step_out (B : Nat) (w : World) (g F : Nat) (m : Sr.M) (vt : Value) (h : RnO B w g F m vt) (hl : m.heap.length = 8) (hs : m.steps = F) :
    Calls Try.prog 45 #[.pointer (some ⟨g, 0, none⟩)] w fun e w' => e = .panicked spent ∧ Below w.heap.size w w' := by
  obtain ⟨r0, r8, r9, r10⟩ := Sr.rcells_get (F := F) (vt := vt) hl
  have c8 : w.cell? ⟨g, 8, none⟩ = some (.int .i64 (F : Int)) := (h.blk.cell 8).trans r8
  have c9 : w.cell? ⟨g, 9, none⟩ = some (.int .i64 (m.steps : Int)) := (h.blk.cell 9).trans r9
  have g1 : ((m.steps : Int) == (F : Int)) = true := by simp; omega
  clear h r0 r8 r9 r10
  go_enter Try.func45, Try.ntmps45
  go_wp2_with fail
  go_quiet (fail)
  go_wp2
  exact ⟨rfl, rfl, below_drewN (Below.refl _ _) _⟩


set_option maxHeartbeats 1000000 in
theorem access_any (B : Nat) (w : World) (g F : Nat) (m : Sr.M) (vt : Value) (n : Int) (wr : Bool) (l : Nat) (h : RnO B w g F m vt) (hl : m.heap.length = 8) (ht : m.trace.length ≤ 2000) :
    Calls Try.prog 48 #[.pointer (some ⟨g, 0, none⟩), .int .i64 n, .bool wr, .int .i64 (l : Int)] w fun e w' => e = .returned (.int .i64 (Sr.cell n : Nat)) ∧ ∃ vt', RnTo B w (RnT g m vt) w' g F (m.acc (Sr.cell n) wr l) vt' := by
  obtain ⟨r0, r8, r9, r10⟩ := Sr.rcells_get (F := F) (vt := vt) hl
  have c10 : w.cell? ⟨g, 10, none⟩ = some vt := (h.blk.cell 10).trans r10
  have rt : w.ownsRow B 23 3 vt m.trace.length (Sp.acccs m.trace) := h.row 0 rfl
  have hbase := h.base
  obtain ⟨VT, ct, rfl, -, -⟩ := own_slice rt
  obtain ⟨N, hN⟩ : ∃ N, N = m.trace.length := ⟨_, rfl⟩
  have hHE : ∀ (w4 : World) (v' : Value) (w5 : World), w4.ownsRow B 23 3 v' (m.trace.length + 1) (Sp.acccs m.trace ++ [.int .i64 (Sr.cell n : Nat), .bool wr, .int .i64 (l : Int)]) → w.grownBy w4 (Value.slice VT m.trace.length ct).ownBlock → (v'.ownBlock = (Value.slice VT m.trace.length ct).ownBlock ∨ v'.ownBlock = some (w.heap.size + 1)) →
      Blk w4 g 96 (Sr.rcells F m (.slice VT m.trace.length ct)) ∧ (Blk w5 g 96 ((Sr.rcells F m (.slice VT m.trace.length ct)).set 10 v') → w4.grownBy w5 (some g) → RnTo B w (RnT g m (.slice VT m.trace.length ct)) w5 g F (m.acc (Sr.cell n) wr l) v') := fun w4 v' w5 o4 g4 e4 => by
    have o4' : w4.ownsRow B 23 3 v' (m.acc (Sr.cell n) wr l).trace.length (Sp.acccs (m.acc (Sr.cell n) wr l).trace) := by
      simpa [Sr.M.acc, Sp.acccs, Sp.accc] using o4
    have hv : v'.ownBlock = (Value.slice VT m.trace.length ct).ownBlock ∨ ∃ k, w.heap.size ≤ k ∧ v'.ownBlock = some k := e4.imp id fun e => ⟨_, Nat.le_succ _, e⟩
    refine ⟨(h.put (i := 0) rfl o4' g4 hv).1, fun b5 g5 => ?_⟩
    have := h.put_to (i := 0) rfl o4' g4 hv b5 g5
    obtain ⟨a, b, c, d, e, f, g', i, h8⟩ := Sr.heap8 hl
    have e : (Sr.rcells F m (.slice VT m.trace.length ct)).set 10 v' = Sr.rcells F (m.acc (Sr.cell n) wr l) v' := by
      unfold Sr.rcells Sr.M.acc
      rw [h8]
      rfl
    rw [e] at this
    exact this
  have hn63 : N + 1 ≤ maxLen := by unfold maxLen; omega
  have hn47 : (N + 1) * 24 ≤ 140737488355328 := by omega
  have hlen10 : 10 < (Sr.rcells F m (.slice VT m.trace.length ct)).length := by simp [Sr.rcells, ints_length, hl]
  rw [← hN] at rt c10 hHE hlen10
  have HE := Lib.hid hHE
  clear hHE h r0 r8 r9 r10
  have h3 : ∀ u ∈ ([.int .i64 (Sr.cell n : Nat), .bool wr, .int .i64 (l : Int)] : List Value), u.oneCell' = true := by
    intro u hu
    rcases List.mem_cons.1 hu with rfl | hu
    · rfl
    rcases List.mem_cons.1 hu with rfl | hu
    · rfl
    rcases List.mem_singleton.1 hu with rfl
    rfl
  have HN := Lib.hid hN
  clear hN
  go_enter Try.func48, Try.ntmps48
  go_wp2_with fail
  refine (cell_any n w).mono ?_
  rintro e w1 ⟨rfl, rfl⟩
  go_wp2_with (first | (at_builtin; refine wp_push w _ _ B _ _ _ _ _ Try.underlying40 Sp.info_acc rfl (by decide) rt [.int .i64 (Sr.cell n : Nat), .bool wr, .int .i64 (l : Int)] rfl h3 hn63 hn47 hbase rfl rfl rfl rfl ?_; intro v' w4 hown4 hg4 hv4 _; have hB4 := (HE.out w4 v' w4 hown4 hg4 hv4).1; obtain ⟨V', c', rfl, _, _⟩ := own_slice hown4) | (refine wpl_set_blk hB4 10 _ (by kernel_rfl) hlen10 rfl rfl rfl rfl rfl rfl ?_; intro w5 hB5 hg5) | fail)
  go_ret
  exact ⟨rfl, _, by rw [← HN.out]; exact (HE.out w4 _ w5 hown4 hg4 hv4).2 hB5 hg5⟩
end Go.Proofs.Ytajddbmmbhdnfaa
