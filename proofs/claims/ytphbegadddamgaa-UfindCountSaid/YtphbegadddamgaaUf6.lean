/-
  Disjoint sets: the closed fact; one answer behind all that was done.
-/
import Derived.Test.YtphbegadddamgaaUf5
namespace Go.Proofs.Ytphbegadddamgaa
set_option linter.unusedVariables false
set_option linter.unusedSimpArgs false
open Go.RowKit

namespace Ufd
theorem equal_ints (v v' : Value) (xs ys : List Int) (w : World) (h : SlV w 1 v xs.length (ints .i64 xs)) (h' : SlV w 1 v' ys.length (ints .i64 ys)) :
    Calls Try.prog 29 #[v, v'] w fun e w' => e = .returned (.bool (decide (xs = ys))) ∧ ∃ m, w' = w.drewN m := by
  obtain ⟨A, c, rfl, hle, hm, hlen, hc⟩ := h
  obtain ⟨A', c', rfl, hle', hm', hlen', hc'⟩ := h'
  clear hlen hlen'
  unfold maxLen at hm hm'
  by_cases hn : xs.length = ys.length
  · have hne : ((xs.length : Int) != ys.length) = false := by simp [hn]
    have HN := Lib.hid hn
    clear hn
    go_enter Try.func29, Try.ntmps29
    go_wp2
    go_loopw [13] (fun i wr => ∃ k : Nat, k ≤ xs.length ∧ i = .int .i64 k ∧ (∃ a, wr = w.drewN a) ∧ xs.take k = ys.take k) (fun i _ => xs.length - (intOf i).toNat)
    case atStart => exact ⟨0, Nat.zero_le _, rfl, ⟨0, rfl⟩, rfl⟩
    case round =>
      obtain ⟨k, hk, rfl, ⟨a, rfl⟩, ht⟩ := hrel
      have HT := Lib.hid ht
      clear ht
      by_cases hlt : k < xs.length
      · have hlt' : k < ys.length := by rw [← HN.out]; exact hlt
        obtain ⟨b, o, x, rfl, hb, hx, hcc⟩ := hc.one hlt
        obtain ⟨b', o', y, rfl, hb', hy, hcc'⟩ := hc'.one hlt'
        clear hc hc'
        have hsn : ∀ (z : Int) (l : List Int), l[k]? = some z → l.take (k + 1) = l.take k ++ [z] := fun z l h => by
          obtain ⟨h', rfl⟩ := List.getElem?_eq_some_iff.1 h
          exact List.take_succ_eq_append_getElem h'
        have HSN := Lib.hid hsn
        clear hsn
        rcases hg : x != y with _ | _
        · go_wp2
          go_quiet (fail)
          go_wp2
          go_roundw
          case rel => exact ⟨k + 1, by omega, by go_num, ⟨_, rfl⟩, by rw [HSN.out _ _ hx.out, HSN.out _ _ hy.out, HT.out, show x = y by simpa using hg]⟩
          case measure => simp [intOf]; omega
        · go_wp2
          go_quiet (fail)
          go_wp2
          go_ret
          refine ⟨ret_bool ?_, ⟨_, World.drewN_drewN _ _ _⟩⟩
          symm
          simp only [decide_eq_false_iff_not]
          rintro rfl
          rw [hx.out] at hy
          simp at hg
          exact hg (by simpa using hy.out)
      · have HK := Lib.hid (show k = xs.length by omega)
        clear hc hc'
        go_wp2
        go_ret
        refine ⟨ret_bool ?_, ⟨_, rfl⟩⟩
        symm
        simp only [decide_eq_true_eq]
        have := HT.out
        rw [HK.out, List.take_length, HN.out, List.take_length] at this
        exact this
  · have hne : ((xs.length : Int) != ys.length) = true := by simp; omega
    have hnl : xs ≠ ys := fun e => hn (by rw [e])
    have HNL := Lib.hid hnl
    clear hnl hc hc'
    go_enter Try.func29, Try.ntmps29
    go_wp2
    go_ret
    exact ⟨ret_bool (by simp [HNL.out]), ⟨0, rfl⟩⟩

theorem clone_op (v : Value) (n : Nat) (xs : List Value) (w : World) (h : SlV w 3 v n xs) (h1 : ∀ u ∈ xs, u.oneCell' = true) (hr : n * 24 ≤ 140737488355328) :
    Calls Try.prog 36 #[v] w fun e w' => ∃ u, e = .returned u ∧ w'.ownsRow w.heap.size 60 3 u n xs ∧ Below w.heap.size w w' := by
  obtain ⟨A, c, rfl, hle, hm, hlen, hc⟩ := h
  unfold maxLen at hm
  have heq := fun (w : World) (A : Option Addr) (n c : Nat) => Lib.run_eql_slice_nil (P := Try.prog) w _ _ A n c 0 0 Try.underlying57
  rcases A with _ | a
  · have h0 : xs = [] := by
      rcases xs with _ | ⟨x, xs⟩
      · rfl
      · obtain ⟨b, o, h1, _⟩ := hc
        have := (h1 (by simp)).1
        cases this
    have hn : n = 0 := by subst h0; simp at hlen; omega
    subst h0
    subst hn
    go_enter Try.func36, Try.ntmps36
    go_wp2
    go_ret
    exact ⟨_, rfl, World.ownsRow_nil _ _ _ _, Below.refl _ _⟩
  · go_enter Try.func36, Try.ntmps36
    have hmade := World.ownsRow_made (e := 60) (size := 3) (base := w.heap.size) w #[] 0 (Nat.le_refl _) (Nat.zero_le _) rfl
    have hc' := hc.keep (w' := w.alloc (.cells #[] 60)) (Nat.le_refl _) (fun p hp => World.cell?_alloc_lt w _ p hp)
    have n63 : 0 + n ≤ maxLen := by unfold maxLen; omega
    have n47 : (0 + n) * 24 ≤ 140737488355328 := by omega
    go_wp2_with (at_builtin; refine wp_append _ _ _ _ _ _ _ _ _ Try.underlying57 Ufd.info_op rfl (by decide) hmade hc' hlen h1 n63 n47 (by simp) rfl rfl rfl rfl ?_; intro v' w' hown _ _ hb)
    go_ret
    refine ⟨_, rfl, by simpa using hown, ((Below.refl _ _).alloc (Nat.le_refl _) _).trans hb⟩
end Ufd

def alive8ops : List Uf.Op := [⟨1, 0, 2⟩, ⟨2, 2, 0⟩, ⟨3, 2, 0⟩, ⟨2, 1, 2⟩]
theorem alive8play : Uf.answers (Uf.start 3) alive8ops = [1, 1, 2, 0] := by decide +kernel

theorem alive8_any (w : World) : Calls Try.prog 30 #[] w fun e w' => e = .returned (.bool true) ∧ Below w.heap.size w w' := by
  go_enter Try.func30, Try.ntmps30
  go_wp2_with fail
  refine (ufplay_any _ alive8ops 3 _ (by decide) (SlV.lit w (Ufd.opcs alive8ops) 60 3 4 rfl (by decide)) (by decide)).mono ?_
  rintro e w1 ⟨u, rfl, hs, hb⟩
  rw [alive8play] at hs
  go_wp2_with fail
  refine (Ufd.equal_ints _ _ [1, 1, 2, 0] [1, 1, 2, 0] _ (hs.alloc _) (by have := SlV.lit w1 (ints .i64 [1, 1, 2, 0]) 3 1 4 rfl (by decide); exact this)).mono ?_
  rintro e w2 ⟨rfl, m, rfl⟩
  go_wp2
  go_ret
  exact ⟨rfl, below_drewN (below_alloc ((below_alloc (Below.refl _ _) _).trans (hb.mono (by simp))) _) _⟩

set_option maxRecDepth 100000 in
theorem asks_any (v : Value) (ops : List Uf.Op) (n : Nat) (o : Uf.Op) (w : World) (hn : n ≤ 200) (h : SlV w 3 v ops.length (Ufd.opcs ops)) (hr : ops.length ≤ 5864062014804) :
    Calls Try.prog 32 #[.int .i64 n, v, .agg #[.int .i64 o.kind, .int .i64 o.i, .int .i64 o.j]] w fun e w' => e = .returned (.int .i64 (Uf.ans (Uf.after (Uf.start n) ops) o)) ∧ Below w.heap.size w w' := by
  obtain ⟨k, i, j⟩ := o
  simp only
  obtain ⟨A, c, rfl, hle, hm, hlen, hc⟩ := h
  unfold maxLen at hm
  have h0 : SlV w 3 (.slice A ops.length c) ops.length (Ufd.opcs ops) := ⟨A, c, rfl, hle, by unfold maxLen; exact hm, hlen, hc⟩
  have hP := Blk.new w 60 [.int .i64 k, .int .i64 i, .int .i64 j]
  have hbw : Below w.heap.size w (w.alloc (.cells #[.int .i64 k, .int .i64 i, .int .i64 j] 60)) := below_alloc (Below.refl _ _) _
  have hsl := h0.alloc (.cells #[.int .i64 k, .int .i64 i, .int .i64 j] 60)
  clear hc hlen h0
  go_enter Try.func32, Try.ntmps32
  go_wp2_with fail
  have hP' : Blk (w.alloc (.cells #[.int .i64 k, .int .i64 i, .int .i64 j] 60)) w.heap.size 60 [.int .i64 k, .int .i64 i, .int .i64 j] := hP
  clear hP
  generalize (w.alloc (.cells #[.int .i64 k, .int .i64 i, .int .i64 j] 60)) = w0 at hP' hbw hsl ⊢
  obtain ⟨q, hq⟩ : ∃ q, q = w.heap.size := ⟨_, rfl⟩
  rw [← hq] at hP' ⊢
  clear hq
  have keepS : ∀ w', Below w0.heap.size w0 w' → (Below w0.heap.size w0 w' ∧ w'.cell? ⟨q, 0, none⟩ = some (.int .i64 k) ∧ w'.cell? ⟨q, 1, none⟩ = some (.int .i64 i) ∧ w'.cell? ⟨q, 2, none⟩ = some (.int .i64 j)) := fun w' hb =>
    ⟨hb, by rw [(hP'.below hb).cell]; rfl, by rw [(hP'.below hb).cell]; rfl, by rw [(hP'.below hb).cell]; rfl⟩
  have hbS : ∀ w', (Below w0.heap.size w0 w' ∧ w'.cell? ⟨q, 0, none⟩ = some (.int .i64 k) ∧ w'.cell? ⟨q, 1, none⟩ = some (.int .i64 i) ∧ w'.cell? ⟨q, 2, none⟩ = some (.int .i64 j)) → Below w0.heap.size w0 w' := fun w' h => h.1
  have hcl : ∀ w', (Below w0.heap.size w0 w' ∧ w'.cell? ⟨q, 0, none⟩ = some (.int .i64 k) ∧ w'.cell? ⟨q, 1, none⟩ = some (.int .i64 i) ∧ w'.cell? ⟨q, 2, none⟩ = some (.int .i64 j)) → Calls Try.prog 36 #[.slice A ops.length c] w' fun e w'' => ∃ u, e = .returned u ∧ w''.ownsRow w0.heap.size 60 3 u ops.length (Ufd.opcs ops) ∧ Below w0.heap.size w0 w'' ∧ Below w'.heap.size w' w'' := fun w' hS =>
    (Ufd.clone_op _ _ _ _ (hsl.below hS.1) (Ufd.opcs_one _) (by omega)).mono fun e w'' ⟨u, h1, h2, h3⟩ => ⟨u, h1, own_base h2 hS.1.size, below_next h3 hS.1, h3⟩
  have hpl : ∀ w' v', w'.ownsRow w0.heap.size 60 3 v' (ops.length + 1) (Ufd.opcs ops ++ Ufd.opc ⟨k, i, j⟩) → Calls Try.prog 33 #[.int .i64 n, v'] w' (UfPlay (ops ++ [⟨k, i, j⟩]) n w') := fun w' v' hv =>
    ufplay_any _ _ _ _ hn (by have := SlV.of_own hv; simpa [Ufd.opcs] using this) (by simp; omega)
  have n63 : ops.length + 1 ≤ maxLen := by unfold maxLen; omega
  have n47 : (ops.length + 1) * 24 ≤ 140737488355328 := by omega
  go_region_held3 (fun w' => (Below w0.heap.size w0 w' ∧ w'.cell? ⟨q, 0, none⟩ = some (.int .i64 k) ∧ w'.cell? ⟨q, 1, none⟩ = some (.int .i64 i) ∧ w'.cell? ⟨q, 2, none⟩ = some (.int .i64 j)))
    ((refine keepS _ ?_; repeat (first | exact Below.refl _ _ | assumption | apply below_alloc | apply below_drew | exact (And.left (by assumption)) | (apply below_next; assumption))))
    (first
      | (go_at_call 36; refine (hcl _ (by assumption)).mono ?_; rintro e w2 ⟨u, rfl, hown2, hb2, hb2'⟩)
      | (refine step_append _ _ _ _ _ _ _ _ Try.underlying57 Ufd.info_op rfl (by decide) (by first | assumption | exact World.ownsRow.alloc (by assumption) _) (show Cells _ _ _ (Ufd.opc ⟨k, i, j⟩) from by first | exact Cells.new _ _ _ | exact cells_new_drew (e := 60) (by assumption)) rfl (Ufd.opcs_one [⟨k, i, j⟩]) n63 n47 (hbS _ (by assumption)).size rfl rfl rfl rfl ?_; intro v4 w4 hown4 _ _ hb4; have hb5 := Below.trans (hbS _ (by assumption)) hb4)
      | (go_at_call 33; refine (hpl _ _ (by assumption)).mono ?_; rintro e w6 ⟨u6, rfl, hs6, hb6⟩))
  all_goals
    have hb7 := below_self hbw (below_next hb6 hb5)
    rename_i hHeld
    clear hcl hpl keepS hbS hown4 hown2 hb4 hb5 hb6 hb2 hb2' hbw hP' hsl
    clear hHeld
    have el : (ops ++ [(⟨k, i, j⟩ : Uf.Op)]).length = ops.length + 1 := by simp
    rw [el, Uf.answers_append] at hs6
    simp only [Uf.answers] at hs6
    obtain ⟨x, hx⟩ : ∃ x, x = Uf.ans (Uf.after (Uf.start n) ops) ⟨k, i, j⟩ := ⟨_, rfl⟩
    rw [← hx] at hs6
    have HX := Lib.hid hx
    obtain ⟨A6, c6, rfl, hle6, hm6, -, hc6⟩ := hs6
    unfold maxLen at hm6
    obtain ⟨b6, o6, rfl, -, hcs⟩ := hc6.at_ (by simp [ints])
    have cx := hcs ops.length (.int .i64 x) (by
      have := Uf.answers_length (Uf.start n) ops
      simp [ints, ← this])
    clear hcs hx el hc6
    go_wp2
    go_ret
    exact ⟨ret_int HX.out, hb7⟩
end Go.Proofs.Ytphbegadddamgaa
