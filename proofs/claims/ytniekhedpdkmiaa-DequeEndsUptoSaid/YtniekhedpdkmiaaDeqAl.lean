/-
  Both ends of a deque do not meet, while there are two: the law, walked.
-/
import Derived.Test.YtniekhedpdkmiaaDeqPlay
import Derived.Test.YtniekhedpdkmiaaBase2
namespace Go.Proofs.Ytniekhedpdkmiaa
set_option linter.unusedVariables false
set_option linter.unusedSimpArgs false
open Go.RowKit

theorem equal_ints (v v' : Value) (xs ys : List Int) (w : World) (h : SlV w 1 v xs.length (ints .i64 xs)) (h' : SlV w 1 v' ys.length (ints .i64 ys)) :
    Calls Try.prog 11 #[v, v'] w fun e w' => e = .returned (.bool (decide (xs = ys))) ∧ ∃ m, w' = w.drewN m := by
  obtain ⟨A, c, rfl, hle, hm, hlen, hc⟩ := h
  obtain ⟨A', c', rfl, hle', hm', hlen', hc'⟩ := h'
  clear hlen hlen'
  unfold maxLen at hm hm'
  by_cases hn : xs.length = ys.length
  · have hne : ((xs.length : Int) != ys.length) = false := by simp [hn]
    have HN := Lib.hid hn
    clear hn
    go_enter Try.func11, Try.ntmps11
    go_wp2
    go_loopw [13] (fun i wr => ∃ k : Nat, k ≤ xs.length ∧ i = .int .i64 k ∧ (∃ a, wr = w.drewN a) ∧ xs.take k = ys.take k) (fun i _ => xs.length - (intOf i).toNat)
    case atStart => exact ⟨0, Nat.zero_le _, rfl, ⟨0, rfl⟩, rfl⟩
    case round =>
      obtain ⟨k, hk, rfl, ⟨a, rfl⟩, ht⟩ := hrel
      have HT := Lib.hid ht
      clear ht
      by_cases hlt : k < xs.length
      · have hlt' : k < ys.length := by rw [← HN.out]; exact hlt
        obtain ⟨b, o, x, rfl, hb, hx, hcc⟩ := hc.one hlt
        obtain ⟨b', o', y, rfl, hb', hy, hcc'⟩ := hc'.one hlt'
        clear hc hc'
        have hsn : ∀ (z : Int) (l : List Int), l[k]? = some z → l.take (k + 1) = l.take k ++ [z] := fun z l h => by
          obtain ⟨h', rfl⟩ := List.getElem?_eq_some_iff.1 h
          exact List.take_succ_eq_append_getElem h'
        have HSN := Lib.hid hsn
        clear hsn
        rcases hg : x != y with _ | _
        · go_wp2
          go_quiet (fail)
          go_wp2
          go_roundw
          case rel => exact ⟨k + 1, by omega, by go_num, ⟨_, rfl⟩, by rw [HSN.out _ _ hx.out, HSN.out _ _ hy.out, HT.out, show x = y by simpa using hg]⟩
          case measure => simp [intOf]; omega
        · go_wp2
          go_quiet (fail)
          go_wp2
          go_ret
          refine ⟨ret_bool ?_, ⟨_, World.drewN_drewN _ _ _⟩⟩
          symm
          simp only [decide_eq_false_iff_not]
          rintro rfl
          rw [hx.out] at hy
          simp at hg
          exact hg (by simpa using hy.out)
      · have HK := Lib.hid (show k = xs.length by omega)
        clear hc hc'
        go_wp2
        go_ret
        refine ⟨ret_bool ?_, ⟨_, rfl⟩⟩
        symm
        simp only [decide_eq_true_eq]
        have := HT.out
        rw [HK.out, List.take_length, HN.out, List.take_length] at this
        exact this
  · have hne : ((xs.length : Int) != ys.length) = true := by simp; omega
    have hnl : xs ≠ ys := fun e => hn (by rw [e])
    have HNL := Lib.hid hnl
    clear hnl hc hc'
    go_enter Try.func11, Try.ntmps11
    go_wp2
    go_ret
    exact ⟨ret_bool (by simp [HNL.out]), ⟨0, rfl⟩⟩

theorem equal_ints_same (v v' : Value) (xs : List Int) (w : World) (h : SlV w 1 v xs.length (ints .i64 xs)) (h' : SlV w 1 v' xs.length (ints .i64 xs)) :
    Calls Try.prog 11 #[v, v'] w fun e w' => e = .returned (.bool true) ∧ ∃ m, w' = w.drewN m :=
  (equal_ints v v' xs xs w h h').mono fun e w' ⟨he, hm⟩ => ⟨by rw [he]; simp, hm⟩

theorem clone_dq (v : Value) (n : Nat) (xs : List Value) (w : World) (h : SlV w 2 v n xs) (h1 : ∀ u ∈ xs, u.oneCell' = true) (hr : n * 16 ≤ 140737488355328) :
    Calls Try.prog 9 #[v] w fun e w' => ∃ u, e = .returned u ∧ w'.ownsRow w.heap.size 27 2 u n xs ∧ Below w.heap.size w w' := by
  obtain ⟨A, c, rfl, hle, hm, hlen, hc⟩ := h
  unfold maxLen at hm
  have heq := fun (w : World) (A : Option Addr) (n c : Nat) => Lib.run_eql_slice_nil (P := Try.prog) w _ _ A n c 0 0 Try.underlying22
  rcases A with _ | a
  · have h0 : xs = [] := by
      rcases xs with _ | ⟨x, xs⟩
      · rfl
      · obtain ⟨b, o, h1, _⟩ := hc
        have := (h1 (by simp)).1
        cases this
    have hn : n = 0 := by subst h0; simp at hlen; omega
    subst h0
    subst hn
    go_enter Try.func9, Try.ntmps9
    go_wp2
    go_ret
    exact ⟨_, rfl, World.ownsRow_nil _ _ _ _, Below.refl _ _⟩
  · go_enter Try.func9, Try.ntmps9
    have hmade := World.ownsRow_made (e := 27) (size := 2) (base := w.heap.size) w #[] 0 (Nat.le_refl _) (Nat.zero_le _) rfl
    have hc' := hc.keep (w' := w.alloc (.cells #[] 27)) (Nat.le_refl _) (fun p hp => World.cell?_alloc_lt w _ p hp)
    have n63 : 0 + n ≤ maxLen := by unfold maxLen; omega
    have n47 : (0 + n) * 16 ≤ 140737488355328 := by omega
    go_wp2_with (at_builtin; refine wp_append _ _ _ _ _ _ _ _ _ Try.underlying22 Dq.info_op rfl (by decide) hmade hc' hlen h1 n63 n47 (by simp) rfl rfl rfl rfl ?_; intro v' w' hown _ _ hb)
    go_ret
    refine ⟨_, rfl, by simpa using hown, ((Below.refl _ _).alloc (Nat.le_refl _) _).trans hb⟩


namespace Dq
theorem ans_cells {w : World} {B : Nat} {A : Option Addr} {l : List Deq.Ans} (h : Cells w B A (anscs l)) {k : Nat} {a : Deq.Ans} (ho : l[k]? = some a) :
    ∃ b off, A = some ⟨b, off, none⟩ ∧ b < B ∧ w.cell? ⟨b, off + k * 2, none⟩ = some (.int .i64 a.1) ∧ w.cell? ⟨b, off + k * 2 + 1, none⟩ = some (.int .i64 a.2) := by
  have g : ∀ j, j < 2 → (anscs l)[k * 2 + j]? = (ansc a)[j]? := fun j hj => flat_get ansc 2 (fun _ => rfl) l k j a ho hj
  obtain ⟨b, off, hA, hb, hc⟩ := h.at_ (by
    intro h0
    have := g 0 (by decide)
    rw [h0] at this
    simp [ansc] at this)
  exact ⟨b, off, hA, hb, hc _ _ (g 0 (by decide)), hc _ _ (g 1 (by decide))⟩
theorem opcs_one (l : List Deq.Op) : ∀ u ∈ opcs l, u.oneCell' = true := by
  intro u hu
  obtain ⟨o, _, ho⟩ := List.mem_flatMap.1 hu
  exact ints_one2 (l := [o.kind, o.n]) u ho
end Dq

def alive21ops : List Deq.Op := [⟨1, 4⟩, ⟨1, 5⟩, ⟨1, 6⟩, ⟨3, 0⟩, ⟨2, 0⟩]
theorem alive21play : Deq.answers [] alive21ops = [(0, 0), (0, 0), (0, 0), (0, 4), (0, 6)] ∧ Deq.after [] alive21ops = [5] := by decide +kernel

theorem alive21_any (w : World) : Calls Try.prog 8 #[] w fun e w' => e = .returned (.bool true) ∧ Below w.heap.size w w' := by
  go_enter Try.func8, Try.ntmps8
  go_wp2_with fail
  refine (dqplay_any _ alive21ops _ (SlV.lit w (Dq.opcs alive21ops) 27 2 5 rfl (by decide)) (by decide)).mono ?_
  rintro e w1 ⟨u, u', rfl, hs, hs', hb⟩
  rw [alive21play.1] at hs
  rw [alive21play.2] at hs'
  obtain ⟨A, c, rfl, hle, hm, -, hc⟩ := hs
  obtain ⟨b, off, rfl, -, hcs⟩ := hc.at_ (by decide)
  have c7 := hcs 7 _ rfl
  have c9 := hcs 9 _ rfl
  clear hcs hc
  go_wp2_with fail
  refine (equal_ints _ _ [5] [5] _ (hs'.alloc _) (by have := SlV.lit w1 (ints .i64 [5]) 3 1 1 rfl (by decide); exact this)).mono ?_
  rintro e w2 ⟨rfl, m, rfl⟩
  go_wp2
  go_ret
  exact ⟨rfl, below_drewN (below_alloc ((below_alloc (Below.refl _ _) _).trans (hb.mono (by simp))) _) _⟩
end Go.Proofs.Ytniekhedpdkmiaa
