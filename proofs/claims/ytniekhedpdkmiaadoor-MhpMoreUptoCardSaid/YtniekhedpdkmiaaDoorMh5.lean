/-
  mhp.Open, walked.
-/
import Derived.Test.YtniekhedpdkmiaaDoorMh4
import Derived.Test.YtniekhedpdkmiaaDoorMake
namespace Go.Proofs.YtniekhedpdkmiaaDoor
set_option linter.unusedVariables false
set_option linter.unusedSimpArgs false
open Go.RowKit

namespace St
theorem rise_ext : ∀ {l m : List Nat}, l.Pairwise (· < ·) → m.Pairwise (· < ·) → (∀ x, x ∈ l ↔ x ∈ m) → l = m
  | [], [], _, _, _ => rfl
  | [], y :: m, _, _, h => absurd ((h y).2 List.mem_cons_self) (by simp)
  | x :: l, [], _, _, h => absurd ((h x).1 List.mem_cons_self) (by simp)
  | x :: l, y :: m, hl, hm, h => by
    have hl' := List.pairwise_cons.1 hl
    have hm' := List.pairwise_cons.1 hm
    have e : x = y := by
      rcases List.mem_cons.1 ((h x).1 List.mem_cons_self) with e | e
      · exact e
      · rcases List.mem_cons.1 ((h y).2 List.mem_cons_self) with e' | e'
        · exact e'.symm
        · have := hl'.1 y e'
          have := hm'.1 x e
          omega
    subst e
    refine congrArg _ (rise_ext hl'.2 hm'.2 fun z => ⟨fun hz => ?_, fun hz => ?_⟩)
    · rcases List.mem_cons.1 ((h z).1 (List.mem_cons_of_mem _ hz)) with e | e
      · have := hl'.1 z hz; omega
      · exact e
    · rcases List.mem_cons.1 ((h z).2 (List.mem_cons_of_mem _ hz)) with e | e
      · have := hm'.1 z hz; omega
      · exact e
theorem listOf_rise (n : Nat) (S : Nat → Prop) : (listOf n S).Pairwise (· < ·) := List.Pairwise.filter _ List.pairwise_lt_range
theorem ls_listOf {xs : List Nat} {n : Nat} {S : Nat → Prop} (hw : Bs.Ws xs) (h : ∀ j, Bs.bit xs j = true ↔ S j) (hS : ∀ j, S j → j < n) : Bs.ls 0 xs = listOf n S :=
  rise_ext (Bs.ls_rise xs 0 hw) (listOf_rise n S) fun j => by
    rw [Bs.mem_list hw, h, mem_listOf]
    exact ⟨fun hj => ⟨hS j hj, hj⟩, fun hj => hj.2⟩
theorem noted_lt : ∀ (p : P) (l N : Nat) (O : Nat → Prop), (∀ x, O x → x < l) → l + labels p ≤ N → ∀ i j, noted l O p i j → i < N ∧ j < N
  | .nil, _, _, _, _, _, _, _, h => h.elim
  | .cons k n a b body els r, l, N, O, hO, hN, i, j, h => by
    have hm : ∀ A : Nat → Prop, (∀ x, A x → x < l + lab1 k (labels body) (labels els)) → mixed A (span l (lab1 k (labels body) (labels els))) i j → i < N ∧ j < N := fun A hA h => by
      have := mixed_lt hA (fun x hx => hx.2) h
      rw [labels] at hN
      omega
    rcases h with h | h | h
    · exact hm O (fun x hx => by have := hO x hx; omega) h
    · have hb : labels body ≤ lab1 k (labels body) (labels els) → noted l none_ body i j → i < N ∧ j < N := fun hle h => noted_lt body l N none_ (fun x h => h.elim) (by rw [labels] at hN; omega) i j h
      rcases h with ⟨hk, h⟩ | ⟨hk, h | h⟩ | ⟨hk, h | h⟩
      · exact hb (by rcases hk with rfl | rfl <;> simp [lab1]) h
      · exact hb (by subst hk; simp [lab1]) h
      · exact noted_lt els _ N none_ (fun x h => h.elim) (by subst hk; simp [labels, lab1] at hN; omega) i j h
      · exact hb (by subst hk; simp [lab1]) h
      · refine hm _ (fun x hx => ?_) h
        have := (news_span body l x hx).2
        subst hk
        simp [lab1]
        omega
    · refine noted_lt r _ N _ (fun x hx => ?_) (by rw [labels] at hN; omega) i j h
      rcases hx with hx | hx
      · have := hO x hx; omega
      · have := (news_span (.cons k n a b body els .nil) l x (.inl hx)).2
        simpa [labels] using this
end St

theorem info_words : (Tryd.prog.info? 22).map (fun i => (i.zero, i.size, i.bytes)) = some (some (.slice none 0 0), 1, 24) := by kernel_rfl

/-- a looker, fresh -/
theorem lk_new {w1 w2 : World} {m : Nat} (hT : Tab w1) (hB : Blk w2 w1.heap.size 22 (List.replicate (m * 1) (.slice none 0 0))) (hb : Below w1.heap.size w1 w2) (hz : w2.heap.size = w1.heap.size + 1) :
    Lk (w2.alloc (.cells #[.slice (some ⟨w1.heap.size, 0, none⟩) m m] 68)) (w1.heap.size + 1) w1.heap.size m (fun _ _ => False) := by
  have h0 := Blk.new w2 68 [.slice (some ⟨w1.heap.size, 0, none⟩) m m]
  rw [hz] at h0
  have hba : Below w2.heap.size w2 (w2.alloc (.cells #[.slice (some ⟨w1.heap.size, 0, none⟩) m m] 68)) := below_alloc (Below.refl _ _) _
  refine ⟨(hT.nums (Nums.of_below hb)).nums (Nums.of_below hba), h0, List.replicate (m * 1) (.slice none 0 0), by simp, hB.below hba, fun i v hv => ?_⟩
  obtain ⟨hi, he⟩ := List.getElem?_eq_some_iff.1 hv
  rw [List.getElem_replicate] at he
  subst he
  exact (SetV.nil _).iff fun x => Iff.rfl

set_option maxRecDepth 100000 in
set_option maxHeartbeats 4000000 in
theorem open_any (p : St.P) (w : World) (B n c : Nat) (A : Option Addr) (hB : B ≤ w.heap.size) (hp : PR B w A n p) (hnc : n ≤ c) (hcm : c ≤ maxLen) (hsz : p.size ≤ 1099511627776) (hT : Tab w) :
    Calls Tryd.prog 24 #[.slice A n c] w fun e w' => ∃ u, e = .returned u ∧ SlV w' 1 u (St.open_ p).length (ilist (St.open_ p)) ∧ Below w.heap.size w w' := by
  have hlp := St.labels_le p
  obtain ⟨m, hm⟩ : ∃ m, m = St.labels p := ⟨_, rfl⟩
  rw [← hm] at hlp
  have hopen := show St.open_ p = if 65535 < m then [] else St.listOf m (St.news 0 p) by rw [hm]; rfl
  go_enter Tryd.func24, Tryd.ntmps24
  go_wp2_with fail
  refine (labels_any p w B n c A hB hp hnc hcm (by omega)).mono ?_
  rintro e w1 ⟨rfl, hb1⟩
  rw [← hm]
  have hp1 := hp.later (hb1.mono hB)
  have hT1 := hT.nums (Nums.of_below hb1)
  have hB1 : B ≤ w1.heap.size := Nat.le_trans hB hb1.size
  have HM := Lib.hid (And.intro hm hopen)
  clear hp hT hm hopen
  by_cases hbig : 65535 < m
  · have hd : decide ((65535 : Int) < (m : Int)) = true := by simp; omega
    have h0 : St.open_ p = [] := by rw [HM.out.2, if_pos hbig]
    have H0 := Lib.hid h0
    clear h0
    go_wp2
    go_ret
    exact ⟨_, rfl, by rw [H0.out]; exact SlV.nil _ _, hb1⟩
  · have hd : decide ((65535 : Int) < (m : Int)) = false := by simp; omega
    have H0 := Lib.hid (show St.open_ p = St.listOf m (St.news 0 p) by rw [HM.out.2, if_neg hbig])
    go_wp2_with (at_make; refine wp_make_blk _ _ _ _ (.slice none 0 0) 1 24 m Tryd.underlying66 info_words rfl (by decide) rfl rfl (by omega) (by omega) rfl rfl rfl rfl ?_; intro w2 hB2 hb2 hz2)
    have hL := lk_new hT1 hB2 hb2 hz2
    have hp2 := (hp1.later (hb2.mono hB1)).later ((below_alloc (Below.refl _ w2) (.cells #[.slice (some ⟨w1.heap.size, 0, none⟩) m m] 68)).mono (Nat.le_trans hB1 hb2.size))
    have hk2 : Below w1.heap.size w1 (w2.alloc (.cells #[.slice (some ⟨w1.heap.size, 0, none⟩) m m] 68)) := below_alloc hb2 _
    generalize w2.alloc (.cells #[.slice (some ⟨w1.heap.size, 0, none⟩) m m] 68) = w3 at hL hp2 hk2 ⊢
    have hk3 := hk2.size
    refine (block_any p w3 B n c (w1.heap.size + 1) w1.heap.size m 0 A _ (.slice none 0 0) St.none_ (by omega) hp2 hnc hcm (by omega) hL hB1 (SetV.nil _) (fun x h => h.elim) (by rw [Nat.zero_add, ← HM.out.1]; exact Nat.le_refl _) (by omega)).mono ?_
    rintro e w4 ⟨u4, rfl, hu4, hR4, hk4⟩
    have hT4 := hL.tab.nums (hL.nums hk4)
    have hb4 : Below w.heap.size w w4 := hb1.trans ((hk2.mono hb1.size).trans (hk4.below (Nat.le_trans hb1.size hk3) (fun i e => by have := hb1.size; omega)))
    obtain ⟨xs, s1, s2, s3⟩ := hu4
    clear hL hp2 hk2 hk3 hR4 hk4 hp1 hT1 hB2 hb2 hz2 hb1
    go_wp2_with fail
    refine (list_any w4 u4 xs s1 hT4 (by omega)).mono ?_
    rintro e w5 ⟨u5, rfl, hu5, hb5⟩
    have hb5' := below_next hb5 hb4
    have HX := Lib.hid (show Bs.ls 0 xs = St.open_ p by
      rw [H0.out]
      refine St.ls_listOf s1.2 (fun j => (s3 j).trans (St.none_both _ j)) fun j hj => ?_
      have := (St.news_span p 0 j hj).2
      rw [HM.out.1]
      omega)
    rw [HX.out] at hu5
    clear hb5 s1 hT4 hb4
    go_wp2
    go_ret
    exact ⟨_, rfl, hu5, hb5'⟩
end Go.Proofs.YtniekhedpdkmiaaDoor
