/-
  What is one behind the other does not race: the law, walked.
-/
import Derived.Test.YtcoijmnnnfogdaaSmP4
import Derived.Laws.StructEq
import Derived.Test.YtcoijmnnnfogdaaSmP3
import Derived.Test.YtcoijmnnnfogdaaSmP2
import Derived.Test.YtcoijmnnnfogdaaRfP1

namespace Go.Proofs.Ytcoijmnnnfogdaa
set_option linter.unusedVariables false
set_option linter.unusedSimpArgs false
set_option maxRecDepth 100000
open Go.RowKit

theorem prcs_one' (l : List (Nat × Nat)) : ∀ u ∈ Sp.prcs l, u.oneCell' = true := by
  intro u hu
  obtain ⟨p, -, hp⟩ := List.mem_flatMap.1 hu
  simp only [Sp.prc, List.mem_cons, List.not_mem_nil, or_false] at hp
  rcases hp with rfl | rfl <;> rfl
theorem clone_prs (v : Value) (n : Nat) (xs : List Value) (w : World) (h : SlV w 2 v n xs) (h1 : ∀ u ∈ xs, u.oneCell' = true) (hr : n * 16 ≤ 140737488355328) :
    Calls Try.prog 19 #[v] w fun e w' => ∃ u, e = .returned u ∧ w'.ownsRow w.heap.size 46 2 u n xs ∧ Below w.heap.size w w' := by
  obtain ⟨A, c, rfl, hle, hm, hlen, hc⟩ := h
  unfold maxLen at hm
  have heq := fun (w : World) (A : Option Addr) (n c : Nat) => Lib.run_eql_slice_nil (P := Try.prog) w _ _ A n c 0 0 Try.underlying38
  rcases A with _ | a
  · have h0 : xs = [] := by
      rcases xs with _ | ⟨x, xs⟩
      · rfl
      · obtain ⟨b, o, h1, _⟩ := hc
        have := (h1 (by simp)).1
        cases this
    have hn : n = 0 := by subst h0; simp at hlen; omega
    subst h0
    subst hn
    go_enter Try.func19, Try.ntmps19
    go_wp2
    go_ret
    exact ⟨_, rfl, World.ownsRow_nil _ _ _ _, Below.refl _ _⟩
  · go_enter Try.func19, Try.ntmps19
    have hmade := World.ownsRow_made (e := 46) (size := 2) (base := w.heap.size) w #[] 0 (Nat.le_refl _) (Nat.zero_le _) rfl
    have hc' := hc.keep (w' := w.alloc (.cells #[] 46)) (Nat.le_refl _) (fun p hp => World.cell?_alloc_lt w _ p hp)
    have n63 : 0 + n ≤ maxLen := by unfold maxLen; omega
    have n47 : (0 + n) * 16 ≤ 140737488355328 := by omega
    go_wp2_with (at_builtin; refine wp_append _ _ _ _ _ _ _ _ _ Try.underlying38 info_pair rfl (by decide) hmade hc' hlen h1 n63 n47 (by simp) rfl rfl rfl rfl ?_; intro v' w' hown _ _ hb)
    go_ret
    refine ⟨_, rfl, by simpa using hown, ((Below.refl _ _).alloc (Nat.le_refl _) _).trans hb⟩

set_option maxHeartbeats 2000000 in
theorem index_pair (v : Value) (xs : List (Nat × Nat)) (s1 s2 : Nat) (w : World) (h : SlV w 2 v xs.length (Sp.prcs xs)) :
    Calls Try.prog 37 #[v, .agg #[.int .i64 (s1 : Int), .int .i64 (s2 : Int)]] w fun e w' => (∃ z : Int, e = .returned (.int .i64 z) ∧ ((s1, s2) ∈ xs → decide (0 ≤ z) = true)) ∧ Below w.heap.size w w' := by
  obtain ⟨A, c, rfl, hle, hm, hlen, hc⟩ := h
  clear hlen
  unfold maxLen at hm
  obtain ⟨S1, hS1⟩ : ∃ z : Int, z = s1 := ⟨_, rfl⟩
  obtain ⟨S2, hS2⟩ : ∃ z : Int, z = s2 := ⟨_, rfl⟩
  rw [← hS1, ← hS2]
  have HS := Lib.hid (And.intro hS1 hS2)
  clear hS1 hS2
  obtain ⟨q, hq⟩ : ∃ q, q = w.heap.size := ⟨_, rfl⟩
  have pb := Blk.new w 46 [.int .i64 S1, .int .i64 S2]
  have hbw : Below w.heap.size w (w.alloc (.cells [Value.int .i64 S1, .int .i64 S2].toArray 46)) := below_alloc (Below.refl _ _) _
  go_enter Try.func37, Try.ntmps37
  go_wp2
  rw [← hq] at pb hbw ⊢
  generalize (w.alloc (.cells [Value.int .i64 S1, .int .i64 S2].toArray 46)) = W at pb hbw ⊢
  go_loopw [8] (fun i wr => ∃ k : Nat, k ≤ xs.length ∧ i = .int .i64 k ∧ (∃ a, wr = W.drewN a) ∧ (s1, s2) ∉ xs.take k) (fun i _ => xs.length - (intOf i).toNat)
  case atStart => exact ⟨0, Nat.zero_le _, rfl, ⟨0, rfl⟩, by simp⟩
  case round =>
    obtain ⟨k, hk, rfl, ⟨a, rfl⟩, ht⟩ := hrel
    have HT := Lib.hid ht
    clear ht
    have d1 : W.cell? ⟨q, 0, none⟩ = some (.int .i64 S1) := (pb.cell 0).trans rfl
    have d2 : W.cell? ⟨q, 1, none⟩ = some (.int .i64 S2) := (pb.cell 1).trans rfl
    by_cases hlt : k < xs.length
    · obtain ⟨⟨x1, x2⟩, hx⟩ : ∃ x, xs[k]? = some x := ⟨_, List.getElem?_eq_getElem hlt⟩
      obtain ⟨gx1, gx2⟩ := Sp.prcs_get _ _ _ hx
      obtain ⟨b, o, rfl, hb, hcc⟩ := hc.at_ (fun e => by rw [e] at gx1; simp at gx1)
      have c1 := (hbw.cell (p := ⟨b, o + k * 2, none⟩) (by rw [hq]; exact hb)).trans (hcc _ _ gx1)
      have c2 := (hbw.cell (p := ⟨b, o + (k * 2 + 1), none⟩) (by rw [hq]; exact hb)).trans (hcc _ _ gx2)
      rw [← Nat.add_assoc] at c2
      obtain ⟨X1, hX1⟩ : ∃ z : Int, z = x1 := ⟨_, rfl⟩
      obtain ⟨X2, hX2⟩ : ∃ z : Int, z = x2 := ⟨_, rfl⟩
      rw [← hX1] at c1
      rw [← hX2] at c2
      have HX := Lib.hid (And.intro hx (And.intro hX1 (And.intro hX2 hq)))
      clear hc hcc hx gx1 gx2 hX1 hX2 hq
      have nope : ¬ (S1 = X1 ∧ S2 = X2) → (s1, s2) ∉ xs.take (k + 1) := fun hn hmem => by
        obtain ⟨h', hx'⟩ := List.getElem?_eq_some_iff.1 HX.out.1
        rw [List.take_succ_eq_append_getElem h', hx'] at hmem
        rcases List.mem_append.1 hmem with hmem | hmem
        · exact HT.out hmem
        · simp only [List.mem_singleton, Prod.mk.injEq] at hmem
          obtain ⟨e1, e2⟩ := hmem
          have := HS.out
          have := HX.out.2
          exact hn ⟨by omega, by omega⟩
      have HN := Lib.hid nope
      clear nope
      rcases h1 : S1 == X1 with _ | _
      · have hn : ¬ (S1 = X1 ∧ S2 = X2) := fun h => by simp [h.1] at h1
        have HNo := Lib.hid (HN.out hn)
        clear hn
        go_wp2
        go_quiet (fail)
        go_wp2
        go_roundw
        case rel => exact ⟨k + 1, by omega, by go_num, ⟨_, rfl⟩, HNo.out⟩
        case measure => simp [intOf]; omega
      · rcases h2 : S2 == X2 with _ | _
        · have hn : ¬ (S1 = X1 ∧ S2 = X2) := fun h => by simp [h.2] at h2
          have HNo := Lib.hid (HN.out hn)
          clear hn
          go_wp2
          go_quiet (fail)
          go_wp2
          go_roundw
          case rel => exact ⟨k + 1, by omega, by go_num, ⟨_, rfl⟩, HNo.out⟩
          case measure => simp [intOf]; omega
        · go_wp2
          go_quiet (fail)
          go_wp2
          go_ret
          exact ⟨⟨_, rfl, fun _ => by simp⟩, by rw [← HX.out.2.2.2]; exact below_drewN (below_drewN hbw _) _⟩
    · have HK := Lib.hid (show k = xs.length by omega)
      clear hc
      have HQ := Lib.hid hq
      clear hq
      go_wp2
      go_ret
      exact ⟨⟨_, rfl, fun h => by
        have := HT.out
        rw [HK.out, List.take_length] at this
        exact absurd h this⟩, by rw [← HQ.out]; exact below_drewN hbw _⟩
theorem contains_pair (v : Value) (xs : List (Nat × Nat)) (s1 s2 : Nat) (w : World) (h : SlV w 2 v xs.length (Sp.prcs xs)) (hmem : (s1, s2) ∈ xs) :
    Calls Try.prog 21 #[v, .agg #[.int .i64 (s1 : Int), .int .i64 (s2 : Int)]] w fun e w' => e = .returned (.bool true) ∧ Below w.heap.size w w' := by
  have hb0 : Below w.heap.size w (w.alloc (.cells #[.int .i64 (s1 : Int), .int .i64 (s2 : Int)] 46)) := below_alloc (Below.refl _ _) _
  have hi := index_pair v xs s1 s2 _ (h.alloc (.cells #[.int .i64 (s1 : Int), .int .i64 (s2 : Int)] 46))
  obtain ⟨A, c, rfl, hle, hm, hlen, hc⟩ := h
  clear hlen hc hm hle
  have HM := Lib.hid hmem
  clear hmem
  go_enter Try.func21, Try.ntmps21
  go_wp2_with fail
  refine hi.mono ?_
  rintro e w1 ⟨⟨z, rfl, hz⟩, hb1⟩
  have HZ := Lib.hid (hz HM.out)
  have hb2 := below_next hb1 hb0
  clear hz hi hb0 hb1
  go_wp2
  go_ret
  exact ⟨ret_bool HZ.out, hb2⟩

theorem leaves_own (w : World) (cs : List Value) (t : Sp.T) (hT : TmR w.heap.size w cs t) (hn : t.size ≤ 4194304) :
    Calls Try.prog 14 #[.agg cs.toArray] w fun e w' => ∃ v, e = .returned v ∧ w'.ownsRow w.heap.size 23 3 v t.size (Sp.acccs t.leaves) ∧ Below w.heap.size w w' := by
  obtain ⟨a0, a1, a2, a3, A4, a5, a6, rfl, -, -⟩ := hT.form
  unfold tcells at hT ⊢
  have s1 := (hT.alloc (Nat.le_refl _) (.cells #[.int .i64 a0, .int .i64 a1, .bool a2, .int .i64 a3, .slice A4 a5 a6] 26)).alloc (by simp) (.cells #[.slice none 0 0] 76)
  have hb2 : Below w.heap.size w ((w.alloc (.cells #[.int .i64 a0, .int .i64 a1, .bool a2, .int .i64 a3, .slice A4 a5 a6] 26)).alloc (.cells #[.slice none 0 0] 76)) := below_alloc (below_alloc (Below.refl _ _) _) _
  have hL : Lv w.heap.size ((w.alloc (.cells #[.int .i64 a0, .int .i64 a1, .bool a2, .int .i64 a3, .slice A4 a5 a6] 26)).alloc (.cells #[.slice none 0 0] 76)) (w.heap.size + 1) (.slice none 0 0) 0 [] := by
    refine ⟨?_, World.ownsRow_nil _ _ _ _, by simp; omega, by omega, by simp [Value.ownBlock]⟩
    have := Blk.new (w.alloc (.cells #[.int .i64 a0, .int .i64 a1, .bool a2, .int .i64 a3, .slice A4 a5 a6] 26)) 76 [.slice none 0 0]
    simpa using this
  clear hT
  go_enter Try.func14, Try.ntmps14
  go_wp2_with fail
  refine (tell_leaves t w.heap.size _ _ _ 0 [] _ s1 hL (by omega)).mono ?_
  rintro e w1 ⟨rfl, v1, L1, k1, -⟩
  have c0 := L1.blk.cell 0
  simp only [List.getElem?_cons_zero] at c0
  have hb : Below w.heap.size w w1 := hb2.trans (k1.below hL.base (fun i hi => hi.elim (fun e => by omega) (fun e => by simp [Value.ownBlock] at e)))
  have hs := L1.row
  rw [Nat.zero_add, List.nil_append] at hs
  obtain ⟨A9, c9, rfl, h1, h2⟩ := own_slice hs
  have H3 := Lib.hid hs
  clear hs s1 hL L1 k1 hb2
  go_wp2
  go_ret
  exact ⟨_, rfl, H3.out, hb⟩
end Go.Proofs.Ytcoijmnnnfogdaa


namespace Go.Proofs.Ytcoijmnnnfogdaa.Rc
set_option linter.unusedVariables false
set_option linter.unusedSimpArgs false
set_option maxRecDepth 100000
open Sp (T Acc)

theorem acc_l {p : Bool} {a b : T} {i : Nat} (h : i < a.size) : acc (.two p a b) i = acc a i := by
  have h1 := acc_get (t := .two p a b) (n := i) (by rw [T.size_two]; omega)
  have h2 := acc_get (t := a) h
  rw [T.leaves, List.getElem?_append_left (by unfold T.size at h; exact h), h2] at h1
  injection h1 with h1
  exact h1.symm
theorem acc_r {p : Bool} {a b : T} {j : Nat} (h : j < b.size) : acc (.two p a b) (a.size + j) = acc b j := by
  have h1 := acc_get (t := .two p a b) (n := a.size + j) (by rw [T.size_two]; omega)
  have h2 := acc_get (t := b) h
  rw [T.leaves, List.getElem?_append_right (by unfold T.size; omega), show a.size + j - a.leaves.length = j by unfold T.size; omega, h2] at h1
  injection h1 with h1
  exact h1.symm
theorem hit_ll {p : Bool} {a b : T} {i j : Nat} (hi : i < a.size) (hj : j < a.size) : hit (.two p a b) i j = hit a i j := by
  unfold hit clash
  rw [acc_l hi, acc_l hj, Stl.rk_l hi, Stl.rk_l hj]
  congr 1
  rw [Bool.eq_iff_iff, decide_eq_true_iff, decide_eq_true_iff]
  omega
theorem hit_rr {p : Bool} {a b : T} {i j : Nat} (hi : i < b.size) (hj : j < b.size) : hit (.two p a b) (a.size + i) (a.size + j) = hit b i j := by
  unfold hit clash
  rw [acc_r hi, acc_r hj, Stl.rk_r (by omega), Stl.rk_r (by omega), show a.size + i - a.size = i by omega, show a.size + j - a.size = j by omega]
  congr 1
  rw [Bool.eq_iff_iff, decide_eq_true_iff, decide_eq_true_iff]
  omega
def clash2 (a b : T) (i j : Nat) : Bool := (acc a i).1 == (acc b j).1 && ((acc a i).2.1 || (acc b j).2.1)
theorem hit_seq {a b : T} {i j : Nat} (hi : i < a.size) (hj : j < b.size) : hit (.two false a b) i (a.size + j) = false := by
  unfold hit
  rw [Stl.rk_l hi, Stl.rk_r (by omega)]
  have h1 := a.rk_lt i hi
  have : decide ((b.rk (a.size + j - a.size) + if false = true then 0 else a.size) < a.rk i + if false = true then b.size else 0) = false := by
    simp
    omega
  rw [this, Bool.and_false]
theorem hit_par {a b : T} {i j : Nat} (hi : i < a.size) (hj : j < b.size) : hit (.two true a b) i (a.size + j) = clash2 a b i j := by
  unfold hit clash clash2
  rw [Stl.rk_l hi, Stl.rk_r (by omega), acc_l hi, acc_r hj, show a.size + j - a.size = j by omega]
  have h1 := b.rk_lt j hj
  have : decide ((b.rk j + if true = true then 0 else a.size) < a.rk i + if true = true then b.size else 0) = true := by
    simp
    omega
  rw [this, Bool.and_true]

def shift (n : Nat) (p : Nat × Nat) : Nat × Nat := (p.1 + n, p.2 + n)
/-- what clashes between the first k of one and the other -/
def crossR (a b : T) (i m : Nat) : List (Nat × Nat) := ((List.range m).filter (clash2 a b i)).map fun j => (i, j + a.size)
def crossK (a b : T) (k : Nat) : List (Nat × Nat) := (List.range k).flatMap fun i => crossR a b i b.size
theorem crossR_zero (a b : T) (i : Nat) : crossR a b i 0 = [] := rfl
theorem crossR_succ (a b : T) (i m : Nat) : crossR a b i (m + 1) = crossR a b i m ++ (if clash2 a b i m then [(i, m + a.size)] else []) := by
  unfold crossR
  rw [List.range_succ, List.filter_append, List.map_append]
  simp only [List.filter_cons, List.filter_nil]
  split <;> rfl
theorem crossK_zero (a b : T) : crossK a b 0 = [] := rfl
theorem crossK_succ (a b : T) (k : Nat) : crossK a b (k + 1) = crossK a b k ++ crossR a b k b.size := by
  unfold crossK
  rw [List.range_succ, List.flatMap_append]
  simp
theorem crossR_len (a b : T) (i m : Nat) : (crossR a b i m).length ≤ m := by
  unfold crossR
  rw [List.length_map]
  exact Nat.le_trans (List.length_filter_le _ _) (by simp)
theorem crossK_len (a b : T) : ∀ k, (crossK a b k).length ≤ k * b.size
  | 0 => by simp [crossK]
  | k + 1 => by
    rw [crossK_succ, List.length_append, Nat.add_mul, Nat.one_mul]
    exact Nat.add_le_add (crossK_len a b k) (crossR_len a b k _)
theorem cross_mem {a b : T} {p : Nat × Nat} : p ∈ crossK a b a.size ↔ p.1 < a.size ∧ ∃ j, j < b.size ∧ p.2 = j + a.size ∧ clash2 a b p.1 j = true := by
  unfold crossK crossR
  rw [List.mem_flatMap]
  constructor
  · rintro ⟨i, hi, hp⟩
    obtain ⟨j, hj, rfl⟩ := List.mem_map.1 hp
    have := List.mem_filter.1 hj
    exact ⟨List.mem_range.1 hi, j, List.mem_range.1 this.1, rfl, this.2⟩
  · rintro ⟨h1, j, h2, h3, h4⟩
    exact ⟨p.1, List.mem_range.2 h1, List.mem_map.2 ⟨j, List.mem_filter.2 ⟨List.mem_range.2 h2, h4⟩, by rw [← h3]⟩⟩
def seqL (a b : T) : List (Nat × Nat) := races a ++ (races b).map (shift a.size)

/-! ### rising pairs -/
def plt (p q : Nat × Nat) : Prop := p.1 < q.1 ∨ (p.1 = q.1 ∧ p.2 < q.2)
theorem plt_irr (p : Nat × Nat) : ¬ plt p p := fun h => by unfold plt at h; omega
theorem rowR_up (t : T) (i m : Nat) : (rowR t i m).Pairwise plt := by
  unfold rowR
  rw [List.pairwise_map]
  exact (List.pairwise_lt_range.filter _).imp fun h => .inr ⟨rfl, by show i + 1 + _ < i + 1 + _; omega⟩
theorem flat_up {f : Nat → List (Nat × Nat)} (h1 : ∀ i, (f i).Pairwise plt) (h2 : ∀ i, ∀ p ∈ f i, p.1 = i) : ∀ k, ((List.range k).flatMap f).Pairwise plt
  | 0 => by simp
  | k + 1 => by
    rw [List.range_succ, List.flatMap_append]
    refine List.pairwise_append.2 ⟨flat_up h1 h2 k, by simpa using h1 k, fun x hx y hy => ?_⟩
    obtain ⟨i, hi, hx⟩ := List.mem_flatMap.1 hx
    have e1 := h2 i x hx
    have e2 := h2 k y (by simpa using hy)
    have := List.mem_range.1 hi
    exact .inl (by omega)
theorem races_up (t : T) : (races t).Pairwise plt := flat_up (fun i => rowR_up t i _) (fun i p hp => (rowR_mem.1 hp).1) _
theorem up_nodup {l : List (Nat × Nat)} (h : l.Pairwise plt) : l.Nodup := h.imp fun h e => by subst e; exact plt_irr _ h
theorem plt_trans {p q r : Nat × Nat} (h1 : plt p q) (h2 : plt q r) : plt p r := by unfold plt at *; omega
/-- two lists of pairs that go up and have the same members -/
theorem up_same : ∀ {l m : List (Nat × Nat)}, l.Pairwise plt → m.Pairwise plt → (∀ x, x ∈ l ↔ x ∈ m) → l = m
  | [], [], _, _, _ => rfl
  | [], y :: m, _, _, h => by have := (h y).2 List.mem_cons_self; cases this
  | x :: l, [], _, _, h => by have := (h x).1 List.mem_cons_self; cases this
  | x :: l, y :: m, hl, hm, h => by
    have hl' := List.pairwise_cons.1 hl
    have hm' := List.pairwise_cons.1 hm
    have e : x = y := by
      rcases List.mem_cons.1 ((h x).1 List.mem_cons_self) with e | hx
      · exact e
      · rcases List.mem_cons.1 ((h y).2 List.mem_cons_self) with e | hy
        · exact e.symm
        · exact absurd (plt_trans (hm'.1 x hx) (hl'.1 y hy)) (plt_irr _)
    subst e
    congr 1
    refine up_same hl'.2 hm'.2 fun z => ⟨fun hz => ?_, fun hz => ?_⟩
    · rcases List.mem_cons.1 ((h z).1 (List.mem_cons_of_mem _ hz)) with e | h1
      · subst e
        exact absurd (hl'.1 z hz) (plt_irr _)
      · exact h1
    · rcases List.mem_cons.1 ((h z).2 (List.mem_cons_of_mem _ hz)) with e | h1
      · subst e
        exact absurd (hm'.1 z hz) (plt_irr _)
      · exact h1
theorem seqL_mem {a b : T} {p : Nat × Nat} : p ∈ seqL a b ↔ (p.1 < p.2 ∧ p.2 < a.size ∧ hit a p.1 p.2 = true) ∨ ∃ i j, p = (i + a.size, j + a.size) ∧ i < j ∧ j < b.size ∧ hit b i j = true := by
  unfold seqL
  rw [List.mem_append, races_mem, List.mem_map]
  refine or_congr Iff.rfl ⟨?_, ?_⟩
  · rintro ⟨x, hx, rfl⟩
    obtain ⟨h1, h2, h3⟩ := races_mem.1 hx
    exact ⟨x.1, x.2, rfl, h1, h2, h3⟩
  · rintro ⟨i, j, rfl, h1, h2, h3⟩
    exact ⟨(i, j), races_mem.2 ⟨h1, h2, h3⟩, rfl⟩
theorem seqL_up (a b : T) : (seqL a b).Pairwise plt := by
  unfold seqL
  refine List.pairwise_append.2 ⟨races_up a, ?_, fun x hx y hy => ?_⟩
  · rw [List.pairwise_map]
    exact (races_up b).imp fun h => by unfold plt shift at *; simp only; omega
  · obtain ⟨z, -, rfl⟩ := List.mem_map.1 hy
    have := races_mem.1 hx
    exact .inl (by show x.1 < z.1 + a.size; omega)
theorem races_two {p : Bool} {a b : T} {x : Nat × Nat} : x ∈ races (.two p a b) ↔ x ∈ seqL a b ∨ (x.1 < a.size ∧ ∃ j, j < b.size ∧ x.2 = j + a.size ∧ hit (.two p a b) x.1 (a.size + j) = true) := by
  obtain ⟨i, j⟩ := x
  rw [races_mem, seqL_mem, T.size_two]
  simp only
  constructor
  · rintro ⟨h1, h2, h3⟩
    by_cases hj : j < a.size
    · exact .inl (.inl ⟨h1, hj, by rw [← h3, hit_ll (by omega) hj]⟩)
    · obtain ⟨j', rfl⟩ : ∃ j', j = a.size + j' := ⟨j - a.size, by omega⟩
      by_cases hi : i < a.size
      · exact .inr ⟨hi, j', by omega, by omega, h3⟩
      · obtain ⟨i', rfl⟩ : ∃ i', i = a.size + i' := ⟨i - a.size, by omega⟩
        exact .inl (.inr ⟨i', j', by rw [Nat.add_comm i', Nat.add_comm j'], by omega, by omega, by rw [← h3, hit_rr (by omega) (by omega)]⟩)
  · rintro ((⟨h1, h2, h3⟩ | ⟨i', j', e, h1, h2, h3⟩) | ⟨h1, j', h2, e, h3⟩)
    · exact ⟨h1, by omega, by rw [hit_ll (by omega) h2]; exact h3⟩
    · injection e with e1 e2
      subst e1 e2
      exact ⟨by omega, by omega, by rw [Nat.add_comm i', Nat.add_comm j', hit_rr (by omega) h2]; exact h3⟩
    · subst e
      exact ⟨by omega, by omega, by rw [Nat.add_comm j']; exact h3⟩
/-- what is one behind the other does not race -/
theorem races_seq (a b : T) : races (.two false a b) = seqL a b := by
  refine up_same (races_up _) (seqL_up a b) fun x => ?_
  rw [races_two]
  refine ⟨fun h => h.elim id fun ⟨h1, j, h2, _, h3⟩ => ?_, .inl⟩
  rw [hit_seq h1 h2] at h3
  cases h3
def parL (a b : T) : List (Nat × Nat) := seqL a b ++ crossK a b a.size
theorem parL_mem {a b : T} {x : Nat × Nat} : x ∈ parL a b ↔ x ∈ races (.two true a b) := by
  unfold parL
  rw [List.mem_append, races_two, cross_mem]
  constructor
  · rintro (h | ⟨h1, j, h2, h3, h4⟩)
    · exact .inl h
    · exact .inr ⟨h1, j, h2, h3, by rw [hit_par h1 h2]; exact h4⟩
  · rintro (h | ⟨h1, j, h2, h3, h4⟩)
    · exact .inl h
    · exact .inr ⟨h1, j, h2, h3, by rw [← hit_par h1 h2]; exact h4⟩
theorem crossR_up (a b : T) (i m : Nat) : (crossR a b i m).Pairwise plt := by
  unfold crossR
  rw [List.pairwise_map]
  exact (List.pairwise_lt_range.filter _).imp fun h => .inr ⟨rfl, by show _ + a.size < _ + a.size; omega⟩
theorem crossK_up (a b : T) (k : Nat) : (crossK a b k).Pairwise plt := flat_up (fun i => crossR_up a b i _) (fun i p hp => by
  unfold crossR at hp
  obtain ⟨j, -, rfl⟩ := List.mem_map.1 hp
  rfl) _
theorem parL_nodup (a b : T) : (parL a b).Nodup := by
  unfold parL
  refine List.nodup_append.2 ⟨up_nodup (seqL_up a b), up_nodup (crossK_up a b _), fun x hx y hy e => ?_⟩
  subst e
  obtain ⟨h1, j, h2, h3, -⟩ := cross_mem.1 hy
  rcases seqL_mem.1 hx with ⟨h4, h5, -⟩ | ⟨i', j', e, -, -, -⟩
  · omega
  · rw [e] at h1
    simp only at h1
    omega
/-- what is side by side races as either does, and with what clashes between -/
theorem parL_len (a b : T) : (parL a b).length = (races (.two true a b)).length := by
  have h1 := (parL_nodup a b).length_le_of_subset (fun x hx => parL_mem.1 hx)
  have h2 := (up_nodup (races_up (.two true a b))).length_le_of_subset (fun x hx => parL_mem.2 hx)
  omega
theorem races_len (t : T) : (races t).length ≤ t.size * t.size := racesK_len t t.size
theorem seqL_len (a b : T) : (seqL a b).length = (races a).length + (races b).length := by
  unfold seqL
  rw [List.length_append, List.length_map]
end Go.Proofs.Ytcoijmnnnfogdaa.Rc


namespace Go.Proofs.Ytcoijmnnnfogdaa
set_option linter.unusedVariables false
set_option linter.unusedSimpArgs false
set_option maxRecDepth 100000
open Go.RowKit

/-- five cells of a box, and the term they make -/
def Bx (w : World) (q : Nat) (a0 a1 : Int) (a2 : Bool) (a3 : Int) (A4 : Option Addr) (a5 a6 : Nat) : Prop :=
  w.cell? ⟨q, 0, none⟩ = some (.int .i64 a0) ∧ w.cell? ⟨q, 1, none⟩ = some (.int .i64 a1) ∧ w.cell? ⟨q, 2, none⟩ = some (.bool a2) ∧ w.cell? ⟨q, 3, none⟩ = some (.int .i64 a3) ∧ w.cell? ⟨q, 4, none⟩ = some (.slice A4 a5 a6)
theorem Bx.of {w : World} {q : Nat} {a0 a1 : Int} {a2 : Bool} {a3 : Int} {A4 : Option Addr} {a5 a6 : Nat} (h : Blk w q 26 [.int .i64 a0, .int .i64 a1, .bool a2, .int .i64 a3, .slice A4 a5 a6]) : Bx w q a0 a1 a2 a3 A4 a5 a6 :=
  ⟨(h.cell 0).trans rfl, (h.cell 1).trans rfl, (h.cell 2).trans rfl, (h.cell 3).trans rfl, (h.cell 4).trans rfl⟩

/-- the four boxes -/
structure Four (w : World) (q s1 s2 : Nat) (a0 a1 : Int) (a2 : Bool) (a3 : Int) (A4 : Option Addr) (a5 a6 : Nat) (b0 b1 : Int) (b2 : Bool) (b3 : Int) (B4 : Option Addr) (b5 b6 : Nat) (p1 p2 : Nat) (a b : Sp.T) : Prop where
  ba : Bx w q a0 a1 a2 a3 A4 a5 a6
  bb : Bx w (q + 1) b0 b1 b2 b3 B4 b5 b6
  bs : Bx w s1 2 0 false 0 (some ⟨p1, 0, none⟩) 2 2
  bp : Bx w s2 3 0 false 0 (some ⟨p2, 0, none⟩) 2 2
  ta : TmR w.heap.size w [.int .i64 a0, .int .i64 a1, .bool a2, .int .i64 a3, .slice A4 a5 a6] a
  tb : TmR w.heap.size w [.int .i64 b0, .int .i64 b1, .bool b2, .int .i64 b3, .slice B4 b5 b6] b
  ts : TmR w.heap.size w [.int .i64 2, .int .i64 0, .bool false, .int .i64 0, .slice (some ⟨p1, 0, none⟩) 2 2] (.two false a b)
  tp : TmR w.heap.size w [.int .i64 3, .int .i64 0, .bool false, .int .i64 0, .slice (some ⟨p2, 0, none⟩) 2 2] (.two true a b)

set_option maxRecDepth 20000 in
set_option maxHeartbeats 16000000 in
theorem raceChain_walk (a b : Sp.T) (w : World) (ca cb : List Value) (hTa : TmR w.heap.size w ca a) (hTb : TmR w.heap.size w cb b) (hn : a.size + b.size ≤ 1048576) :
    Calls Try.prog 7 #[.agg ca.toArray, .agg cb.toArray] w fun e w' => e = .returned (.bool true) ∧ Below w.heap.size w w' := by
  obtain ⟨a0, a1, a2, a3, A4, a5, a6, rfl, -, -⟩ := hTa.form
  obtain ⟨b0, b1, b2, b3, B4, b5, b6, rfl, -, -⟩ := hTb.form
  unfold tcells at hTa hTb ⊢
  obtain ⟨x0, x1, hz, hk⟩ := two_allocs w [.int .i64 a0, .int .i64 a1, .bool a2, .int .i64 a3, .slice A4 a5 a6] [.int .i64 b0, .int .i64 b1, .bool b2, .int .i64 b3, .slice B4 b5 b6] 26 26
  have hb0 := hk.below (Nat.le_refl _) (fun i h => h.elim)
  go_enter Try.func7, Try.ntmps7
  go_wp2_with fail
  obtain ⟨q, hq⟩ : ∃ q, q = w.heap.size := ⟨_, rfl⟩
  have hA0 := tm_up (hTa.later hb0) hb0.size
  have hB0 := tm_up (hTb.later hb0) hb0.size
  generalize (w.alloc (.cells [Value.int .i64 a0, .int .i64 a1, .bool a2, .int .i64 a3, .slice A4 a5 a6].toArray 26)).alloc (.cells [Value.int .i64 b0, .int .i64 b1, .bool b2, .int .i64 b3, .slice B4 b5 b6].toArray 26) = W0 at x0 x1 hz hk hb0 hA0 hB0 ⊢
  rw [← hq] at x0 x1 hz ⊢
  refine (alive15_any _).mono ?_
  rintro e w1 ⟨rfl, hb1⟩
  have y0 := x0.below hb1
  have y1 := x1.below hb1
  have hA1 := tm_up (hA0.later hb1) hb1.size
  have hB1 := tm_up (hB0.later hb1) hb1.size
  have hbw := below_next hb1 hb0
  have HQ := Lib.hid (And.intro hq hbw)
  clear x0 x1 hz hk hb0 hA0 hB0 hb1 hTa hTb hq hbw
  obtain ⟨z0, z1, hz1, hk1⟩ := two_allocs w1 [.int .i64 a0, .int .i64 a1, .bool a2, .int .i64 a3, .slice A4 a5 a6, .int .i64 b0, .int .i64 b1, .bool b2, .int .i64 b3, .slice B4 b5 b6] [.int .i64 2, .int .i64 0, .bool false, .int .i64 0, .slice (some ⟨w1.heap.size, 0, none⟩) 2 2] 26 26
  obtain ⟨z2, z3, hz3, hk3⟩ := two_allocs ((w1.alloc (.cells [Value.int .i64 a0, .int .i64 a1, .bool a2, .int .i64 a3, .slice A4 a5 a6, .int .i64 b0, .int .i64 b1, .bool b2, .int .i64 b3, .slice B4 b5 b6].toArray 26)).alloc (.cells [Value.int .i64 2, .int .i64 0, .bool false, .int .i64 0, .slice (some ⟨w1.heap.size, 0, none⟩) 2 2].toArray 26)) [.int .i64 a0, .int .i64 a1, .bool a2, .int .i64 a3, .slice A4 a5 a6, .int .i64 b0, .int .i64 b1, .bool b2, .int .i64 b3, .slice B4 b5 b6] [.int .i64 3, .int .i64 0, .bool false, .int .i64 0, .slice (some ⟨w1.heap.size + 1 + 1, 0, none⟩) 2 2] 26 26
  rw [hz1] at z2 z3 hz3
  have kb1 := hk1.below (Nat.le_refl _) (fun i h => h.elim)
  have kb3 := hk3.below (Nat.le_refl _) (fun i h => h.elim)
  have z0' := z0.below kb3
  have z1' := z1.below kb3
  have hb13 := below_self kb1 kb3
  have hlt0 : q < w1.heap.size := y0.lt
  obtain ⟨c0, c1, c2, c3, c4⟩ := Bx.of y0
  obtain ⟨d0, d1, d2, d3, d4⟩ := Bx.of y1
  have hlt1 : q + 1 < w1.heap.size := y1.lt
  go_upto_region 5 with (fail)
  generalize hWW : (((w1.alloc (.cells [Value.int .i64 a0, .int .i64 a1, .bool a2, .int .i64 a3, .slice A4 a5 a6, .int .i64 b0, .int .i64 b1, .bool b2, .int .i64 b3, .slice B4 b5 b6].toArray 26)).alloc (.cells [Value.int .i64 2, .int .i64 0, .bool false, .int .i64 0, .slice (some ⟨w1.heap.size, 0, none⟩) 2 2].toArray 26)).alloc (.cells [Value.int .i64 a0, .int .i64 a1, .bool a2, .int .i64 a3, .slice A4 a5 a6, .int .i64 b0, .int .i64 b1, .bool b2, .int .i64 b3, .slice B4 b5 b6].toArray 26)).alloc (.cells [Value.int .i64 3, .int .i64 0, .bool false, .int .i64 0, .slice (some ⟨w1.heap.size + 1 + 1, 0, none⟩) 2 2].toArray 26) = W at z2 z3 hz3 hk3 kb3 z0' z1' hb13 ⊢
  obtain ⟨P, hP⟩ : ∃ P, P = w1.heap.size := ⟨_, rfl⟩
  rw [← hP] at z2 z3 z0' z1' hz3 ⊢
  have y0' := y0.below hb13
  have y1' := y1.below hb13
  have hW13 := hb13.size
  have tA := tm_up (hA1.later hb13) hW13
  have tB := tm_up (hB1.later hb13) hW13
  have tS : TmR W.heap.size W [.int .i64 2, .int .i64 0, .bool false, .int .i64 0, .slice (some ⟨P, 0, none⟩) 2 2] (.two false a b) := TmR.made (xs := [.int .i64 a0, .int .i64 a1, .bool a2, .int .i64 a3, .slice A4 a5 a6]) (ys := [.int .i64 b0, .int .i64 b1, .bool b2, .int .i64 b3, .slice B4 b5 b6]) false z0' rfl z0'.lt tA tB
  have tP : TmR W.heap.size W [.int .i64 3, .int .i64 0, .bool false, .int .i64 0, .slice (some ⟨P + 1 + 1, 0, none⟩) 2 2] (.two true a b) := TmR.made (xs := [.int .i64 a0, .int .i64 a1, .bool a2, .int .i64 a3, .slice A4 a5 a6]) (ys := [.int .i64 b0, .int .i64 b1, .bool b2, .int .i64 b3, .slice B4 b5 b6]) true z2 rfl z2.lt tA tB
  have look : ∀ w', Below W.heap.size W w' → Four w' q (P + 1) (P + 1 + 1 + 1) a0 a1 a2 a3 A4 a5 a6 b0 b1 b2 b3 B4 b5 b6 P (P + 1 + 1) a b := fun w' hb =>
    ⟨.of (y0'.below hb), .of (y1'.below hb), .of (z1'.below hb), .of (z3.below hb), tm_up (tA.later hb) hb.size, tm_up (tB.later hb) hb.size, tm_up (tS.later hb) hb.size, tm_up (tP.later hb) hb.size⟩
  have hbW := below_self HQ.out.2 hb13
  have gLa : ∀ w', Below W.heap.size W w' → Calls Try.prog 14 #[.agg #[.int .i64 a0, .int .i64 a1, .bool a2, .int .i64 a3, .slice A4 a5 a6]] w' fun e w'' => ∃ v, e = .returned v ∧ w''.ownsRow w'.heap.size 23 3 v a.size (Sp.acccs a.leaves) ∧ Below w'.heap.size w' w'' := fun w' hb => leaves_own w' _ a (look w' hb).ta (by omega)
  have gLb : ∀ w', Below W.heap.size W w' → Calls Try.prog 14 #[.agg #[.int .i64 b0, .int .i64 b1, .bool b2, .int .i64 b3, .slice B4 b5 b6]] w' fun e w'' => ∃ v, e = .returned v ∧ w''.ownsRow w'.heap.size 23 3 v b.size (Sp.acccs b.leaves) ∧ Below w'.heap.size w' w'' := fun w' hb => leaves_own w' _ b (look w' hb).tb (by omega)
  have gRa : ∀ w', Below W.heap.size W w' → Calls Try.prog 11 #[.agg #[.int .i64 a0, .int .i64 a1, .bool a2, .int .i64 a3, .slice A4 a5 a6]] w' fun e w'' => ∃ v, e = .returned v ∧ SlV w'' 2 v (Rc.races a).length (Sp.prcs (Rc.races a)) ∧ Below w'.heap.size w' w'' := fun w' hb =>
    (race_races a w' _ (look w' hb).ta (by omega)).mono fun e w'' ⟨u, h1, h2, h3⟩ => ⟨u, h1, SlV.of_own h2, h3⟩
  have gRb : ∀ w', Below W.heap.size W w' → Calls Try.prog 11 #[.agg #[.int .i64 b0, .int .i64 b1, .bool b2, .int .i64 b3, .slice B4 b5 b6]] w' fun e w'' => ∃ v, e = .returned v ∧ w''.ownsRow w'.heap.size 46 2 v (Rc.races b).length (Sp.prcs (Rc.races b)) ∧ Below w'.heap.size w' w'' := fun w' hb =>
    race_races b w' _ (look w' hb).tb (by omega)
  have gRs : ∀ w', Below W.heap.size W w' → Calls Try.prog 11 #[.agg #[.int .i64 2, .int .i64 0, .bool false, .int .i64 0, .slice (some ⟨P, 0, none⟩) 2 2]] w' fun e w'' => ∃ v, e = .returned v ∧ SlV w'' 2 v (Rc.races (.two false a b)).length (Sp.prcs (Rc.races (.two false a b))) ∧ Below w'.heap.size w' w'' := fun w' hb =>
    (race_races (.two false a b) w' _ (look w' hb).ts (by rw [Sp.T.size_two]; omega)).mono fun e w'' ⟨u, h1, h2, h3⟩ => ⟨u, h1, SlV.of_own h2, h3⟩
  have gRp : ∀ w', Below W.heap.size W w' → Calls Try.prog 11 #[.agg #[.int .i64 3, .int .i64 0, .bool false, .int .i64 0, .slice (some ⟨P + 1 + 1, 0, none⟩) 2 2]] w' fun e w'' => ∃ v, e = .returned v ∧ SlV w'' 2 v (Rc.races (.two true a b)).length (Sp.prcs (Rc.races (.two true a b))) ∧ Below w'.heap.size w' w'' := fun w' hb =>
    (race_races (.two true a b) w' _ (look w' hb).tp (by rw [Sp.T.size_two]; omega)).mono fun e w'' ⟨u, h1, h2, h3⟩ => ⟨u, h1, SlV.of_own h2, h3⟩
  have HL := Lib.hid look
  have HA := Lib.hid (And.intro gLa gRa)
  have HB := Lib.hid (And.intro gLb gRb)
  have HS := Lib.hid (And.intro gRs gRp)
  have HW := Lib.hid hbW
  have gL1 := gLa W (Below.refl _ _)
  clear gLa gLb gRa gRb gRs gRp look hbW tA tB tS tP y0 y1 y0' y1' z0 z1 z2 z3 z0' z1' hz1 hz3 hk1 hk3 kb1 kb3 hb13 hA1 hB1 c0 c1 c2 c3 c4 d0 d1 d2 d3 d4 hlt0 hlt1 hW13 hP hWW
  obtain ⟨c0, c1, c2, c3, c4⟩ := (HL.out W (Below.refl _ _)).ba
  go_wp2_with fail
  refine gL1.mono ?_
  rintro e w2 ⟨v2, rfl, ho2, hb2⟩
  obtain ⟨PL, cL, rfl, hleL, hmL⟩ := own_slice ho2
  clear ho2
  unfold maxLen at hmL
  have gR1 := HA.out.2 w2 hb2
  clear gL1 c0 c1 c2 c3 c4
  obtain ⟨c0, c1, c2, c3, c4⟩ := (HL.out w2 hb2).ba
  obtain ⟨n, hn1⟩ : ∃ n, n = a.size := ⟨_, rfl⟩
  obtain ⟨m, hm1⟩ : ∃ m, m = b.size := ⟨_, rfl⟩
  rw [← hn1] at hleL ⊢
  have hnm : n + m ≤ 1048576 := by omega
  have HN := Lib.hid (And.intro hn1 hm1)
  clear hn1 hm1
  go_wp2_with fail
  refine gR1.mono ?_
  rintro e w3 ⟨v3, rfl, hs3, hb3⟩
  have lA := Rc.races_len a
  have lB := Rc.races_len b
  have lAA : a.size * a.size ≤ 1048576 * 1048576 := Nat.mul_le_mul (by omega) (by omega)
  have lBB : b.size * b.size ≤ 1048576 * 1048576 := Nat.mul_le_mul (by omega) (by omega)
  have lAB : a.size * b.size ≤ 1048576 * 1048576 := Nat.mul_le_mul (by omega) (by omega)
  have gC := clone_prs v3 (Rc.races a).length _ w3 hs3 (prcs_one' _) (by omega)
  obtain ⟨A3, d3, rfl, hle3, hm3, -, -⟩ := hs3
  have hbX3 := below_self hb2 hb3
  have HLn := Lib.hid (And.intro lA (And.intro lB (And.intro lAA (And.intro lBB lAB))))
  clear gR1 c0 c1 c2 c3 c4 lA lB lAA lBB lAB hb2 hb3
  go_wp2_with fail
  refine gC.mono ?_
  rintro e w4 ⟨u4, rfl, ho4, hb4⟩
  have hbX4 := below_self hbX3 hb4
  have ho4' := own_base ho4 (hbX3.size)
  obtain ⟨A4', d4', rfl, -, -⟩ := own_slice ho4
  have gR2 := HB.out.2 w4 hbX4
  obtain ⟨c0, c1, c2, c3, c4⟩ := (HL.out w4 hbX4).bb
  have hlt4 := fun i h => (ho4.lt i h).2
  have HO4 := Lib.hid (And.intro ho4' hlt4)
  clear gC ho4 ho4' hbX3 hb4 hlt4
  go_wp2_with fail
  refine gR2.mono ?_
  rintro e w5 ⟨v5, rfl, ho5b, hb5⟩
  have hbX5 := below_self hbX4 hb5
  have ho5 := own_keeps HO4.out.1 (Keeps.of_below hb5 (fun _ => False)) (fun _ _ => id)
  have hap5 : ∀ i, (Value.slice A4' (Rc.races a).length d4').ownBlock = some i → v5.ownBlock ≠ some i := fun i h1 h2 => by
    have e1 := HO4.out.2 i h1
    have e2 := (ho5b.lt i h2).1
    omega
  have ho5b := own_base ho5b hbX4.size
  obtain ⟨A5, d5, rfl, hle5, hm5⟩ := own_slice ho5b
  unfold maxLen at hm5
  obtain ⟨R, hR⟩ : ∃ R, R = (Rc.races b).length := ⟨_, rfl⟩
  have hRb : R ≤ 1048576 * 1048576 := by have := HLn.out; omega
  rw [← hR] at ho5b hap5 hle5 ⊢
  have HR := Lib.hid hR
  have H5 := Lib.hid (And.intro hbX5 (And.intro ho5 (And.intro ho5b hap5)))
  clear gR2 c0 c1 c2 c3 c4 hb5 hbX4 hR hbX5 ho5 ho5b hap5
  go_wp2_with fail
  go_loopw [8, 37] (fun out i wr => ∃ k : Nat, k ≤ R ∧ i = .int .i64 (k : Int) ∧ Below W.heap.size W wr ∧ wr.ownsRow W.heap.size 46 2 out (Rc.races a ++ ((Rc.races b).take k).map (Rc.shift n)).length (Sp.prcs (Rc.races a ++ ((Rc.races b).take k).map (Rc.shift n))) ∧ wr.ownsRow W.heap.size 46 2 (.slice A5 R d5) R (Sp.prcs (Rc.races b)) ∧ ∀ i, out.ownBlock = some i → (Value.slice A5 R d5).ownBlock ≠ some i) (fun _ i _ => R - (intOf i).toNat)
  case atStart => exact ⟨0, Nat.zero_le _, rfl, H5.out.1, by simpa using H5.out.2.1, H5.out.2.2.1, H5.out.2.2.2⟩
  case round =>
    obtain ⟨k, hk, rfl, hb, hown, hsrc, hap⟩ := hrel
    by_cases hlt : k < R
    · obtain ⟨p, hp⟩ : ∃ p, (Rc.races b)[k]? = some p := ⟨_, List.getElem?_eq_getElem (by rw [← HR.out]; exact hlt)⟩
      have hmem := Rc.races_mem.1 (List.mem_of_getElem? hp)
      have htk : ((Rc.races b).take (k + 1)).map (Rc.shift n) = ((Rc.races b).take k).map (Rc.shift n) ++ [(p.1 + n, p.2 + n)] := by
        rw [take_snoc_cc hp, List.map_append]
        rfl
      obtain ⟨g1, g2⟩ := Sp.prcs_get _ _ _ hp
      obtain ⟨_, _, e5, -, -, -, hcc⟩ := SlV.of_own hsrc
      injection e5 with e5 _ e6
      subst e5 e6
      obtain ⟨bR, oR, rfl, hbR, hcR'⟩ := hcc.at_ (fun e => by rw [e] at g1; simp at g1)
      have c1 := hcR' _ _ g1
      have c2 := hcR' _ _ g2
      rw [← Nat.add_assoc] at c2
      obtain ⟨i, j⟩ := p
      dsimp only at hmem c1 c2 htk
      have hjn : j + n ≤ 1048576 := by have := HN.out; omega
      have hin : i + n ≤ 1048576 := by omega
      have hlen : (Rc.races a ++ ((Rc.races b).take k).map (Rc.shift n)).length = (Rc.races a).length + k := by
        rw [List.length_append, List.length_map, List.length_take, ← HR.out]
        omega
      have HM := Lib.hid (show (Rc.races a ++ ((Rc.races b).take k).map (Rc.shift n)).length + 1 ≤ maxLen ∧ ((Rc.races a ++ ((Rc.races b).take k).map (Rc.shift n)).length + 1) * 16 ≤ 140737488355328 by
        have := HLn.out
        rw [hlen]
        unfold maxLen
        omega)
      have hbA : Below W.heap.size W (wr.alloc (.cells #[.int .i64 (i : Int), .int .i64 (j : Int)] 46)) := below_alloc hb _
      have hoA := hown.alloc (.cells #[.int .i64 (i : Int), .int .i64 (j : Int)] 46)
      have hsA := hsrc.alloc (.cells #[.int .i64 (i : Int), .int .i64 (j : Int)] 46)
      have hszA := hbA.size
      have HS5 := Lib.hid (And.intro htk hbA)
      clear hp hmem htk g1 g2 hcc hcR' hb hbA hown hsrc hlen
      go_wp2_with (first
        | (at_builtin; refine wp_push_at _ _ _ _ (by first | rfl | simp) _ _ _ _ _ _ Try.underlying38 info_pair rfl (by decide) hoA [.int .i64 ((i : Int) + (n : Int)), .int .i64 ((j : Int) + (n : Int))] rfl (by simp [Value.oneCell']) HM.out.1 HM.out.2 hszA rfl rfl rfl rfl ?_; intro v7 w7 hr7 hg7 hv7 hb7)
        | fail)
      obtain ⟨hs7, hap7⟩ := two_push hoA hsA hap hg7 hv7
      have HZ := Lib.hid (And.intro hr7 (And.intro (HS5.out.2.trans hb7) (And.intro hs7 hap7)))
      clear hr7 hg7 hv7 hb7 hoA hsA hs7 hap7 hap
      go_roundw
      case rel => exact ⟨k + 1, by omega, by go_num, HZ.out.2.1, by
        rw [HS5.out.1, ← List.append_assoc, List.length_append (bs := [_]), Sp.prcs_append _ [_]]
        simpa [Sp.prcs, Sp.prc] using HZ.out.1, HZ.out.2.2⟩
      case measure => simp [intOf]; omega
    · obtain rfl : R = k := by omega
      have htk : Rc.races a ++ ((Rc.races b).take R).map (Rc.shift n) = Rc.seqL a b := by
        rw [List.take_of_length_le (by rw [← HR.out]; exact Nat.le_refl _), HN.out.1]
        rfl
      rw [htk] at hown
      have hsl := Rc.seqL_len a b
      obtain ⟨S, hS⟩ : ∃ S, S = (Rc.seqL a b).length := ⟨_, rfl⟩
      have hSb : S ≤ 2 * (1048576 * 1048576) := by have := HLn.out; omega
      rw [← hS] at hown
      have HSS := Lib.hid hS
      have gRs := HS.out.1 wr hb
      rw [Rc.races_seq, ← hS] at gRs
      obtain ⟨A6, d6, rfl, hle6, hm6⟩ := own_slice hown
      unfold maxLen at hm6
      obtain ⟨c0, c1, c2, c3, c4⟩ := (HL.out wr hb).bs
      have HO := Lib.hid (And.intro hown hb)
      clear hsl hS hsrc hap htk hown hb
      go_wp2_with fail
      refine gRs.mono ?_
      rintro e w6 ⟨v6, rfl, hs6, hb6⟩
      have hown6 := own_keeps HO.out.1 (Keeps.of_below hb6 (fun _ => False)) (fun _ _ => id)
      have hbX6 := below_self HO.out.2 hb6
      have gE := rc_pairs _ _ (Rc.seqL a b) (Rc.seqL a b) w6 (by rw [← HSS.out]; exact hs6) (by rw [← HSS.out]; exact SlV.of_own hown6)
      obtain ⟨A7, d7, rfl, -, -, -, -⟩ := hs6
      have HO6 := Lib.hid (And.intro hown6 hbX6)
      clear gRs c0 c1 c2 c3 c4 hb6 hown6 hbX6
      go_wp2_with fail
      refine gE.mono ?_
      rintro e w7 ⟨rfl, m7, rfl⟩
      have hbX7 : Below W.heap.size W (w6.drewN m7) := below_drewN HO6.out.2 m7
      have hown7 := own_keeps HO6.out.1 (Keeps.of_below (below_drewN (Below.refl _ _) m7) (fun _ => False)) (fun _ _ => id)
      generalize w6.drewN m7 = w7 at hbX7 hown7 ⊢
      have gL7 := HA.out.1 w7 hbX7
      rw [← HN.out.1] at gL7
      obtain ⟨c0, c1, c2, c3, c4⟩ := (HL.out w7 hbX7).ba
      have HO7 := Lib.hid (And.intro hown7 hbX7)
      clear gE hown7 hbX7
      go_wp2_with fail
      refine gL7.mono ?_
      rintro e w8 ⟨v8, rfl, ho8, hb8⟩
      have hbX8 := below_self HO7.out.2 hb8
      have hown8 := own_keeps HO7.out.1 (Keeps.of_below hb8 (fun _ => False)) (fun _ _ => id)
      have hap8 : ∀ i, (Value.slice A6 S d6).ownBlock = some i → v8.ownBlock ≠ some i := fun i h1 h2 => by
        have e1 := (HO7.out.1.lt i h1).2
        have e2 := (ho8.lt i h2).1
        omega
      have ho8b := own_base ho8 HO7.out.2.size
      obtain ⟨A8, d8, rfl, hle8, hm8⟩ := own_slice ho8b
      unfold maxLen at hm8
      have H8 := Lib.hid (And.intro hbX8 (And.intro hown8 (And.intro ho8b hap8)))
      clear gL7 c0 c1 c2 c3 c4 hb8 hbX8 hown8 ho8 ho8b hap8
      go_wp2_with fail
      go_loopw [8, 62] (fun out i wr => ∃ k : Nat, k ≤ n ∧ i = .int .i64 (k : Int) ∧ Below W.heap.size W wr ∧ wr.ownsRow W.heap.size 46 2 out (Rc.seqL a b ++ Rc.crossK a b k).length (Sp.prcs (Rc.seqL a b ++ Rc.crossK a b k)) ∧ wr.ownsRow W.heap.size 23 3 (.slice A8 n d8) n (Sp.acccs a.leaves) ∧ ∀ i, out.ownBlock = some i → (Value.slice A8 n d8).ownBlock ≠ some i) (fun _ i _ => n - (intOf i).toNat)
      case atStart => exact ⟨0, Nat.zero_le _, rfl, H8.out.1, by rw [Rc.crossK_zero, List.append_nil, ← HSS.out]; exact H8.out.2.1, H8.out.2.2.1, H8.out.2.2.2⟩
      case round =>
        obtain ⟨k, hk, rfl, hb, hown, hsrc, hap⟩ := hrel
        obtain ⟨W9, hW9⟩ : ∃ W9, W9 = wr := ⟨_, rfl⟩
        subst hW9
        by_cases hlt : k < n
        · have hgi := Rc.acc_get (t := a) (n := k) (by rw [← HN.out.1]; exact hlt)
          obtain ⟨g1, g2, g3⟩ := Sp.acccs_get _ _ _ hgi
          obtain ⟨_, _, e5, -, -, -, hcc⟩ := SlV.of_own hsrc
          injection e5 with e5 _ e6
          subst e5 e6
          obtain ⟨bR, oR, rfl, hbR, hcR'⟩ := hcc.at_ (fun e => by rw [e] at g1; simp at g1)
          have c1 := hcR' _ _ g1
          have c2 := hcR' _ _ g2
          have c3 := hcR' _ _ g3
          rw [← Nat.add_assoc] at c2 c3
          obtain ⟨⟨ci, wi, li⟩, hei⟩ : ∃ x, x = Rc.acc a k := ⟨_, rfl⟩
          rw [← hei] at c1 c2 c3
          dsimp only at c1 c2 c3
          have hB1 : Blk (W9.alloc (.cells #[.int .i64 ci, .bool wi, .int .i64 li] 23)) W9.heap.size 23 [.int .i64 ci, .bool wi, .int .i64 li] := Blk.new _ _ _
          have hbA : Below W.heap.size W (W9.alloc (.cells #[.int .i64 ci, .bool wi, .int .i64 li] 23)) := below_alloc hb _
          have hoA := hown.alloc (.cells #[.int .i64 ci, .bool wi, .int .i64 li] 23)
          have hsA := hsrc.alloc (.cells #[.int .i64 ci, .bool wi, .int .i64 li] 23)
          have hob := fun i h => (hown.lt i h).2
          have gLb := HB.out.1 _ hbA
          rw [← HN.out.2] at gLb
          obtain ⟨k0, k1, k2, k3, k4⟩ := (HL.out _ hb).bb
          have HE := Lib.hid (And.intro hei (And.intro hB1 (And.intro hbA (And.intro hoA (And.intro hsA (And.intro hap hob))))))
          have hqq : q + 1 < W9.heap.size := World.block_lt_of_cell? W9 _ k0
          clear hgi g1 g2 g3 hcc hcR' hei hB1 hbA hoA hsA hap hob hown hsrc hb
          go_wp2_with fail
          refine gLb.mono ?_
          rintro e w10 ⟨v10, rfl, ho10, hb10⟩
          obtain ⟨hei, hB1, hbA, hoA, hsA, hap, hob⟩ := HE.out
          have hbX10 := below_self hbA hb10
          have hown10 := own_keeps hoA (Keeps.of_below hb10 (fun _ => False)) (fun _ _ => id)
          have hsrc10 := own_keeps hsA (Keeps.of_below hb10 (fun _ => False)) (fun _ _ => id)
          have hB10 := hB1.below hb10
          have hap10 : ∀ i, u8.ownBlock = some i → v10.ownBlock ≠ some i := fun i h1 h2 => by
            have e1 := hob i h1
            have e2 := (ho10.lt i h2).1
            simp at e2
            omega
          have ho10b := own_base ho10 hbA.size
          obtain ⟨A10, d10, rfl, hle10, hm10⟩ := own_slice ho10b
          unfold maxLen at hm10
          have hK0 : Rc.seqL a b ++ (Rc.crossK a b k ++ Rc.crossR a b k 0) = Rc.seqL a b ++ Rc.crossK a b k := by rw [Rc.crossR_zero, List.append_nil]
          have H10 := Lib.hid (And.intro hbX10 (And.intro (show w10.ownsRow W.heap.size 46 2 u8 (Rc.seqL a b ++ (Rc.crossK a b k ++ Rc.crossR a b k 0)).length (Sp.prcs (Rc.seqL a b ++ (Rc.crossK a b k ++ Rc.crossR a b k 0))) by rw [hK0]; exact hown10) (And.intro hsrc10 (And.intro ho10b (And.intro hap (And.intro hap10 hB10))))))
          have HEI := Lib.hid hei
          clear gLb HE hei hB1 hbA hoA hsA hap hob hbX10 hown10 hsrc10 hB10 hap10 ho10 ho10b hb10 k0 k1 k2 k3 k4 c1 c2 c3 hK0
          go_wp2_with fail
          go_loopw [8, 70] (fun out i wr => ∃ j : Nat, j ≤ m ∧ i = .int .i64 (j : Int) ∧ Below W.heap.size W wr ∧ wr.ownsRow W.heap.size 46 2 out (Rc.seqL a b ++ (Rc.crossK a b k ++ Rc.crossR a b k j)).length (Sp.prcs (Rc.seqL a b ++ (Rc.crossK a b k ++ Rc.crossR a b k j))) ∧ wr.ownsRow W.heap.size 23 3 (.slice (some ⟨bR, oR, none⟩) n d8) n (Sp.acccs a.leaves) ∧ wr.ownsRow W.heap.size 23 3 (.slice A10 m d10) m (Sp.acccs b.leaves) ∧ (∀ i, out.ownBlock = some i → (Value.slice (some ⟨bR, oR, none⟩) n d8).ownBlock ≠ some i) ∧ (∀ i, out.ownBlock = some i → (Value.slice A10 m d10).ownBlock ≠ some i) ∧ Blk wr W9.heap.size 23 [.int .i64 ci, .bool wi, .int .i64 li]) (fun _ i _ => m - (intOf i).toNat)
          case atStart => exact ⟨0, Nat.zero_le _, rfl, H10.out⟩
          case round =>
            clear H10
            obtain ⟨j, hj, rfl, hb, hown, hla, hlb, hap1, hap2, hBk⟩ := hrel
            by_cases hjm : j < m
            · have hgj := Rc.acc_get (t := b) (n := j) (by rw [← HN.out.2]; exact hjm)
              obtain ⟨g1, g2, g3⟩ := Sp.acccs_get _ _ _ hgj
              obtain ⟨_, _, e5, -, -, -, hcc⟩ := SlV.of_own hlb
              injection e5 with e5 _ e6
              subst e5 e6
              obtain ⟨bS, oS, rfl, hbS, hcS'⟩ := hcc.at_ (fun e => by rw [e] at g1; simp at g1)
              have c1 := hcS' _ _ g1
              have c2 := hcS' _ _ g2
              have c3 := hcS' _ _ g3
              rw [← Nat.add_assoc] at c2 c3
              obtain ⟨⟨cj, wj, lj⟩, hej⟩ : ∃ x, x = Rc.acc b j := ⟨_, rfl⟩
              rw [← hej] at c1 c2 c3
              dsimp only at c1 c2 c3
              have hec : Rc.clash2 a b k j = (ci == cj && (wi || wj)) := by
                unfold Rc.clash2
                rw [← HEI.out, ← hej]
              have hsu : Rc.crossR a b k (j + 1) = Rc.crossR a b k j ++ (if Rc.clash2 a b k j then [(k, j + n)] else []) := by
                rw [Rc.crossR_succ, HN.out.1]
              have f0 : wr.cell? ⟨W9.heap.size, 0, none⟩ = some (.int .i64 ci) := by rw [hBk.cell]; rfl
              have f1 : wr.cell? ⟨W9.heap.size, 1, none⟩ = some (.bool wi) := by rw [hBk.cell]; rfl
              have hql := hBk.lt
              have hjn : j + n ≤ 1048576 := by omega
              have HM := Lib.hid (show (Rc.seqL a b ++ (Rc.crossK a b k ++ Rc.crossR a b k j)).length + 1 ≤ maxLen ∧ ((Rc.seqL a b ++ (Rc.crossK a b k ++ Rc.crossR a b k j)).length + 1) * 16 ≤ 140737488355328 by
                have e1 := Rc.crossK_len a b k
                have e2 := Rc.crossR_len a b k j
                have e3 : k * b.size ≤ 1048576 * 1048576 := Nat.mul_le_mul (by omega) (by omega)
                rw [List.length_append, List.length_append, ← HSS.out]
                unfold maxLen
                omega)
              have hbB : Below W.heap.size W (wr.alloc (.cells #[.int .i64 cj, .bool wj, .int .i64 lj] 23)) := below_alloc hb _
              have hoB := hown.alloc (.cells #[.int .i64 cj, .bool wj, .int .i64 lj] 23)
              have hlaB := hla.alloc (.cells #[.int .i64 cj, .bool wj, .int .i64 lj] 23)
              have hlbB := hlb.alloc (.cells #[.int .i64 cj, .bool wj, .int .i64 lj] 23)
              have hB2 := hBk.alloc (.cells #[.int .i64 cj, .bool wj, .int .i64 lj] 23)
              rcases hc : ci == cj with _ | _
              · have hcf : Rc.clash2 a b k j = false := by rw [hec, hc]; rfl
                have HF := Lib.hid (And.intro (And.intro hsu hcf) (And.intro hbB (And.intro hoB (And.intro hlaB (And.intro hlbB (And.intro hap1 (And.intro hap2 hB2)))))))
                clear hcf hgj g1 g2 g3 hcc hcS' hej hec hsu hb hown hla hlb hBk hbB hoB hlaB hlbB hap1 hap2 hB2
                go_wp2_with fail
                go_roundw
                case rel => exact ⟨j + 1, by omega, by go_num, HF.out.2.1, by rw [HF.out.1.1, HF.out.1.2]; simpa using HF.out.2.2.1, HF.out.2.2.2⟩
                case measure => simp [intOf]; omega
              have HF := Lib.hid (And.intro hsu (And.intro hbB (And.intro hoB (And.intro hlaB (And.intro hlbB (And.intro hap1 (And.intro hap2 hB2)))))))
              rw [hc] at hec
              clear hgj g1 g2 g3 hcc hcS' hej hsu hb hown hla hlb hBk hbB hoB hlaB hlbB hap1 hap2 hB2
              rcases wi with _ | _
              · rcases wj with _ | _
                · have hcf : Rc.clash2 a b k j = false := by rw [hec]; rfl
                  have HF3 := Lib.hid (And.intro (And.intro HF.out.1 hcf) HF.out.2)
                  clear HF hec hcf
                  have HF := HF3
                  go_wp2_with fail
                  go_roundw
                  case rel => exact ⟨j + 1, by omega, by go_num, HF.out.2.1, by rw [HF.out.1.1, HF.out.1.2]; simpa using HF.out.2.2.1, HF.out.2.2.2⟩
                  case measure => simp [intOf]; omega
                · have hcl : Rc.clash2 a b k j = true := by rw [hec]; simp
                  have HF2 := Lib.hid (And.intro hcl HF.out)
                  clear HF hec hcl
                  obtain ⟨-, hsu, hbB, hoB, hlaB, hlbB, hap1, hap2, hB2⟩ := HF2.out
                  have hszB := hbB.size
                  have hneB := own_blk_ne hoB hB2 (by decide)
                  clear hbB hsu
                  go_wp2_with (first
                    | (at_builtin; refine wp_push_at _ _ _ _ (by first | rfl | simp) _ _ _ _ _ _ Try.underlying38 info_pair rfl (by decide) hoB [.int .i64 (k : Int), .int .i64 ((j : Int) + (n : Int))] rfl (by simp [Value.oneCell']) HM.out.1 HM.out.2 hszB rfl rfl rfl rfl ?_; intro v7 w7' hr7 hg7 hv7 hb7)
                    | fail)
                  obtain ⟨hs7, hap7⟩ := two_push hoB hlaB hap1 hg7 hv7
                  obtain ⟨hs8, hap8⟩ := two_push hoB hlbB hap2 hg7 hv7
                  have hB7 := hB2.grown hg7 (fun e => hneB e.symm)
                  have HZ := Lib.hid (And.intro hr7 (And.intro (HF2.out.2.2.1.trans hb7) (And.intro hs7 (And.intro hs8 (And.intro hap7 (And.intro hap8 hB7))))))
                  clear hr7 hg7 hv7 hb7 hoB hlaB hlbB hs7 hs8 hap7 hap8 hB7 hap1 hap2 hB2 hneB
                  go_roundw
                  case rel => exact ⟨j + 1, by omega, by go_num, HZ.out.2.1, by
                    rw [HF2.out.2.1, HF2.out.1, if_pos rfl, ← List.append_assoc, ← List.append_assoc, List.length_append (bs := [_]), Sp.prcs_append _ [_], List.append_assoc (Rc.seqL a b)]
                    simpa [Sp.prcs, Sp.prc] using HZ.out.1, HZ.out.2.2⟩
                  case measure => simp [intOf]; omega
              · have hcl : Rc.clash2 a b k j = true := by rw [hec]; simp
                have HF2 := Lib.hid (And.intro hcl HF.out)
                clear HF hec hcl
                obtain ⟨-, hsu, hbB, hoB, hlaB, hlbB, hap1, hap2, hB2⟩ := HF2.out
                have hszB := hbB.size
                have hneB := own_blk_ne hoB hB2 (by decide)
                clear hbB hsu
                go_wp2_with (first
                  | (at_builtin; refine wp_push_at _ _ _ _ (by first | rfl | simp) _ _ _ _ _ _ Try.underlying38 info_pair rfl (by decide) hoB [.int .i64 (k : Int), .int .i64 ((j : Int) + (n : Int))] rfl (by simp [Value.oneCell']) HM.out.1 HM.out.2 hszB rfl rfl rfl rfl ?_; intro v7 w7' hr7 hg7 hv7 hb7)
                  | fail)
                obtain ⟨hs7, hap7⟩ := two_push hoB hlaB hap1 hg7 hv7
                obtain ⟨hs8, hap8⟩ := two_push hoB hlbB hap2 hg7 hv7
                have hB7 := hB2.grown hg7 (fun e => hneB e.symm)
                have HZ := Lib.hid (And.intro hr7 (And.intro (HF2.out.2.2.1.trans hb7) (And.intro hs7 (And.intro hs8 (And.intro hap7 (And.intro hap8 hB7))))))
                clear hr7 hg7 hv7 hb7 hoB hlaB hlbB hs7 hs8 hap7 hap8 hB7 hap1 hap2 hB2 hneB
                go_roundw
                case rel => exact ⟨j + 1, by omega, by go_num, HZ.out.2.1, by
                  rw [HF2.out.2.1, HF2.out.1, if_pos rfl, ← List.append_assoc, ← List.append_assoc, List.length_append (bs := [_]), Sp.prcs_append _ [_], List.append_assoc (Rc.seqL a b)]
                  simpa [Sp.prcs, Sp.prc] using HZ.out.1, HZ.out.2.2⟩
                case measure => simp [intOf]; omega
            · obtain rfl : m = j := by omega
              have HZ := Lib.hid (And.intro hb (And.intro hown (And.intro hla hap1)))
              clear hb hown hla hlb hap1 hap2 hBk
              go_wp2_with fail
              go_roundw
              case rel => exact ⟨k + 1, by omega, by go_num, HZ.out.1, by rw [Rc.crossK_succ, ← HN.out.2]; exact HZ.out.2.1, HZ.out.2.2⟩
              case measure => simp [intOf]; omega
        · obtain rfl : n = k := by omega
          have htk : Rc.seqL a b ++ Rc.crossK a b n = Rc.parL a b := by
            rw [HN.out.1]
            rfl
          rw [htk] at hown
          have hpl := Rc.parL_len a b
          obtain ⟨T, hT⟩ : ∃ T, T = (Rc.parL a b).length := ⟨_, rfl⟩
          rw [← hT] at hown hpl
          have HT := Lib.hid hT
          have gRp := HS.out.2 W9 hb
          rw [← hpl] at gRp
          have hs9 := SlV.of_own hown
          obtain ⟨A9, d9, rfl, hle9, hm9⟩ := own_slice hown
          unfold maxLen at hm9
          obtain ⟨c0, c1, c2, c3, c4⟩ := (HL.out W9 hb).bp
          have HO9 := Lib.hid (And.intro hs9 hb)
          clear hT hpl hown hsrc hap htk hb hs9
          go_wp2_with fail
          refine gRp.mono ?_
          rintro e w11 ⟨v11, rfl, hs11, hb11⟩
          have hbX11 := below_self HO9.out.2 hb11
          have hs9' := HO9.out.1.below hb11
          have gCo : ∀ (w' : World) (x : Nat × Nat), Below w11.heap.size w11 w' → x ∈ Rc.parL a b → Calls Try.prog 21 #[v11, .agg #[.int .i64 (x.1 : Int), .int .i64 (x.2 : Int)]] w' fun e w'' => e = .returned (.bool true) ∧ Below w'.heap.size w' w'' := fun w' x hb' hx =>
            contains_pair v11 (Rc.races (.two true a b)) x.1 x.2 w' (by rw [← Rc.parL_len, ← HT.out]; exact hs11.below hb') (Rc.parL_mem.1 hx)
          obtain ⟨A11, d11, rfl, hle11, hm11, -, -⟩ := hs11
          unfold maxLen at hm11
          have hbF := below_self HW.out hbX11
          have HC := Lib.hid gCo
          clear gRp c0 c1 c2 c3 c4 hb11 hbX11 gCo
          go_wp2_with fail
          go_loopw [107] (fun i wr => ∃ k : Nat, k ≤ T ∧ i = .int .i64 (k : Int) ∧ Below w11.heap.size w11 wr) (fun i _ => T - (intOf i).toNat)
          case atStart => exact ⟨0, Nat.zero_le _, rfl, Below.refl _ _⟩
          case round =>
            obtain ⟨k, hk, rfl, hb⟩ := hrel
            by_cases hkT : k < T
            · obtain ⟨p, hp⟩ : ∃ p, (Rc.parL a b)[k]? = some p := ⟨_, List.getElem?_eq_getElem (by rw [← HT.out]; exact hkT)⟩
              obtain ⟨g1, g2⟩ := Sp.prcs_get _ _ _ hp
              obtain ⟨_, _, e5, -, -, -, hcc⟩ := hs9'.below hb
              injection e5 with e5 _ e6
              subst e5 e6
              obtain ⟨bR, oR, rfl, hbR, hcR'⟩ := hcc.at_ (fun e => by rw [e] at g1; simp at g1)
              have c1 := hcR' _ _ g1
              have c2 := hcR' _ _ g2
              rw [← Nat.add_assoc] at c2
              have hbA : Below w11.heap.size w11 (wr.alloc (.cells #[.int .i64 (p.1 : Int), .int .i64 (p.2 : Int)] 46)) := below_alloc hb _
              have gC := HC.out _ p hbA (List.mem_of_getElem? hp)
              have HBA := Lib.hid hbA
              clear hp g1 g2 hcc hcR' hb hbA
              go_wp2_with fail
              refine gC.mono ?_
              rintro e w12 ⟨rfl, hb12⟩
              have hbZ := below_self HBA.out hb12
              clear gC hb12 c1 c2
              go_wp2_with fail
              go_roundw
              case rel => exact ⟨k + 1, by omega, by go_num, hbZ⟩
              case measure => simp [intOf]; omega
            · have hbG := below_self hbF hb
              clear hs9' hb hbF
              go_wp2_with fail
              go_ret
              exact ⟨rfl, hbG⟩
end Go.Proofs.Ytcoijmnnnfogdaa
