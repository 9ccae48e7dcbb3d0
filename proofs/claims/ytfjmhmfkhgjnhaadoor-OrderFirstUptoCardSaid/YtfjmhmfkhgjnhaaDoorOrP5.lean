/-
  Nodes reached from those that are paired with nobody behind them: the visit, in plain Lean. No program is named here.
-/
import Derived.Test.YtfjmhmfkhgjnhaaDoorOrP4
import Derived.Test.YtfjmhmfkhgjnhaaDoorOrP2
import Derived.Test.YtfjmhmfkhgjnhaaDoorOrP1
import Derived.Test.YtfjmhmfkhgjnhaaDoorShelf
import Derived.Lib.Hide
import Derived.OrdersIn
import Derived.CallsIn
import Derived.RangeFuncCalls
import Derived.TacticsIn
import Derived.Test.YtfjmhmfkhgjnhaaDoorOrP3

namespace Go.Proofs.YtfjmhmfkhgjnhaaDoor
set_option linter.unusedVariables false
set_option linter.unusedSimpArgs false
set_option maxRecDepth 100000
open Go.RowKit

set_option maxHeartbeats 4000000 in
theorem levels_any (n : Int) (es : List Gr.Er) (w : World) (A : Option Addr) (c : Nat) (hA : SlV w 2 (.slice A es.length c) es.length (ercs es)) (hle : es.length ≤ 1099511627776) (hT : Tab w) :
    Calls Tryd.prog 10 #[.agg #[.int .i64 n, .slice A es.length c]] w fun e w' => ∃ v L, e = .returned (.tuple #[v, .int .i64 (Gr.wrong n es)]) ∧ w'.ownsRow w.heap.size 3 1 v L.length (ilist L) ∧ (Gr.wrong n es ≠ 0 → L = []) ∧ (Gr.wrong n es = 0 → Gr.LvL n.toNat (Gr.nat es) L ∧ (∀ m, Gr.lget L m ≤ n.toNat)) ∧ Below w.heap.size w w' := by
  have hTb : ∀ w', Below w.heap.size w w' → Tab w' := fun w' hb j hj => (hb.cell (p := ⟨0, j, none⟩) hT.lt).trans (hT j hj)
  have hs : ∀ w', Below w.heap.size w w' → Calls Tryd.prog 25 #[.agg #[.int .i64 n, .slice A es.length c]] w' fun e w'' => ∃ v, e = .returned (.tuple #[v, .int .i64 (Gr.wrong n es)]) ∧ (Gr.wrong n es ≠ 0 → v = .slice none 0 0) ∧ (Gr.wrong n es = 0 → w''.ownsRow w'.heap.size 3 1 v (Gr.take n.toNat (Gr.nat es)).length (ilist (Gr.take n.toNat (Gr.nat es)))) ∧ Below w'.heap.size w' w'' := fun w' hb => sort_any n es w' A c (hA.below hb) hle (hTb w' hb)
  by_cases h0 : Gr.wrong n es = 0
  · obtain ⟨N, rfl, hN, hes, hln, hcs, hful⟩ := Gr.wrong_none h0
    have := levels_yes N (Gr.nat es) w A c hN hes hful (by rw [hln, ← hcs]; exact hA) (by omega) (fun w' hb => by
      rw [hln]
      refine (hs w' hb).mono ?_
      rintro e w'' ⟨v, he, -, hr, hb'⟩
      have hr := hr h0
      rw [Int.toNat_natCast, hful] at hr
      exact ⟨v, by rw [← h0]; exact he, hr, hb'⟩)
    rw [hln] at this
    refine this.mono ?_
    rintro e w' ⟨v, L, he, hr, hL, ht, hb⟩
    exact ⟨v, L, by rw [h0]; exact he, by rw [hL.len]; exact hr, fun h => absurd h0 h, fun _ => ⟨by rw [Int.toNat_natCast]; exact hL, by rw [Int.toNat_natCast]; exact ht⟩, hb⟩
  · have x0 := Blk.new w 24 [.int .i64 n, .slice A es.length c]
    have hb0 : Below w.heap.size w (w.alloc (.cells #[.int .i64 n, .slice A es.length c] 24)) := below_alloc (Below.refl _ _) _
    have hs0 := hs _ hb0
    obtain ⟨R, hR⟩ : ∃ R, R = Gr.wrong n es := ⟨_, rfl⟩
    rw [← hR] at hs0 h0 ⊢
    have g0 : (R != 0) = true := by simpa using h0
    have H0 := Lib.hid h0
    clear hR hA hTb hT hs h0
    go_enter Tryd.func10, Tryd.ntmps10
    go_upto_region 1 with (fail)
    generalize (w.alloc (.cells #[.int .i64 n, .slice A es.length c] 24)) = W0 at x0 hb0 hs0 ⊢
    have d0 : W0.cell? ⟨w.heap.size, 0, none⟩ = some (.int .i64 n) := (x0.cell 0).trans rfl
    have d1 : W0.cell? ⟨w.heap.size, 1, none⟩ = some (.slice A es.length c) := (x0.cell 1).trans rfl
    have HB := Lib.hid hb0
    clear hb0 x0
    go_wp2_with fail
    refine hs0.mono ?_
    rintro e w1 ⟨v, rfl, -, -, hb1⟩
    have HF := Lib.hid (below_next hb1 HB.out)
    clear hs0 hb1 d0 d1
    go_wp2_with fail
    go_ret2
    exact ⟨_, [], rfl, World.ownsRow_nil _ _ _ _, fun _ => rfl, fun h => absurd h H0.out, HF.out⟩

theorem max_any (v : Value) (L : List Nat) (w : World) (h : SlN w v L) (hne : L ≠ []) (hb : ∀ m, Gr.lget L m ≤ 1000000) :
    Calls Tryd.prog 33 #[v] w fun e w' => e = .returned (.int .i64 ((L.foldl max 0 : Nat) : Int)) ∧ w' = w := by
  obtain ⟨A, c, rfl, hle, hm⟩ := h.form
  unfold maxLen at hm
  have hpos : 0 < L.length := List.length_pos_iff.2 hne
  obtain ⟨g, o, rfl, hgl, c0⟩ := h.get (Gr.lget_some hpos)
  have hc : ∀ j, j < L.length → w.cell? ⟨g, o + j, none⟩ = some (.int .i64 (Gr.lget L j : Int)) := fun j hj => by
    obtain ⟨g', o', e, -, hcj⟩ := h.get (Gr.lget_some hj)
    injection e with e
    injection e with e1 e2
    subst e1 e2
    exact hcj
  obtain ⟨x, hx⟩ : ∃ x, x = Gr.lget L 0 := ⟨_, rfl⟩
  rw [← hx, Nat.add_zero] at c0
  have hx1 : (L.take 1).foldl max 0 = x := by
    rw [hx]
    rcases L with _ | ⟨y, L⟩
    · exact absurd rfl hne
    · simp [Gr.lget]
  have hxb : x ≤ 1000000 := by rw [hx]; exact hb 0
  have HC := Lib.hid (And.intro hc (And.intro hb hx1))
  clear h hne hc hb hx hx1
  go_enter Tryd.func33, Tryd.ntmps33
  go_wp2_with fail
  clear c0
  go_loopw [4, 3] (fun i m wr => ∃ (k : Nat) (y : Nat), 1 ≤ k ∧ k ≤ L.length ∧ i = .int .i64 (k : Int) ∧ m = .int .i64 (y : Int) ∧ y = (L.take k).foldl max 0 ∧ y ≤ 1000000 ∧ wr = w) (fun i _ _ => L.length - (intOf i).toNat)
  case atStart => exact ⟨1, x, Nat.le_refl _, hpos, rfl, rfl, HC.out.2.2.symm, hxb, rfl⟩
  case round =>
    obtain ⟨k, y, hk1, hk, rfl, rfl, hy, hyb, hwr⟩ := hrel
    obtain rfl : w = wr := hwr.symm
    by_cases hlt : k < L.length
    · have c1 := HC.out.1 k hlt
      have hzb := HC.out.2.1 k
      obtain ⟨z, hz⟩ : ∃ z, z = Gr.lget L k := ⟨_, rfl⟩
      rw [← hz] at c1 hzb
      have hst : max y z = (L.take (k + 1)).foldl max 0 := by rw [Gr.take_snoc (Gr.lget_some hlt), List.foldl_append, ← hy, ← hz]; rfl
      have HF := Lib.hid hst
      clear hst hy hz
      go_wp2_with fail
      go_roundw
      case rel => exact ⟨k + 1, max y z, by omega, by omega, by go_num, congrArg (Value.int .i64) (by omega), HF.out, by omega, by first | trivial | rfl⟩
      case measure => simp [intOf]; omega
    · obtain rfl : k = L.length := by omega
      rw [List.take_length] at hy
      have HF := Lib.hid hy
      clear hy
      go_wp2_with fail
      go_ret
      exact ⟨by rw [← HF.out]; rfl, rfl⟩

theorem hgt_le {L : List Nat} {N : Nat} (hl : L.length ≤ N) (h : ∀ m, Gr.lget L m ≤ N) : Gr.hgt L ≤ N + 1 := by
  unfold Gr.hgt
  split
  · omega
  · obtain ⟨-, -, h3⟩ := Gr.foldl_max L 0
    rcases h3 with h3 | h3
    · omega
    · obtain ⟨i, hi⟩ := List.getElem?_of_mem h3
      rw [Gr.lget_some (List.getElem?_eq_some_iff.1 hi).1] at hi
      injection hi with hi
      have := h i
      omega

set_option maxHeartbeats 4000000 in
theorem height_any (n : Int) (es : List Gr.Er) (w : World) (A : Option Addr) (c : Nat) (hA : SlV w 2 (.slice A es.length c) es.length (ercs es)) (hle : es.length ≤ 1099511627776) (hT : Tab w) :
    Calls Tryd.prog 12 #[.agg #[.int .i64 n, .slice A es.length c]] w fun e w' => ∃ h : Nat, e = .returned (.tuple #[.int .i64 (h : Int), .int .i64 (Gr.wrong n es)]) ∧ (Gr.wrong n es ≠ 0 → h = 0) ∧ (Gr.wrong n es = 0 → ∃ L, Gr.LvL n.toNat (Gr.nat es) L ∧ h = Gr.hgt L) ∧ h ≤ 201 ∧ Below w.heap.size w w' := by
  have hTb : ∀ w', Below w.heap.size w w' → Tab w' := fun w' hb j hj => (hb.cell (p := ⟨0, j, none⟩) hT.lt).trans (hT j hj)
  have x0 := Blk.new w 24 [.int .i64 n, .slice A es.length c]
  have hb0 : Below w.heap.size w (w.alloc (.cells #[.int .i64 n, .slice A es.length c] 24)) := below_alloc (Below.refl _ _) _
  have hs0 := levels_any n es _ A c (hA.below hb0) hle (hTb _ hb0)
  have hnN : Gr.wrong n es = 0 → n.toNat ≤ 200 := fun h => by
    obtain ⟨N, rfl, hN, -⟩ := Gr.wrong_none h
    rw [Int.toNat_natCast]
    exact hN
  obtain ⟨R, hR⟩ : ∃ R, R = Gr.wrong n es := ⟨_, rfl⟩
  rw [← hR] at hs0 hnN ⊢
  clear hR hA hTb hT
  go_enter Tryd.func12, Tryd.ntmps12
  go_upto_region 1 with (fail)
  generalize (w.alloc (.cells #[.int .i64 n, .slice A es.length c] 24)) = W0 at x0 hb0 hs0 ⊢
  have d0 : W0.cell? ⟨w.heap.size, 0, none⟩ = some (.int .i64 n) := (x0.cell 0).trans rfl
  have d1 : W0.cell? ⟨w.heap.size, 1, none⟩ = some (.slice A es.length c) := (x0.cell 1).trans rfl
  have HB := Lib.hid hb0
  clear hb0 x0
  go_wp2_with fail
  refine hs0.mono ?_
  rintro e w1 ⟨v, L, rfl, hr, h1, h2, hb1⟩
  have HF := Lib.hid (below_next hb1 HB.out)
  clear hs0 hb1 d0 d1
  obtain ⟨Av, cv, rfl, -, -⟩ := own_slice hr
  by_cases h0 : R = 0
  · subst h0
    obtain ⟨hL, htop⟩ := h2 rfl
    have hnN := hnN rfl
    have hll : L.length ≤ 200 := by rw [hL.len]; exact hnN
    by_cases hne : L = []
    · have hz : L.length = 0 := by rw [hne]; rfl
      have hh : Gr.hgt L = 0 := by unfold Gr.hgt; rw [if_pos hne]
      have HL := Lib.hid (And.intro hL hh)
      clear h1 h2 hL htop hr hne hh
      go_wp2_with fail
      go_ret2
      exact ⟨0, rfl, ⟨L, HL.out.1, HL.out.2.symm⟩, by omega, HF.out⟩
    · have hz : ((L.length : Int) == 0) = false := by
        have := List.length_pos_iff.2 hne
        simp
        omega
      have hmx := max_any _ L w1 (SlN.of_own hr) hne (fun m => Nat.le_trans (htop m) (by omega))
      have hle2 := hgt_le (L := L) (N := 200) hll (fun m => Nat.le_trans (htop m) hnN)
      have hh : Gr.hgt L = L.foldl max 0 + 1 := by unfold Gr.hgt; rw [if_neg hne]
      obtain ⟨M, hM⟩ : ∃ M, M = L.foldl max 0 := ⟨_, rfl⟩
      rw [← hM] at hmx hh
      rw [hh] at hle2
      have HL := Lib.hid (And.intro hL hh)
      clear h1 h2 hL htop hr hne hh hM
      go_wp2_with fail
      refine hmx.mono ?_
      rintro _ w2 ⟨rfl, rfl⟩
      clear hmx
      go_wp2_with fail
      go_ret2
      exact ⟨M + 1, by go_num, ⟨L, HL.out.1, HL.out.2.symm⟩, hle2, HF.out⟩
  · have g0 : (R != 0) = true := by simpa using h0
    have H0 := Lib.hid h0
    clear h1 h2 h0 hr
    go_wp2_with fail
    go_ret2
    exact ⟨0, rfl, fun _ => rfl, fun h => absurd h H0.out, by omega, HF.out⟩
end Go.Proofs.YtfjmhmfkhgjnhaaDoor


namespace Go.Proofs.YtfjmhmfkhgjnhaaDoor
set_option linter.unusedVariables false
set_option linter.unusedSimpArgs false
set_option maxRecDepth 100000
open Go.RowKit

theorem shr_bit {x r : Nat} (hx : x < 18446744073709551616) : (bits .and .u64 ((x : Int) / 2 ^ r) 1 == 1) = x.testBit r := by
  have h1 : (x : Int) / 2 ^ r = ((x / 2 ^ r : Nat) : Int) := by simp
  have h2 : x / 2 ^ r ≤ x := Nat.div_le_self _ _
  have h3 := bits_and_u64_nat (x / 2 ^ r) 1 (by omega) (by decide)
  rw [h1, show (1 : Int) = ((1 : Nat) : Int) from rfl, h3, Nat.and_one_is_mod, Nat.testBit_eq_decide_div_mod_eq]
  rcases Nat.mod_two_eq_zero_or_one (x / 2 ^ r) with h | h <;> rw [h] <;> rfl

theorem set_has (w : World) (v : Value) (s : List Nat) (n : Nat) (h : SlU w v s) (hn : n ≤ 65535) :
    Calls Tryd.prog 47 #[v, .int .i64 (n : Int)] w fun e w' => e = .returned (.bool (Bs.bit s n)) ∧ w' = w := by
  obtain ⟨⟨A, c, rfl, hle, hm, hlen, hc⟩, hw⟩ := h
  clear hlen
  unfold maxLen at hm
  have hiN : IntKind.i64.wrap ((n : Int) / 64) = ((n / 64 : Nat) : Int) := by rw [wrap_is]; unfold wrap64; omega
  have hrN : (n : Int).tmod 64 = ((n % 64 : Nat) : Int) := by rw [Int.tmod_eq_emod_of_nonneg (by omega)]; omega
  obtain ⟨i, hi⟩ : ∃ i, i = n / 64 := ⟨_, rfl⟩
  obtain ⟨r, hr⟩ : ∃ r, r = n % 64 := ⟨_, rfl⟩
  have hr64 : r < 64 := by omega
  rw [← hi] at hiN
  rw [← hr] at hrN
  unfold Bs.bit
  rw [← hi, ← hr]
  have HI := Lib.hid (And.intro hi hr)
  clear hi hr
  by_cases hlt : i < s.length
  · obtain ⟨x, hx⟩ : ∃ x, s[i]? = some x := ⟨_, List.getElem?_eq_getElem hlt⟩
    obtain ⟨b, o, rfl, hb, hcc⟩ := hc.nat hx
    have hx64 := hw x (List.mem_of_getElem? hx)
    have hat : Bs.at_ s i = x := by unfold Bs.at_; rw [List.getD_eq_getElem?_getD, hx, Option.getD_some]
    rw [hat]
    have hT := shr_bit (x := x) (r := r) hx64
    have HC := Lib.hid hc
    obtain ⟨b', hb'⟩ : ∃ b', b' = x.testBit r := ⟨_, rfl⟩
    rw [← hb'] at hT ⊢
    have g1 : decide ((i : Int) < (s.length : Int)) = true := by simp; omega
    clear hat hx hc hw hb'
    go_enter Tryd.func47, Tryd.ntmps47
    go_wp2
    go_ret
    exact ⟨rfl, rfl⟩
  · have g1 : decide ((i : Int) < (s.length : Int)) = false := by simp; omega
    have hat : Bs.at_ s i = 0 := by unfold Bs.at_; rw [List.getD_eq_getElem?_getD, List.getElem?_eq_none (by omega)]; rfl
    rw [hat, Nat.zero_testBit]
    clear hat hc hw
    go_enter Tryd.func47, Tryd.ntmps47
    go_wp2
    go_ret
    exact ⟨rfl, rfl⟩

/-- k of them are there -/
def half (N k : Nat) : List Value := List.replicate k (.int .i64 (-1)) ++ List.replicate (N - k) (.int .i64 0)
theorem info_int_mt : (Tryd.prog.info? 3).map (fun i => (i.zero, i.size, i.bytes)) = some (some (.int .i64 0), 1, 8) := by kernel_rfl
theorem half_len (N k : Nat) (h : k ≤ N) : (half N k).length = N := by simp [half]; omega
theorem half_put (N k m : Nat) (h : k + m ≤ N) : splice (half N k) k (List.replicate m (Value.int .i64 (-1))) = half N (k + m) := by
  unfold splice half
  rw [List.take_left' (by simp), List.length_replicate, List.drop_append, List.drop_eq_nil_of_le (by simp), List.nil_append, List.length_replicate, List.drop_replicate, show N - k - (k + m - k) = N - (k + m) by omega, ← List.append_assoc, List.replicate_append_replicate]

set_option maxHeartbeats 1000000 in
theorem repeat_neg (w : World) (v : Value) (N : Nat) (h : SlV w 1 v 1 [.int .i64 (-1)]) (hN : N ≤ 65535) :
    Calls Tryd.prog 63 #[v, .int .i64 (N : Int)] w fun e w' => ∃ g, e = .returned (.slice (some ⟨g, 0, none⟩) N N) ∧ Blk w' g 3 (ints .i64 (List.replicate N (-1))) ∧ w.heap.size ≤ g ∧ Below w.heap.size w w' := by
  obtain ⟨A, c, rfl, hle, hm, hlen, hc⟩ := h
  obtain ⟨b0, o0, rfl, hb0, hcc⟩ := hc.at_ (by simp)
  have c0 := hcc 0 _ rfl
  clear hcc hc hlen
  unfold maxLen at hm
  have hconv : IntKind.u64.wrap (N : Int) = (N : Int) := by rw [IntKind.wrap_u64]; omega
  have hconv2 : IntKind.i64.wrap (N : Int) = (N : Int) := by rw [wrap_is]; unfold wrap64; omega
  have hd0 : (1 * N / 18446744073709551616 : Nat) = 0 := by omega
  have hd1 : (1 * N % 18446744073709551616 : Nat) = N := by omega
  have hg0 : decide ((N : Int) < 0) = false := by simp
  have hg1 : decide ((9223372036854775807 : Int) < (N : Int)) = false := by simp; omega
  go_enter Tryd.func63, Tryd.ntmps63
  go_wp2_with fail
  refine (Tryd.bits_Mul 1 N (by decide) (by omega) w).mono ?_
  rintro e w1 ⟨rfl, rfl⟩
  rw [hd0, hd1]
  clear hd0 hd1
  have hS := Lib.hid c0
  obtain ⟨q, hq⟩ : ∃ q, q = w1.heap.size := ⟨_, rfl⟩
  have HQ := Lib.hid hq
  have hmin : ([Value.int .i64 (-1)].take N).length = Nat.min 1 N := by rw [List.length_take]; exact Nat.min_comm _ _
  obtain ⟨k0, hk0⟩ : ∃ k0, k0 = Nat.min 1 N := ⟨_, rfl⟩
  have hk1 : k0 ≤ N := by rw [hk0]; exact Nat.min_le_right _ _
  have hkp : N = 0 ∨ 0 < k0 := by
    rcases Nat.eq_zero_or_pos N with h | h
    · exact .inl h
    · right; rw [hk0]; show 0 < min 1 N; omega
  have HK := Lib.hid (And.intro hk0 (And.intro hk1 hkp))
  have hsrc : ∀ w2, Below w1.heap.size w1 w2 → 0 < ([Value.int .i64 (-1)].take N).length → ∃ ad, (some (⟨b0, o0, none⟩ : Addr)) = some ad ∧ ∀ j u, ([Value.int .i64 (-1)].take N)[j]? = some u → w2.cell? (ad.add j) = some u := fun w2 hb2 _ => ⟨⟨b0, o0, none⟩, rfl, fun j u hu => by
    rw [List.getElem?_take] at hu
    split at hu
    · rcases j with _ | j
      · injection hu with hu
        subst hu
        exact (hb2.cell (p := ⟨b0, o0, none⟩) hb0).trans hS.out
      · cases hu
    · cases hu⟩
  have hfit : 0 + ([Value.int .i64 (-1)].take N).length ≤ (List.replicate (N * 1) (Value.int .i64 0)).length := by rw [hmin, List.length_replicate]; have : Nat.min 1 N ≤ N := Nat.min_le_right _ _; omega
  have hone : ∀ u ∈ ([Value.int .i64 (-1)].take N), u.oneCell' = true := fun u hu => by have := List.mem_of_mem_take hu; simp at this; subst this; rfl
  have hspl : splice (List.replicate (N * 1) (Value.int .i64 0)) 0 ([Value.int .i64 (-1)].take N) = half N k0 := by
    have h1 : [Value.int .i64 (-1)].take N = List.replicate k0 (Value.int .i64 (-1)) := by
      rw [hk0]
      rcases N with _ | N
      · rfl
      · rw [show Nat.min 1 (N + 1) = 1 by show min 1 (N + 1) = 1; omega]; simp
    have h2 := half_put N 0 k0 (by omega)
    rw [h1, ← Nat.zero_add k0, ← h2, Nat.zero_add]
    simp [half]
  have HS := Lib.hid (And.intro hmin (And.intro hsrc (And.intro hfit (And.intro hone hspl))))
  clear c0 hq hk0 hk1 hkp hmin hsrc hfit hone hspl hS
  go_upto_region 7 with (first | (at_make; refine wp_make_blk _ _ _ _ (.int .i64 0) 1 8 N Tryd.underlying26 info_int_mt rfl (by decide) (by omega) (by omega) (by omega) (by omega) rfl rfl rfl rfl ?_; intro w2 hB2 hb2 hz2; rw [← HQ.out] at hB2 hb2 hz2 ⊢))
  go_wp2_with (first | (refine wpList_copy_splice (o := ⟨some 33, _, _, _, _, _⟩) rfl _ _ _ _ rfl 3 Tryd.underlying26 (by kernel_rfl) _ _ N N 1 c rfl rfl q 0 _ _ hB2 ([Value.int .i64 (-1)].take N) HS.out.1 (fun h0 => ⟨rfl, HS.out.2.1 _ (by rw [← HQ.out]; exact hb2) h0⟩) HS.out.2.2.1 HS.out.2.2.2.1 q w1 hb2 (Nat.le_refl _) ?_; intro w3 hg3 hb3; rw [HS.out.1, ← HK.out.1]) | fail)
  have hB3 : Blk w3 q 3 (half N k0) := by have := hg3.out; rw [HS.out.2.2.2.2] at this; exact this
  obtain ⟨-, hk1, hkp⟩ := HK.out
  have hqw : w1.heap.size = q := HQ.out.symm
  clear hg3 hB2 hb2 HS hz2 hb0 hconv hg0 hg1
  have HH := Lib.hid hqw
  clear hqw
  go_loopw [8] (fun i wr => ∃ k : Nat, k ≤ N ∧ (N = 0 ∨ 0 < k) ∧ i = .int .i64 (k : Int) ∧ Blk wr q 3 (half N k) ∧ Below q w1 wr) (fun i _ => N - (intOf i).toNat)
  case atStart => exact ⟨k0, hk1, hkp, rfl, hB3, hb3⟩
  case round =>
    clear hB3 hb3 hk1 hkp HK
    obtain ⟨k, hk, hkp, rfl, hB, hb⟩ := hrel
    by_cases hlt : k < N
    · have f1 : (0 : Int) ≤ (k : Int) := by omega
      have f2 : (k : Int) ≤ (N : Int) := by omega
      have f3 : ((N : Int) - (k : Int)).toNat = N - k := by omega
      obtain ⟨m, hm⟩ : ∃ m, m = Nat.min k (N - k) := ⟨_, rfl⟩
      have hmk : m ≤ k ∧ m ≤ N - k ∧ 0 < m := by
        rw [hm]
        exact ⟨Nat.min_le_left _ _, Nat.min_le_right _ _, by show 0 < min k (N - k); omega⟩
      have hsrc : ∀ w', Blk w' q 3 (half N k) → 0 < (List.replicate m (Value.int .i64 (-1))).length → ∃ ad, (some (⟨q, 0, none⟩ : Addr)) = some ad ∧ ∀ j u, (List.replicate m (Value.int .i64 (-1)))[j]? = some u → w'.cell? (ad.add j) = some u := fun w' hB _ => ⟨⟨q, 0, none⟩, rfl, fun j u hu => by
        rw [Addr.add_lit, Nat.zero_add, hB.cell]
        have hj : j < m := by have := (List.getElem?_eq_some_iff.1 hu).1; simpa using this
        rw [List.getElem?_replicate, if_pos hj] at hu
        unfold half
        rw [List.getElem?_append_left (by simp; omega), List.getElem?_replicate, if_pos (by omega)]
        exact hu⟩
      have hl : (List.replicate m (Value.int .i64 (-1))).length = Nat.min k (N - k) := by rw [List.length_replicate, hm]
      have hfit : k + (List.replicate m (Value.int .i64 (-1))).length ≤ (half N k).length := by rw [List.length_replicate, half_len N k hk]; omega
      have hone : ∀ u ∈ (List.replicate m (Value.int .i64 (-1))), u.oneCell' = true := fun u hu => by rw [List.eq_of_mem_replicate hu]; rfl
      have HS := Lib.hid (And.intro hl (And.intro hsrc (And.intro hfit (And.intro hone (And.intro hmk (half_put N k m (by omega)))))))
      have hBd : Blk wr.drew q 3 (half N k) := hB
      have hbd : Below q w1 wr.drew := hb.drew
      have HW := Lib.hid (show IntKind.i64.wrap ((k : Int) + (m : Int)) = ((k + m : Nat) : Int) by rw [wrap_is]; unfold wrap64; omega)
      clear hl hsrc hfit hone hmk hm hkp
      go_upto_region 9 with (fail)
      go_region_law (refine step_copy_splice rfl (.tmp 41) (.tmp 44) _ _ rfl 3 Tryd.underlying26 (by kernel_rfl) (some ⟨q, k, none⟩) (some ⟨q, 0, none⟩) (N - k) (N - k) k N (by simp [Act.eval, Act.put]; try omega) (by simp [Act.eval, Act.put]; try omega) q k (half N k) 3 hBd (List.replicate m (Value.int .i64 (-1))) HS.out.1 (fun h0 => ⟨rfl, HS.out.2.1 _ hBd h0⟩) HS.out.2.2.1 HS.out.2.2.2.1 q w1 hbd (Nat.le_refl _) ?_; intro w4 hg4 hb4)
      have hB4 : Blk w4 q 3 (half N (k + m)) := by have := hg4.out; rw [HS.out.2.2.2.2.2] at this; exact this
      clear hg4 hBd hbd hB hb
      go_wp2
      go_roundw
      case rel => exact ⟨k + m, by have := HS.out.2.2.2.2.1; omega, .inr (by have := HS.out.2.2.2.2.1; omega), by rw [HW.out], hB4⟩
      case measure => have := HS.out.2.2.2.2.1; simp only [intOf, HW.out]; simp; omega
    · have hkN : k = N := by omega
      have hh : half N k = ints .i64 (List.replicate N (-1)) := by rw [hkN]; simp [half, ints]
      rw [hh] at hB
      have HE := Lib.hid (And.intro hB hb)
      clear hB hb hkN hh
      go_wp2
      go_ret
      have hq := HH.out
      exact ⟨q, rfl, HE.out.1, Nat.le_of_eq hq, by rw [hq]; exact HE.out.2⟩
end Go.Proofs.YtfjmhmfkhgjnhaaDoor


namespace Go.Proofs.YtfjmhmfkhgjnhaaDoor.Mt
set_option linter.unusedVariables false
set_option linter.unusedSimpArgs false
set_option maxRecDepth 100000

section
variable {S : Type} (has : S → Nat → Bool) (add : S → Nat → S) (nb : Nat → List Nat)
/-- to whom each one is ahead, and behind whom; which have been looked at -/
structure St (S : Type) where
  ah : List Int
  bk : List Int
  sn : S
def bkO (st : St S) (k : Nat) : Int := st.bk.getD k (-1)
def ahO (st : St S) (n : Nat) : Int := st.ah.getD n (-1)
def link (st : St S) (n k : Nat) : St S := { st with ah := st.ah.set n (k : Int), bk := st.bk.set k (n : Int) }
def look (st : St S) (k : Nat) : St S := { st with sn := add st.sn k }
def go (rec : Nat → St S → Bool × St S) (n : Nat) : List Nat → St S → Bool × St S
  | [], st => (false, st)
  | k :: ks, st =>
    if has st.sn k then go rec n ks st
    else if bkO (look add st k) k < 0 then (true, link (look add st k) n k)
    else if (rec (bkO (look add st k) k).toNat (look add st k)).1 then (true, link (rec (bkO (look add st k) k).toNat (look add st k)).2 n k)
    else go rec n ks (rec (bkO (look add st k) k).toNat (look add st k)).2
def fr : Nat → Nat → St S → Bool × St S
  | 0, _, st => (false, st)
  | f + 1, n, st => go has add (fr f) n (nb n) st
end

/-- a search: what it leaves as it was -/
structure Srch {S : Type} (has : S → Nat → Bool) (N : Nat) (st st' : St S) : Prop where
  seen : ∀ x, has st.sn x = true → has st'.sn x = true
  lenA : st'.ah.length = st.ah.length
  lenB : st'.bk.length = st.bk.length
section
variable {S : Type} {has : S → Nat → Bool} {add : S → Nat → S} {nb : Nat → List Nat} {N : Nat}
theorem Srch.refl (st : St S) : Srch has N st st := ⟨fun _ h => h, rfl, rfl⟩
theorem Srch.trans {a b c : St S} (h : Srch has N a b) (k : Srch has N b c) : Srch has N a c := ⟨fun x hx => k.seen x (h.seen x hx), k.lenA.trans h.lenA, k.lenB.trans h.lenB⟩
theorem srch_look (hadd : ∀ s k x, has (add s k) x = (has s x || x == k)) (st : St S) (k : Nat) : Srch has N st (look add st k) := ⟨fun x hx => by show has (add st.sn k) x = true; rw [hadd, hx]; rfl, rfl, rfl⟩
theorem srch_link (st : St S) (n k : Nat) : Srch has N st (link st n k) := ⟨fun _ h => h, by simp [link], by simp [link]⟩

/-- all that a search does: no way is found: nothing is turned; and all that is looked at is paired, and all behind those ahead of it has been looked at -/
structure Fail {S : Type} (has : S → Nat → Bool) (nb : Nat → List Nat) (ks : List Nat) (st st' : St S) : Prop where
  ah : st'.ah = st.ah
  bk : st'.bk = st.bk
  seen : ∀ x, has st.sn x = true → has st'.sn x = true
  all : ∀ k ∈ ks, has st'.sn k = true
  shut : ∀ k, has st'.sn k = true → has st.sn k = true ∨ (0 ≤ bkO st k ∧ ∀ m ∈ nb (bkO st k).toNat, has st'.sn m = true)

/-- how many have not been looked at -/
def unseen (has : S → Nat → Bool) (N : Nat) (s : S) : Nat := ((List.range N).filter fun x => !has s x).length
theorem unseen_add (hadd : ∀ s k x, has (add s k) x = (has s x || x == k)) {s : S} {k : Nat} (hk : k < N) (h : has s k = false) : unseen has N (add s k) < unseen has N s := by
  unfold unseen
  have h1 : ((List.range N).filter fun x => !has (add s k) x).length + 1 ≤ ((List.range N).filter fun x => !has s x).length := by
    have hnd : (k :: (List.range N).filter fun x => !has (add s k) x).Nodup := List.nodup_cons.2 ⟨fun hm => by
      have := (List.mem_filter.1 hm).2
      rw [hadd] at this
      simp at this, List.nodup_range.filter _⟩
    have := hnd.length_le_of_subset (l₂ := (List.range N).filter fun x => !has s x) (fun x hx => by
      rcases List.mem_cons.1 hx with rfl | hx
      · exact List.mem_filter.2 ⟨List.mem_range.2 hk, by simp [h]⟩
      · obtain ⟨h1, h2⟩ := List.mem_filter.1 hx
        rw [hadd] at h2
        refine List.mem_filter.2 ⟨h1, ?_⟩
        simp at h2
        simp [h2.1])
    simpa using this
  omega
theorem unseen_mono {s s' : S} (h : ∀ x, has s x = true → has s' x = true) : unseen has N s' ≤ unseen has N s := by
  unfold unseen
  have hnd : ((List.range N).filter fun x => !has s' x).Nodup := List.nodup_range.filter _
  refine hnd.length_le_of_subset fun x hx => ?_
  obtain ⟨h1, h2⟩ := List.mem_filter.1 hx
  refine List.mem_filter.2 ⟨h1, ?_⟩
  rcases e : has s x with _ | _
  · rfl
  · rw [h x e] at h2
    cases h2
theorem unseen_le (s : S) : unseen has N s ≤ N := by
  unfold unseen
  exact Nat.le_trans (List.length_filter_le _ _) (by simp)

/-- a search that fails -/
theorem fr_fail (hadd : ∀ s k x, has (add s k) x = (has s x || x == k)) (hnb : ∀ n, ∀ k ∈ nb n, k < N) : ∀ (f n : Nat) (st : St S), unseen has N st.sn < f → (fr has add nb f n st).1 = false → Fail has nb (nb n) st (fr has add nb f n st).2 := by
  intro f
  induction f with
  | zero => intro n st h; omega
  | succ f ih =>
    intro n st hf
    show (go has add (fr has add nb f) n (nb n) st).1 = false → Fail has nb (nb n) st (go has add (fr has add nb f) n (nb n) st).2
    have key : ∀ (ks : List Nat) (st : St S), (∀ k ∈ ks, k < N) → unseen has N st.sn < f + 1 → (go has add (fr has add nb f) n ks st).1 = false → Fail has nb ks st (go has add (fr has add nb f) n ks st).2 := by
      intro ks
      induction ks with
      | nil => intro st _ _ _; exact ⟨rfl, rfl, fun _ h => h, fun _ h => (by cases h), fun k h => .inl h⟩
      | cons k ks ihk =>
        intro st hks hf h
        have hkN := hks k List.mem_cons_self
        have hks' : ∀ x ∈ ks, x < N := fun x hx => hks x (List.mem_cons_of_mem _ hx)
        unfold go at h ⊢
        by_cases h1 : has st.sn k = true
        · rw [if_pos h1] at h ⊢
          have F := ihk st hks' hf h
          exact ⟨F.ah, F.bk, F.seen, fun x hx => by
            rcases List.mem_cons.1 hx with rfl | hx
            · exact F.seen _ h1
            · exact F.all x hx, F.shut⟩
        · rw [if_neg h1] at h ⊢
          by_cases h2 : bkO (look add st k) k < 0
          · rw [if_pos h2] at h; cases h
          · rw [if_neg h2] at h ⊢
            have hlt : unseen has N (look add st k).sn < unseen has N st.sn := unseen_add hadd hkN (by simpa using h1)
            by_cases h3 : (fr has add nb f (bkO (look add st k) k).toNat (look add st k)).1 = true
            · rw [if_pos h3] at h; cases h
            · rw [if_neg h3] at h ⊢
              have h3' : (fr has add nb f (bkO (look add st k) k).toNat (look add st k)).1 = false := by simpa using h3
              have F1 := ih _ (look add st k) (by omega) h3'
              have hu : unseen has N (fr has add nb f (bkO (look add st k) k).toNat (look add st k)).2.sn < f + 1 := Nat.lt_of_le_of_lt (unseen_mono F1.seen) (by omega)
              have F2 := ihk _ hks' hu h
              generalize fr has add nb f (bkO (look add st k) k).toNat (look add st k) = r at F1 F2 h ⊢
              have e1 : ∀ x, bkO r.2 x = bkO st x := fun x => by unfold bkO; rw [F1.bk]; rfl
              have hkk : has (look add st k).sn k = true := by show has (add st.sn k) k = true; rw [hadd]; simp
              refine ⟨F2.ah.trans F1.ah, F2.bk.trans F1.bk, fun x hx => F2.seen x (F1.seen x (by show has (add st.sn k) x = true; rw [hadd, hx]; rfl)), fun x hx => ?_, fun x hx => ?_⟩
              · rcases List.mem_cons.1 hx with rfl | hx
                · exact F2.seen _ (F1.seen _ hkk)
                · exact F2.all x hx
              · rcases F2.shut x hx with hx | ⟨hx1, hx2⟩
                · rcases F1.shut x hx with hx | ⟨hx1, hx2⟩
                  · have hx : has (add st.sn k) x = true := hx
                    rw [hadd] at hx
                    rcases e : has st.sn x with _ | _
                    · rw [e, Bool.false_or, beq_iff_eq] at hx
                      subst hx
                      right
                      refine ⟨by show 0 ≤ bkO (look add st x) x; omega, fun m hm => F2.seen m (F1.all m hm)⟩
                    · exact .inl rfl
                  · exact .inr ⟨hx1, fun m hm => F2.seen m (hx2 m hm)⟩
                · rw [e1] at hx1 hx2
                  exact .inr ⟨hx1, hx2⟩
    exact key (nb n) st (hnb n) hf

/-- Z is shut: all in it are paired, and all behind those ahead of them is in it -/
def Shut (nb : Nat → List Nat) (Z : Nat → Prop) (bk : List Int) : Prop := ∀ k, Z k → 0 ≤ bk.getD k (-1) ∧ ∀ m ∈ nb (bk.getD k (-1)).toNat, Z m
/-- a search leaves what is shut; and out of it no way leads -/
theorem fr_shut {Z : Nat → Prop} : ∀ (f n : Nat) (st : St S), Shut nb Z st.bk → (∀ k, Z k → (fr has add nb f n st).2.bk.getD k (-1) = st.bk.getD k (-1)) ∧ ((∀ k ∈ nb n, Z k) → (fr has add nb f n st).1 = false) ∧ ((fr has add nb f n st).1 = false → (fr has add nb f n st).2.bk = st.bk ∧ (fr has add nb f n st).2.ah = st.ah) := by
  intro f
  induction f with
  | zero => intro n st _; exact ⟨fun _ _ => rfl, fun _ => rfl, fun _ => ⟨rfl, rfl⟩⟩
  | succ f ih =>
    intro n st hZ
    show (∀ k, Z k → (go has add (fr has add nb f) n (nb n) st).2.bk.getD k (-1) = st.bk.getD k (-1)) ∧ ((∀ k ∈ nb n, Z k) → (go has add (fr has add nb f) n (nb n) st).1 = false) ∧ ((go has add (fr has add nb f) n (nb n) st).1 = false → (go has add (fr has add nb f) n (nb n) st).2.bk = st.bk ∧ (go has add (fr has add nb f) n (nb n) st).2.ah = st.ah)
    have key : ∀ (ks : List Nat) (st : St S), Shut nb Z st.bk → (∀ k, Z k → (go has add (fr has add nb f) n ks st).2.bk.getD k (-1) = st.bk.getD k (-1)) ∧ ((∀ k ∈ ks, Z k) → (go has add (fr has add nb f) n ks st).1 = false) ∧ ((go has add (fr has add nb f) n ks st).1 = false → (go has add (fr has add nb f) n ks st).2.bk = st.bk ∧ (go has add (fr has add nb f) n ks st).2.ah = st.ah) := by
      intro ks
      induction ks with
      | nil => intro st _; exact ⟨fun _ _ => rfl, fun _ => rfl, fun _ => ⟨rfl, rfl⟩⟩
      | cons k ks ihk =>
        intro st hZ
        unfold go
        by_cases h1 : has st.sn k = true
        · rw [if_pos h1]
          obtain ⟨q1, q2, q3⟩ := ihk st hZ
          exact ⟨q1, fun h => q2 fun x hx => h x (List.mem_cons_of_mem _ hx), q3⟩
        · rw [if_neg h1]
          have hZ1 : Shut nb Z (look add st k).bk := hZ
          have ebk : bkO (look add st k) k = st.bk.getD k (-1) := rfl
          by_cases h2 : bkO (look add st k) k < 0
          · rw [if_pos h2]
            have hkZ : ¬ Z k := fun hz => by have := (hZ k hz).1; rw [ebk] at h2; omega
            refine ⟨fun x hx => ?_, fun h => absurd (h k List.mem_cons_self) hkZ, fun h => by cases h⟩
            show (st.bk.set k (n : Int)).getD x (-1) = _
            rw [List.getD_eq_getElem?_getD, List.getElem?_set_ne (fun e => hkZ (by rw [e]; exact hx)), List.getD_eq_getElem?_getD]
          · rw [if_neg h2]
            obtain ⟨r1, r2, r3⟩ := ih (bkO (look add st k) k).toNat (look add st k) hZ1
            have hkr : Z k → (fr has add nb f (bkO (look add st k) k).toNat (look add st k)).1 = false := fun hz => r2 (hZ k hz).2
            by_cases h3 : (fr has add nb f (bkO (look add st k) k).toNat (look add st k)).1 = true
            · rw [if_pos h3]
              have hkZ : ¬ Z k := fun hz => by rw [hkr hz] at h3; cases h3
              refine ⟨fun x hx => ?_, fun h => absurd (h k List.mem_cons_self) hkZ, fun h => by cases h⟩
              rw [← show (look add st k).bk.getD x (-1) = st.bk.getD x (-1) from rfl, ← r1 x hx]
              show ((fr has add nb f (bkO (look add st k) k).toNat (look add st k)).2.bk.set k (n : Int)).getD x (-1) = _
              rw [List.getD_eq_getElem?_getD, List.getElem?_set_ne (fun e => hkZ (by rw [e]; exact hx)), List.getD_eq_getElem?_getD]
            · rw [if_neg h3]
              have h3' : (fr has add nb f (bkO (look add st k) k).toNat (look add st k)).1 = false := by simpa using h3
              obtain ⟨b1, b2⟩ := r3 h3'
              generalize fr has add nb f (bkO (look add st k) k).toNat (look add st k) = r at b1 b2 ⊢
              have hZ2 : Shut nb Z r.2.bk := by rw [b1]; exact hZ1
              obtain ⟨q1, q2, q3⟩ := ihk r.2 hZ2
              refine ⟨fun x hx => by rw [q1 x hx, b1]; rfl, fun h => q2 fun x hx => h x (List.mem_cons_of_mem _ hx), fun h => ?_⟩
              obtain ⟨c1, c2⟩ := q3 h
              exact ⟨c1.trans b1, c2.trans b2⟩
    exact key (nb n) st hZ
/-- what has been looked at stays so -/
theorem fr_seen (hadd : ∀ s k x, has (add s k) x = (has s x || x == k)) : ∀ (f n : Nat) (st : St S), ∀ x, has st.sn x = true → has (fr has add nb f n st).2.sn x = true := by
  intro f
  induction f with
  | zero => intro n st x h; exact h
  | succ f ih =>
    intro n st
    show ∀ x, has st.sn x = true → has (go has add (fr has add nb f) n (nb n) st).2.sn x = true
    have key : ∀ (ks : List Nat) (st : St S) (x : Nat), has st.sn x = true → has (go has add (fr has add nb f) n ks st).2.sn x = true := by
      intro ks
      induction ks with
      | nil => intro st x h; exact h
      | cons k ks ihk =>
        intro st x h
        have h' : has (look add st k).sn x = true := by show has (add st.sn k) x = true; rw [hadd, h]; rfl
        unfold go
        split
        · exact ihk st x h
        · split
          · exact h'
          · split
            · exact ih _ _ x h'
            · exact ihk _ x (ih _ _ x h')
    exact key (nb n) st
end
end Go.Proofs.YtfjmhmfkhgjnhaaDoor.Mt


namespace Go.Proofs.YtfjmhmfkhgjnhaaDoor.Mt
set_option linter.unusedVariables false
set_option linter.unusedSimpArgs false
set_option maxRecDepth 100000

section
variable {S : Type} {has : S → Nat → Bool} {add : S → Nat → S} {nb : Nat → List Nat} {N : Nat}
/-- each is paired with one behind it, and that one with it -/
structure Val (nb : Nat → List Nat) (N : Nat) (ah bk : List Int) : Prop where
  lenA : ah.length = N
  lenB : bk.length = N
  fw : ∀ y k : Nat, y < N → ah.getD y (-1) = (k : Int) → k < N ∧ k ∈ nb y ∧ bk.getD k (-1) = (y : Int)
  bw : ∀ k y : Nat, k < N → bk.getD k (-1) = (y : Int) → y < N ∧ ah.getD y (-1) = (k : Int)
  lowA : ∀ v ∈ ah, -1 ≤ v
  lowB : ∀ v ∈ bk, -1 ≤ v
theorem getD_set {l : List Int} {n : Nat} {v : Int} (hn : n < l.length) (x : Nat) : (l.set n v).getD x (-1) = if x = n then v else l.getD x (-1) := by
  rw [List.getD_eq_getElem?_getD, List.getElem?_set, List.getD_eq_getElem?_getD]
  by_cases h : n = x
  · subst h; simp [hn]
  · rw [if_neg h, if_neg (fun e => h e.symm)]
theorem getD_far {l : List Int} {x : Nat} (h : l.length ≤ x) : l.getD x (-1) = -1 := by
  rw [List.getD_eq_getElem?_getD, List.getElem?_eq_none h]; rfl
/-- a search for n that found a way -/
structure Won (has : S → Nat → Bool) (nb : Nat → List Nat) (N n : Nat) (st st' : St S) : Prop where
  lenA : st'.ah.length = N
  lenB : st'.bk.length = N
  a : ∃ k : Nat, k < N ∧ k ∈ nb n ∧ has st.sn k = false ∧ ahO st' n = (k : Int) ∧ bkO st' k = (n : Int) ∧ ∀ j : Nat, j < N → bkO st' j = (n : Int) → j = k ∨ bkO st j = (n : Int)
  b : ∀ y k : Nat, y < N → y ≠ n → ahO st' y = (k : Int) → k < N ∧ k ∈ nb y ∧ bkO st' k = (y : Int)
  c : ∀ k y : Nat, k < N → bkO st' k = (y : Int) → y < N ∧ (y ≠ n → ahO st' y = (k : Int))
  d : ∀ y, y ≠ n → (0 ≤ ahO st' y ↔ 0 ≤ ahO st y)
  e : ∀ k, has st.sn k = true → bkO st' k = bkO st k
  g : ∀ y : Nat, y ≠ n → (∀ j : Nat, j < N → bkO st j = (y : Int) → has st.sn j = true) → ahO st' y = ahO st y ∧ ∀ j : Nat, j < N → bkO st' j = (y : Int) → bkO st j = (y : Int)
  lowA : ∀ v ∈ st'.ah, -1 ≤ v
  lowB : ∀ v ∈ st'.bk, -1 ≤ v
theorem Won.since {n : Nat} {st st1 st2 : St S} (h : Won has nb N n st1 st2) (ha : st1.ah = st.ah) (hb : st1.bk = st.bk) (hs : ∀ x, has st.sn x = true → has st1.sn x = true) : Won has nb N n st st2 := by
  have e1 : ∀ y, ahO st1 y = ahO st y := fun y => by unfold ahO; rw [ha]
  have e2 : ∀ y, bkO st1 y = bkO st y := fun y => by unfold bkO; rw [hb]
  refine ⟨h.lenA, h.lenB, ?_, h.b, h.c, fun y hy => by rw [h.d y hy, e1], fun k hk => by rw [h.e k (hs k hk), e2], fun y hy hj => ?_, h.lowA, h.lowB⟩
  · obtain ⟨k, k1, k2, k3, k4, k5, k6⟩ := h.a
    refine ⟨k, k1, k2, ?_, k4, k5, fun j hj hb => (k6 j hj hb).imp id (fun x => by rw [← e2]; exact x)⟩
    rcases e : has st.sn k with _ | _
    · rfl
    · rw [hs k e] at k3; cases k3
  · obtain ⟨g1, g2⟩ := h.g y hy (fun j hjN hb => hs j (hj j hjN (by rw [← e2]; exact hb)))
    exact ⟨by rw [g1, e1], fun j hjN hb => by rw [← e2]; exact g2 j hjN hb⟩
/-- the pair itself -/
theorem won_link {n k : Nat} {st : St S} (hadd : ∀ s k x, has (add s k) x = (has s x || x == k)) (hV : Val nb N st.ah st.bk) (hn : n < N) (hk : k < N) (hkn : k ∈ nb n) (hs : has st.sn k = false) (h0 : bkO st k < 0) : Won has nb N n st (link (look add st k) n k) := by
  have lA : n < st.ah.length := by rw [hV.lenA]; exact hn
  have lB : k < st.bk.length := by rw [hV.lenB]; exact hk
  have eA : ∀ y, ahO (link (look add st k) n k) y = if y = n then (k : Int) else ahO st y := fun y => getD_set lA y
  have eB : ∀ j, bkO (link (look add st k) n k) j = if j = k then (n : Int) else bkO st j := fun j => getD_set lB j
  refine ⟨by show (st.ah.set n _).length = N; rw [List.length_set]; exact hV.lenA, by show (st.bk.set k _).length = N; rw [List.length_set]; exact hV.lenB, ⟨k, hk, hkn, hs, by rw [eA, if_pos rfl], by rw [eB, if_pos rfl], fun j hj hb => ?_⟩, fun y j hy hyn hj => ?_, fun j y hj hb => ?_, fun y hy => by rw [eA, if_neg hy], fun j hj => ?_, fun y hy _ => ⟨by rw [eA, if_neg hy], fun j hj hb => ?_⟩, fun v hv => ?_, fun v hv => ?_⟩
  · rw [eB] at hb
    by_cases e : j = k
    · exact .inl e
    · rw [if_neg e] at hb; exact .inr hb
  · rw [eA, if_neg hyn] at hj
    obtain ⟨q1, q2, q3⟩ := hV.fw y j hy hj
    refine ⟨q1, q2, ?_⟩
    rw [eB, if_neg (fun e => by subst e; unfold bkO at h0; rw [q3] at h0; omega)]
    exact q3
  · rw [eB] at hb
    by_cases e : j = k
    · rw [if_pos e] at hb
      have : n = y := by omega
      subst this
      exact ⟨hn, fun h => absurd rfl h⟩
    · rw [if_neg e] at hb
      obtain ⟨q1, q2⟩ := hV.bw j y hj hb
      exact ⟨q1, fun hyn => by rw [eA, if_neg hyn]; exact q2⟩
  · rw [eB, if_neg (fun e => by rw [e, hs] at hj; cases hj)]
  · rw [eB] at hb
    by_cases e : j = k
    · rw [if_pos e] at hb; omega
    · rw [if_neg e] at hb; exact hb
  · rcases List.mem_or_eq_of_mem_set hv with h | h
    · exact hV.lowA v h
    · omega
  · rcases List.mem_or_eq_of_mem_set hv with h | h
    · exact hV.lowB v h
    · omega
/-- a search that succeeds -/
theorem fr_won (hadd : ∀ s k x, has (add s k) x = (has s x || x == k)) (hnb : ∀ n, ∀ k ∈ nb n, k < N) : ∀ (f n : Nat) (st : St S), n < N → Val nb N st.ah st.bk → (∀ j : Nat, j < N → bkO st j = (n : Int) → has st.sn j = true) → (fr has add nb f n st).1 = true → Won has nb N n st (fr has add nb f n st).2 := by
  intro f
  induction f with
  | zero => intro n st _ _ _ h; cases h
  | succ f ih =>
    intro n st hn hV hp
    show (go has add (fr has add nb f) n (nb n) st).1 = true → Won has nb N n st (go has add (fr has add nb f) n (nb n) st).2
    have key : ∀ (ks : List Nat) (st : St S), (∀ k ∈ ks, k ∈ nb n) → Val nb N st.ah st.bk → (∀ j : Nat, j < N → bkO st j = (n : Int) → has st.sn j = true) → (go has add (fr has add nb f) n ks st).1 = true → Won has nb N n st (go has add (fr has add nb f) n ks st).2 := by
      intro ks
      induction ks with
      | nil => intro st _ _ _ h; cases h
      | cons k ks ihk =>
        intro st hks hV hp h
        have hkn := hks k List.mem_cons_self
        have hkN := hnb n k hkn
        have hks' : ∀ x ∈ ks, x ∈ nb n := fun x hx => hks x (List.mem_cons_of_mem _ hx)
        unfold go at h ⊢
        by_cases h1 : has st.sn k = true
        · rw [if_pos h1] at h ⊢
          exact ihk st hks' hV hp h
        · have h1' : has st.sn k = false := by simpa using h1
          rw [if_neg h1] at h ⊢
          by_cases h2 : bkO (look add st k) k < 0
          · rw [if_pos h2] at h ⊢
            exact won_link hadd hV hn hkN hkn h1' h2
          · rw [if_neg h2] at h ⊢
            obtain ⟨m, hm⟩ : ∃ m : Nat, bkO st k = (m : Int) := ⟨(bkO st k).toNat, by have : ¬ bkO st k < 0 := h2; omega⟩
            have hm' : bkO (look add st k) k = (m : Int) := hm
            rw [hm', Int.toNat_natCast] at h ⊢
            obtain ⟨hmN, hmA⟩ := hV.bw k m hkN hm
            have hmn : m ≠ n := fun e => by rw [hp k hkN (by rw [hm, e])] at h1'; cases h1'
            have hseen1 : ∀ x, has st.sn x = true → has (look add st k).sn x = true := fun x hx => by show has (add st.sn k) x = true; rw [hadd, hx]; rfl
            have hkk : has (look add st k).sn k = true := by show has (add st.sn k) k = true; rw [hadd]; simp
            have hp1 : ∀ j : Nat, j < N → bkO (look add st k) j = (m : Int) → has (look add st k).sn j = true := fun j hj hb => by
              obtain ⟨-, q⟩ := hV.bw j m hj hb
              have hmA : ahO st m = (k : Int) := hmA
              have q : ahO st m = (j : Int) := q
              have : j = k := by omega
              rw [this]; exact hkk
            by_cases h3 : (fr has add nb f m (look add st k)).1 = true
            · rw [if_pos h3] at h ⊢
              have R := ih m (look add st k) hmN hV hp1 h3
              have hfin : ∀ v ∈ (link (fr has add nb f m (look add st k)).2 n k).ah, -1 ≤ v := fun v hv => by
                rcases List.mem_or_eq_of_mem_set hv with h | h
                · exact R.lowA v h
                · omega
              have hfin2 : ∀ v ∈ (link (fr has add nb f m (look add st k)).2 n k).bk, -1 ≤ v := fun v hv => by
                rcases List.mem_or_eq_of_mem_set hv with h | h
                · exact R.lowB v h
                · omega
              generalize (fr has add nb f m (look add st k)).2 = s2 at R hfin hfin2 ⊢
              have lA : n < s2.ah.length := by rw [R.lenA]; exact hn
              have lB : k < s2.bk.length := by rw [R.lenB]; exact hkN
              have eA : ∀ y, ahO (link s2 n k) y = if y = n then (k : Int) else ahO s2 y := fun y => getD_set lA y
              have eB : ∀ j, bkO (link s2 n k) j = if j = k then (n : Int) else bkO s2 j := fun j => getD_set lB j
              obtain ⟨k1, r1, r2, r3, r4, r5, r6⟩ := R.a
              have hk1 : k1 ≠ k := fun e => by rw [e, hkk] at r3; cases r3
              have hbk2 : bkO s2 k = (m : Int) := by rw [R.e k hkk]; exact hm
              have hgn := R.g n (fun e => hmn e.symm) (fun j hj hb => hseen1 j (hp j hj hb))
              refine ⟨by show (s2.ah.set n _).length = N; rw [List.length_set]; exact R.lenA, by show (s2.bk.set k _).length = N; rw [List.length_set]; exact R.lenB, ⟨k, hkN, hkn, h1', by rw [eA, if_pos rfl], by rw [eB, if_pos rfl], fun j hj hb => ?_⟩, fun y j hy hyn hj => ?_, fun j y hj hb => ?_, fun y hy => ?_, fun j hj => ?_, fun y hy hyj => ?_, hfin, hfin2⟩
              · rw [eB] at hb
                by_cases e : j = k
                · exact .inl e
                · rw [if_neg e] at hb
                  exact .inr (hgn.2 j hj hb)
              · rw [eA, if_neg hyn] at hj
                by_cases hym : y = m
                · subst hym
                  have : j = k1 := by omega
                  subst this
                  exact ⟨r1, r2, by rw [eB, if_neg hk1]; exact r5⟩
                · obtain ⟨q1, q2, q3⟩ := R.b y j hy hym hj
                  refine ⟨q1, q2, ?_⟩
                  rw [eB, if_neg (fun e => by rw [e, hbk2] at q3; omega)]
                  exact q3
              · rw [eB] at hb
                by_cases e : j = k
                · rw [if_pos e] at hb
                  have : n = y := by omega
                  subst this
                  exact ⟨hn, fun h => absurd rfl h⟩
                · rw [if_neg e] at hb
                  obtain ⟨q1, q2⟩ := R.c j y hj hb
                  refine ⟨q1, fun hyn => ?_⟩
                  rw [eA, if_neg hyn]
                  by_cases hym : y = m
                  · subst hym
                    rcases r6 j hj hb with rfl | hjb
                    · exact r4
                    · obtain ⟨-, q⟩ := hV.bw j y hj hjb
                      have q : ahO st y = (j : Int) := q
                      have hmA : ahO st y = (k : Int) := hmA
                      exact absurd (show j = k by omega) e
                  · exact q2 hym
              · rw [eA, if_neg hy]
                by_cases hym : y = m
                · subst hym
                  have hmA : ahO st y = (k : Int) := hmA
                  rw [r4, hmA]
                  omega
                · exact R.d y hym
              · rw [eB, if_neg (fun e => by rw [e, h1'] at hj; cases hj), R.e j (hseen1 j hj)]
                rfl
              · have hym : y ≠ m := fun e => by
                  have := hyj k hkN (by rw [hm, e])
                  rw [h1'] at this
                  cases this
                obtain ⟨g1, g2⟩ := R.g y hym (fun j hj hb => hseen1 j (hyj j hj hb))
                refine ⟨by rw [eA, if_neg hy]; exact g1, fun j hj hb => ?_⟩
                rw [eB] at hb
                by_cases e : j = k
                · rw [if_pos e] at hb; omega
                · rw [if_neg e] at hb; exact g2 j hj hb
            · rw [if_neg h3] at h ⊢
              have h3' : (fr has add nb f m (look add st k)).1 = false := by simpa using h3
              obtain ⟨b1, b2⟩ := (fr_shut (has := has) (add := add) (nb := nb) (Z := fun _ => False) f m (look add st k) (fun k hk => hk.elim)).2.2 h3'
              have hsn := fr_seen (nb := nb) hadd f m (look add st k)
              generalize (fr has add nb f m (look add st k)) = r at b1 b2 hsn h ⊢
              have hV2 : Val nb N r.2.ah r.2.bk := by rw [b1, b2]; exact hV
              have hs2 : ∀ x, has st.sn x = true → has r.2.sn x = true := fun x hx => hsn x (hseen1 x hx)
              refine (ihk r.2 hks' hV2 (fun j hj hb => hs2 j (hp j hj ?_)) h).since b2 b1 hs2
              unfold bkO at hb ⊢
              rw [b1] at hb
              exact hb
    exact key (nb n) st (fun _ h => h) hV hp
end
end Go.Proofs.YtfjmhmfkhgjnhaaDoor.Mt


namespace Go.Proofs.YtfjmhmfkhgjnhaaDoor.Mt
set_option linter.unusedVariables false
set_option linter.unusedSimpArgs false
set_option maxRecDepth 100000

section
variable {S : Type} {has : S → Nat → Bool} {add : S → Nat → S} {nb : Nat → List Nat} {N : Nat} {ah bk : List Int}
/-- one search for each, one behind the other -/
def pr (has : S → Nat → Bool) (add : S → Nat → S) (em : S) (nb : Nat → List Nat) (N : Nat) : Nat → List Int × List Int
  | 0 => (List.replicate N (-1), List.replicate N (-1))
  | i + 1 => ((fr has add nb (N + 1) i ⟨(pr has add em nb N i).1, (pr has add em nb N i).2, em⟩).2.ah, (fr has add nb (N + 1) i ⟨(pr has add em nb N i).1, (pr has add em nb N i).2, em⟩).2.bk)
/-- paired; and whom nobody was found for is shut in -/
structure Best (nb : Nat → List Nat) (N i : Nat) (ah bk : List Int) : Prop where
  val : Val nb N ah bk
  late : ∀ y, i ≤ y → ah.getD y (-1) = -1
  shut : ∀ y, y < i → ah.getD y (-1) = -1 → ∃ Z : Nat → Prop, Shut nb Z bk ∧ ∀ k ∈ nb y, Z k
theorem neg_of {l : List Int} (h : ∀ v ∈ l, -1 ≤ v) (y : Nat) : l.getD y (-1) = -1 ∨ ∃ k : Nat, l.getD y (-1) = (k : Int) := by
  by_cases hy : y < l.length
  · have hm : l.getD y (-1) ∈ l := by rw [List.getD_eq_getElem?_getD, List.getElem?_eq_getElem hy]; exact List.getElem_mem hy
    have := h _ hm
    by_cases h0 : l.getD y (-1) = -1
    · exact .inl h0
    · exact .inr ⟨(l.getD y (-1)).toNat, by omega⟩
  · exact .inl (getD_far (by omega))
theorem rep_get (y : Nat) : (List.replicate N (-1 : Int)).getD y (-1) = -1 := by
  rw [List.getD_eq_getElem?_getD, List.getElem?_replicate]
  split <;> rfl
theorem best_start (nb : Nat → List Nat) (N : Nat) : Best nb N 0 (List.replicate N (-1)) (List.replicate N (-1)) :=
  ⟨⟨by simp, by simp, fun y k _ h => by rw [rep_get] at h; omega, fun k y _ h => by rw [rep_get] at h; omega, fun v hv => by rw [List.eq_of_mem_replicate hv]; omega, fun v hv => by rw [List.eq_of_mem_replicate hv]; omega⟩, fun y _ => rep_get y, fun y h => by omega⟩
theorem best_step (hadd : ∀ s k x, has (add s k) x = (has s x || x == k)) {em : S} (hem : ∀ x, has em x = false) (hnb : ∀ n, ∀ k ∈ nb n, k < N) {i : Nat} (hi : i < N) (h : Best nb N i ah bk) :
    Best nb N (i + 1) (fr has add nb (N + 1) i ⟨ah, bk, em⟩).2.ah (fr has add nb (N + 1) i ⟨ah, bk, em⟩).2.bk := by
  have hp : ∀ j : Nat, j < N → bkO (⟨ah, bk, em⟩ : St S) j = (i : Int) → has em j = true := fun j hj hb => by
    obtain ⟨-, q⟩ := h.val.bw j i hj hb
    rw [h.late i (Nat.le_refl _)] at q
    omega
  have hsh := fun (Z : Nat → Prop) (hZ : Shut nb Z bk) => fr_shut (has := has) (add := add) (nb := nb) (Z := Z) (N + 1) i ⟨ah, bk, em⟩ hZ
  rcases hr : (fr has add nb (N + 1) i ⟨ah, bk, em⟩).1 with _ | _
  · have F := fr_fail hadd hnb (N + 1) i ⟨ah, bk, em⟩ (Nat.lt_succ_of_le (unseen_le _)) hr
    have eA : (fr has add nb (N + 1) i ⟨ah, bk, em⟩).2.ah = ah := F.ah
    have eB : (fr has add nb (N + 1) i ⟨ah, bk, em⟩).2.bk = bk := F.bk
    rw [eA, eB]
    refine ⟨h.val, fun y hy => h.late y (by omega), fun y hy hya => ?_⟩
    by_cases e : y = i
    · subst e
      refine ⟨fun k => has (fr has add nb (N + 1) y ⟨ah, bk, em⟩).2.sn k = true, fun k hk => ?_, F.all⟩
      rcases F.shut k hk with hk | hk
      · rw [show has (⟨ah, bk, em⟩ : St S).sn k = has em k from rfl, hem] at hk; cases hk
      · exact hk
    · exact h.shut y (by omega) hya
  · have R := fr_won hadd hnb (N + 1) i ⟨ah, bk, em⟩ hi h.val hp hr
    generalize fr has add nb (N + 1) i ⟨ah, bk, em⟩ = r at R hsh hr ⊢
    obtain ⟨k, k1, k2, k3, k4, k5, k6⟩ := R.a
    have hno : ∀ j : Nat, j < N → ¬ bk.getD j (-1) = (i : Int) := fun j hj hb => by
      have := hp j hj hb
      rw [hem] at this
      cases this
    refine ⟨⟨R.lenA, R.lenB, fun y j hy hj => ?_, fun j y hj hb => ?_, R.lowA, R.lowB⟩, fun y hy => ?_, fun y hy hya => ?_⟩
    · by_cases e : y = i
      · subst e
        have k4 : r.2.ah.getD y (-1) = (k : Int) := k4
        have : j = k := by omega
        subst this
        exact ⟨k1, k2, k5⟩
      · exact R.b y j hy e hj
    · obtain ⟨q1, q2⟩ := R.c j y hj hb
      refine ⟨q1, ?_⟩
      by_cases e : y = i
      · subst e
        rcases k6 j hj hb with rfl | hjb
        · exact k4
        · exact absurd hjb (hno j hj)
      · exact q2 e
    · have hd := R.d y (by omega)
      rcases neg_of R.lowA y with h0 | ⟨m, hm⟩
      · exact h0
      · have h1 : 0 ≤ ahO r.2 y := by show 0 ≤ r.2.ah.getD y (-1); rw [hm]; omega
        have h2 : 0 ≤ ah.getD y (-1) := hd.1 h1
        rw [h.late y (by omega)] at h2
        omega
    · by_cases e : y = i
      · subst e
        have k4 : r.2.ah.getD y (-1) = (k : Int) := k4
        omega
      · have hd := R.d y e
        have h0 : ah.getD y (-1) = -1 := by
          rcases neg_of h.val.lowA y with h0 | ⟨m, hm⟩
          · exact h0
          · have h1 : 0 ≤ ahO (⟨ah, bk, em⟩ : St S) y := by show 0 ≤ ah.getD y (-1); rw [hm]; omega
            have h2 : 0 ≤ r.2.ah.getD y (-1) := hd.2 h1
            omega
        obtain ⟨Z, hZ, hyZ⟩ := h.shut y (by omega) h0
        refine ⟨Z, fun m hm => ?_, hyZ⟩
        have := (hsh Z hZ).1 m hm
        rw [this]
        exact hZ m hm
theorem best_pr (hadd : ∀ s k x, has (add s k) x = (has s x || x == k)) {em : S} (hem : ∀ x, has em x = false) (hnb : ∀ n, ∀ k ∈ nb n, k < N) : ∀ i, i ≤ N → Best nb N i (pr has add em nb N i).1 (pr has add em nb N i).2
  | 0, _ => best_start nb N
  | i + 1, hi => best_step hadd hem hnb (by omega) (best_pr hadd hem hnb i (by omega))

/-! ### reached from those that are paired with nobody behind them -/
/-- F: those that are reached; T: those behind them -/
structure Reach (nb : Nat → List Nat) (N : Nat) (ah bk : List Int) (F T : Nat → Prop) : Prop where
  begin : ∀ y, y < N → ah.getD y (-1) = -1 → F y
  on : ∀ x, F x → ∀ k ∈ nb x, T k
  back : ∀ k, T k → ∃ x : Nat, bk.getD k (-1) = (x : Int) ∧ F x
  from_ : ∀ x, F x → x < N ∧ (ah.getD x (-1) = -1 ∨ ∃ k : Nat, T k ∧ bk.getD k (-1) = (x : Int))
  lt : ∀ k, T k → k < N
/-- as many are reached and lie behind nobody reached as there are ends -/
theorem ends_le {F T : Nat → Prop} [DecidablePred F] [DecidablePred T] (hV : Val nb N ah bk) (hR : Reach nb N ah bk F T) :
    ((List.range N).filter fun y => decide (ah.getD y (-1) = -1)).length ≤ ((List.range N).filter fun y => decide (F y) && !decide (T y)).length := by
  -- the others are fewer than those that are paired
  have h1 : ((List.range N).filter fun y => !(decide (F y) && !decide (T y))).length ≤ ((List.range N).filter fun y => !decide (ah.getD y (-1) = -1)).length := by
    have hnd : (((List.range N).filter fun y => !(decide (F y) && !decide (T y))).map fun y => if F y then (bk.getD y (-1)).toNat else y).Nodup := by
      refine List.pairwise_map.2 ?_
      have hnd0 : ((List.range N).filter fun y => !(decide (F y) && !decide (T y))).Nodup := List.nodup_range.filter _
      refine List.Pairwise.imp_of_mem (fun {a b} ha hb hab => ?_) hnd0
      obtain ⟨ha1, ha2⟩ := List.mem_filter.1 ha
      obtain ⟨hb1, hb2⟩ := List.mem_filter.1 hb
      have ha1 := List.mem_range.1 ha1
      have hb1 := List.mem_range.1 hb1
      have tof : ∀ y, F y → (!(decide (F y) && !decide (T y))) = true → T y := fun y hF h => by
        rw [decide_eq_true hF] at h
        simpa using h
      by_cases hFa : F a <;> by_cases hFb : F b
      · rw [if_pos hFa, if_pos hFb]
        obtain ⟨x, hx, -⟩ := hR.back a (tof a hFa ha2)
        obtain ⟨z, hz, -⟩ := hR.back b (tof b hFb hb2)
        rw [hx, hz, Int.toNat_natCast, Int.toNat_natCast]
        intro e
        subst e
        have q1 := (hV.bw a x ha1 hx).2
        have q2 := (hV.bw b x hb1 hz).2
        exact hab (by omega)
      · rw [if_pos hFa, if_neg hFb]
        obtain ⟨x, hx, hFx⟩ := hR.back a (tof a hFa ha2)
        rw [hx, Int.toNat_natCast]
        intro e
        exact hFb (e ▸ hFx)
      · rw [if_neg hFa, if_pos hFb]
        obtain ⟨z, hz, hFz⟩ := hR.back b (tof b hFb hb2)
        rw [hz, Int.toNat_natCast]
        intro e
        exact hFa (e ▸ hFz)
      · rw [if_neg hFa, if_neg hFb]
        exact hab
    have := hnd.length_le_of_subset (l₂ := (List.range N).filter fun y => !decide (ah.getD y (-1) = -1)) (fun z hz => by
      obtain ⟨y, hy, rfl⟩ := List.mem_map.1 hz
      obtain ⟨hy1, hy2⟩ := List.mem_filter.1 hy
      have hy1 := List.mem_range.1 hy1
      by_cases hF : F y
      · rw [if_pos hF]
        have hT : T y := by
          rw [decide_eq_true hF] at hy2
          simpa using hy2
        obtain ⟨x, hx, -⟩ := hR.back y hT
        obtain ⟨q1, q2⟩ := hV.bw y x hy1 hx
        rw [hx, Int.toNat_natCast]
        exact List.mem_filter.2 ⟨List.mem_range.2 q1, by rw [decide_eq_false (by omega)]; rfl⟩
      · rw [if_neg hF]
        exact List.mem_filter.2 ⟨List.mem_range.2 hy1, by rw [decide_eq_false (fun e => hF (hR.begin y hy1 e))]; rfl⟩)
    simpa using this
  have key : ∀ (p : Nat → Bool) (l : List Nat), (l.filter p).length + (l.filter fun y => !p y).length = l.length := by
    intro p l
    induction l with
    | nil => rfl
    | cons a l ih =>
      cases h : p a
      · rw [List.filter_cons_of_neg (by simp [h]), List.filter_cons_of_pos (by simp [h]), List.length_cons, List.length_cons]; omega
      · rw [List.filter_cons_of_pos h, List.filter_cons_of_neg (by simp [h]), List.length_cons, List.length_cons]; omega
  have k1 := key (fun y => decide (F y) && !decide (T y)) (List.range N)
  have k2 := key (fun y => decide (ah.getD y (-1) = -1)) (List.range N)
  omega

/-! ### chains -/
/-- the end of the chain that goes through a -/
def chain (ah : List Int) : Nat → Nat → Nat
  | 0, a => a
  | i + 1, a => (ah.getD (chain ah i a) (-1)).toNat
theorem chain_add (i j a : Nat) : chain ah (i + j) a = chain ah j (chain ah i a) := by
  induction j with
  | zero => rfl
  | succ j ih => show (ah.getD (chain ah (i + j) a) (-1)).toNat = _; rw [ih]; rfl
/-- i steps up to an end -/
structure End (ah : List Int) (i a : Nat) : Prop where
  on : ∀ j, j < i → ∃ k : Nat, ah.getD (chain ah j a) (-1) = (k : Int)
  last : ah.getD (chain ah i a) (-1) = -1
theorem chain_end (hV : Val nb N ah bk) (r : Nat → Nat) (hr : ∀ x, ∀ k ∈ nb x, r x < r k) (hrN : ∀ x, x < N → r x < N) : ∀ (f a : Nat), a < N → N - r a ≤ f → ∃ i, End ah i a := by
  intro f
  induction f with
  | zero => intro a ha hf; have := hrN a ha; omega
  | succ f ih =>
    intro a ha hf
    rcases neg_of hV.lowA a with h0 | ⟨k, hk⟩
    · exact ⟨0, fun j hj => by omega, h0⟩
    · obtain ⟨q1, q2, -⟩ := hV.fw a k ha hk
      have := hr a k q2
      obtain ⟨i, hi⟩ := ih k q1 (by omega)
      have e1 : chain ah 1 a = k := by show (ah.getD a (-1)).toNat = k; rw [hk, Int.toNat_natCast]
      have e2 : ∀ j, chain ah (j + 1) a = chain ah j k := fun j => by rw [Nat.add_comm, chain_add, e1]
      refine ⟨i + 1, fun j hj => ?_, by rw [e2]; exact hi.last⟩
      cases j with
      | zero => exact ⟨k, hk⟩
      | succ j => rw [e2]; exact hi.on j (by omega)
theorem chain_lt (hV : Val nb N ah bk) {i a : Nat} (ha : a < N) (h : ∀ j, j < i → ∃ k : Nat, ah.getD (chain ah j a) (-1) = (k : Int)) : ∀ j, j ≤ i → chain ah j a < N ∧ (0 < j → ∀ htr : (∀ x y z, y ∈ nb x → z ∈ nb y → z ∈ nb x), chain ah j a ∈ nb a) := by
  intro j
  induction j with
  | zero => intro _; exact ⟨ha, fun h => by omega⟩
  | succ j ih =>
    intro hj
    obtain ⟨h1, h2⟩ := ih (by omega)
    obtain ⟨k, hk⟩ := h j (by omega)
    have e : chain ah (j + 1) a = k := by show (ah.getD (chain ah j a) (-1)).toNat = k; rw [hk, Int.toNat_natCast]
    obtain ⟨q1, q2, -⟩ := hV.fw _ k h1 hk
    rw [e]
    refine ⟨q1, fun _ htr => ?_⟩
    cases j with
    | zero => exact q2
    | succ j => exact htr a _ k (h2 (by omega) htr) q2
/-- of two whose chains meet, one lies in the other's -/
theorem chain_meet (hV : Val nb N ah bk) : ∀ (i j a b : Nat), a < N → b < N → (∀ m, m < i → ∃ k : Nat, ah.getD (chain ah m a) (-1) = (k : Int)) → (∀ m, m < j → ∃ k : Nat, ah.getD (chain ah m b) (-1) = (k : Int)) → i ≤ j → chain ah i a = chain ah j b → a = chain ah (j - i) b := by
  intro i
  induction i with
  | zero => intro j a b _ _ _ _ _ h; exact h
  | succ i ih =>
    intro j a b ha hb hA hB hij h
    obtain ⟨j, rfl⟩ : ∃ j', j = j' + 1 := ⟨j - 1, by omega⟩
    obtain ⟨k, hk⟩ := hA i (by omega)
    obtain ⟨m, hm⟩ := hB j (by omega)
    have e1 : chain ah (i + 1) a = k := by show (ah.getD (chain ah i a) (-1)).toNat = k; rw [hk, Int.toNat_natCast]
    have e2 : chain ah (j + 1) b = m := by show (ah.getD (chain ah j b) (-1)).toNat = m; rw [hm, Int.toNat_natCast]
    rw [e1, e2] at h
    subst h
    have l1 := (chain_lt hV ha (fun m hm => hA m (by omega)) i (Nat.le_refl _)).1
    have l2 := (chain_lt hV hb (fun m hm => hB m (by omega)) j (Nat.le_refl _)).1
    obtain ⟨-, -, q1⟩ := hV.fw _ k l1 hk
    obtain ⟨-, -, q2⟩ := hV.fw _ k l2 hm
    have : chain ah i a = chain ah j b := by omega
    have := ih j a b ha hb (fun m hm => hA m (by omega)) (fun m hm => hB m (by omega)) (by omega) this
    rw [show j + 1 - (i + 1) = j - i by omega]
    exact this
/-- no more are apart than there are ends -/
theorem apart_le (hV : Val nb N ah bk) (r : Nat → Nat) (hr : ∀ x, ∀ k ∈ nb x, r x < r k) (hrN : ∀ x, x < N → r x < N) (htr : ∀ x y z, y ∈ nb x → z ∈ nb y → z ∈ nb x) {A : List Nat} (hnd : A.Nodup) (hlt : ∀ a ∈ A, a < N) (hap : ∀ a ∈ A, ∀ b ∈ A, b ∉ nb a) :
    A.length ≤ ((List.range N).filter fun y => decide (ah.getD y (-1) = -1)).length := by
  have hE : ∀ a, ∃ i, a < N → End ah i a := fun a => by
    by_cases ha : a < N
    · obtain ⟨i, hi⟩ := chain_end hV r hr hrN N a ha (by omega)
      exact ⟨i, fun _ => hi⟩
    · exact ⟨0, fun h => absurd h ha⟩
  obtain ⟨e, he⟩ := Classical.axiomOfChoice hE
  have hnd2 : (A.map fun a => chain ah (e a) a).Nodup := by
    refine List.pairwise_map.2 (List.Pairwise.imp_of_mem (fun {a b} ha hb hab h => hab ?_) hnd)
    have ha1 := hlt a ha
    have hb1 := hlt b hb
    have Ea := he a ha1
    have Eb := he b hb1
    rcases Nat.le_total (e a) (e b) with hle | hle
    · have q := chain_meet hV (e a) (e b) a b ha1 hb1 Ea.on Eb.on hle h
      by_cases h0 : e b - e a = 0
      · rw [h0] at q; exact q
      · have := (chain_lt hV hb1 Eb.on (e b - e a) (by omega)).2 (by omega) htr
        rw [← q] at this
        exact absurd this (hap b hb a ha)
    · have q := chain_meet hV (e b) (e a) b a hb1 ha1 Eb.on Ea.on hle h.symm
      by_cases h0 : e a - e b = 0
      · rw [h0] at q; exact q.symm
      · have := (chain_lt hV ha1 Ea.on (e a - e b) (by omega)).2 (by omega) htr
        rw [← q] at this
        exact absurd this (hap a ha b hb)
  have := hnd2.length_le_of_subset (l₂ := (List.range N).filter fun y => decide (ah.getD y (-1) = -1)) (fun z hz => by
    obtain ⟨a, ha, rfl⟩ := List.mem_map.1 hz
    have Ea := he a (hlt a ha)
    exact List.mem_filter.2 ⟨List.mem_range.2 (chain_lt hV (hlt a ha) Ea.on (e a) (Nat.le_refl _)).1, decide_eq_true Ea.last⟩)
  simpa using this
end
end Go.Proofs.YtfjmhmfkhgjnhaaDoor.Mt


namespace Go.Proofs.YtfjmhmfkhgjnhaaDoor
set_option linter.unusedVariables false
set_option linter.unusedSimpArgs false
set_option maxRecDepth 100000
open Go.RowKit Go.Shelf

attribute [local go_sem] Oper.semAt_some

theorem all1_gen (m l qb cap : Nat) (A : Option Addr) (xs : List Nat) (hws : Bs.Ws xs) (hreach : xs.length ≤ 17592186044416) (J Jx : List Nat → World → Prop) (Kp : World → World → Prop) (hKr : ∀ w, Kp w w) (hKt : ∀ {a b c : World}, Kp a b → Kp b c → Kp a c)
    (hY : ∀ pre x W, x ∈ Bs.ls 0 xs → J pre W → pre.length < (Bs.ls 0 xs).length → YieldAt Fence.wide m Tryd.prog l #[.int .i64 ((x : Nat) : Int)] W fun e W' =>
      (e = .returned (.bool true) ∧ J (pre ++ [x]) W' ∧ Kp W W') ∨ (e = .returned (.bool false) ∧ Jx (pre ++ [x]) W'))
    (W : World) (hcb : ∀ wr, Kp W wr → wr.cell? ⟨qb, 0, none⟩ = some (.slice A xs.length cap)) (hcc : ∀ wr, Kp W wr → ∃ B, Cells wr B A (nats xs)) (hTT : ∀ wr, Kp W wr → Tab wr) (h0 : J [] W) :
    CallsIn Fence.wide (m + 1) Tryd.prog 65 #[.func (.yield l) #[] #[], .pointer (some ⟨qb, 0, none⟩)] W fun e W' => (∃ v, e = .returned v) ∧
      ((J (Bs.ls 0 xs) W') ∨ (∃ pre, Jx pre W')) := by
  refine callsIn_of_wp Tryd.func65 rfl trivial ?_ rfl
  simp only [Tryd.ntmps65, List.size_toArray, List.length_cons, List.length_nil, Nat.reduceAdd, Nat.reduceSub, Array.replicate_succ, Array.replicate_zero, List.push_toArray, List.append_toArray, List.nil_append, List.cons_append]
  have hqb := hcb W (hKr W)
  gi_wp2
  gi_loopw [7] (fun i wr => ∃ k : Nat, k ≤ xs.length ∧ i = .int .i64 (k : Int) ∧ J (Bs.ls 0 (xs.take k)) wr ∧ Kp W wr) (fun i _ => xs.length - (intOf i).toNat)
  case atStart => exact ⟨0, Nat.zero_le _, rfl, h0, hKr _⟩
  case round =>
    clear hqb h0
    obtain ⟨k, hk, rfl, hJ, hK⟩ := hrel
    by_cases hlt : k < xs.length
    · obtain ⟨x, hx⟩ : ∃ x, xs[k]? = some x := ⟨_, List.getElem?_eq_getElem hlt⟩
      obtain ⟨B0, hc0⟩ := hcc wr hK
      obtain ⟨b, o, rfl, hb, hcx⟩ := hc0.nat hx
      clear hb hc0
      have HX := Lib.hid hx
      clear hx
      gi_wp2
      have hxw : x < 18446744073709551616 := hws x (List.mem_of_getElem? HX.out)
      have hsn : Bs.ls 0 (xs.take (k + 1)) = Bs.ls 0 (xs.take k) ++ (Bs.bl x).map (64 * k + ·) := by
        obtain ⟨h', hx'⟩ := List.getElem?_eq_some_iff.1 HX.out
        rw [List.take_succ_eq_append_getElem h', hx', Bs.ls_snoc, List.length_take, Nat.min_eq_left (by omega)]
      have hcount : ∀ m ≤ ((Bs.bl x).map (64 * k + ·)).length, m < ((Bs.bl x).map (64 * k + ·)).length → (Bs.ls 0 (xs.take k)).length + m < (Bs.ls 0 xs).length := fun m _ hm => by
        have e : xs = xs.take (k + 1) ++ xs.drop (k + 1) := (List.take_append_drop _ _).symm
        have : (Bs.ls 0 xs).length = (Bs.ls 0 (xs.take (k + 1))).length + (Bs.ls (0 + (xs.take (k + 1)).length) (xs.drop (k + 1))).length := by
          conv => lhs; rw [e, Bs.ls_append]
          rw [List.length_append]
        rw [this, hsn, List.length_append]
        omega
      have hmem : ∀ z ∈ (Bs.bl x).map (64 * k + ·), z ∈ Bs.ls 0 xs := fun z hz => by
        have e : xs = xs.take (k + 1) ++ xs.drop (k + 1) := (List.take_append_drop _ _).symm
        rw [e, Bs.ls_append]
        exact List.mem_append_left _ (by rw [hsn]; exact List.mem_append_right _ hz)
      have HSN := Lib.hid (And.intro hsn (And.intro hcount hmem))
      clear hsn hcount hmem hcb hcc
      obtain ⟨wo, rfl⟩ : ∃ wo : World, wo = wr := ⟨_, rfl⟩
      gi_loopw [4] (fun i wr => ∃ (v : Nat) (dn : List Nat), i = .int .u64 (v : Int) ∧ v < 18446744073709551616 ∧ dn ++ (Bs.bl v).map (64 * k + ·) = (Bs.bl x).map (64 * k + ·) ∧ J (Bs.ls 0 (xs.take k) ++ dn) wr ∧ Kp W wr) (fun i _ => (intOf i).toNat)
      case atStart => exact ⟨x, [], rfl, hxw, rfl, by rw [List.append_nil]; exact hJ, hK⟩
      case round =>
        clear hJ hK hxw
        obtain ⟨v, dn, rfl, hv, hd, hJ, hK⟩ := hrel
        have HD := Lib.hid hd
        clear hd
        rcases hz : ((v : Int) != 0) with _ | _
        · have HV := Lib.hid (show v = 0 by simpa using hz)
          gi_wp2
          go_roundw
          case rel => exact ⟨k + 1, by omega, by go_num, by
            have h := HD.out
            rw [HV.out, Bs.bl_zero, List.map_nil, List.append_nil] at h
            rw [HSN.out.1, ← h]
            exact hJ, hK⟩
          case measure => simp [intOf]; omega
        · have hv0 : v ≠ 0 := by simpa using hz
          have HV := Lib.hid hv0
          clear hv0
          gi_wp2_with fail
          refine ⟨trivial, (callsIn_wide.2 (tz_any _ v hv HV.out (hTT _ hK))).mono ?_⟩
          rintro e w1 ⟨rfl, rfl⟩
          obtain ⟨-, -, hc64, -⟩ := Bs.low HV.out hv
          have hbl := Bs.bl_pos HV.out
          have hclr := and_pred v hv HV.out
          have hcl := Bs.clear_low HV.out
          have hd := HD.out
          rw [hbl, List.map_cons] at hd
          have hlen : dn.length < ((Bs.bl x).map (64 * k + ·)).length := by rw [← hd, List.length_append, List.length_cons]; omega
          obtain ⟨fn, tmps, assign, body, hy, hR⟩ := hY _ (64 * k + Lib.ctz 64 v) w1 (HSN.out.2.2 _ (by rw [← hd]; simp)) hJ (by rw [List.length_append]; exact HSN.out.2.1 _ (Nat.le_of_lt hlen) hlen)
          obtain ⟨c, hc⟩ : ∃ c, c = Lib.ctz 64 v := ⟨_, rfl⟩
          rw [← hc] at hc64 hd hy hR ⊢
          rw [show ((64 * k + c : Nat) : Int) = 64 * (k : Int) + (c : Int) by omega] at hy
          have HC := Lib.hid (And.intro hclr (And.intro hcl hd))
          clear hbl hclr hcl hd hlen hc HD
          gi_wp2
          refine hR.mono ?_
          rintro e W3 (⟨rfl, hJ3, hk3⟩ | ⟨rfl, hJx3⟩)
          · gi_wp2
            go_roundw
            case rel => exact ⟨v &&& (v - 1), dn ++ [64 * k + c], by rw [HC.out.1], Bs.clear_lt hv, by rw [List.append_assoc]; exact HC.out.2.2, by rw [← List.append_assoc]; exact hJ3, hKt hK hk3⟩
            case measure => simp only [intOf, HC.out.1]; have := HC.out.2.1; simp; omega
          · gi_wp2
            refine bodyPost_ret (results_none rfl _ _ _) rfl ?_
            exact ⟨⟨_, rfl⟩, .inr ⟨_, hJx3⟩⟩
    · have HK := Lib.hid (show k = xs.length by omega)
      gi_wp2
      go_end0
      exact ⟨⟨_, rfl⟩, .inl (by have := hJ; rw [HK.out, List.take_length] at this; exact this)⟩

/-- the loop's body is told that what comes is in the set -/
theorem all_gen_stops (m qb cap : Nat) (A : Option Addr) (xs : List Nat) (hws : Bs.Ws xs) (hreach : xs.length ≤ 17592186044416) (Kp : World → World → Prop) (hKr : ∀ w, Kp w w) (hKt : ∀ {a b c : World}, Kp a b → Kp b c → Kp a c) (w : World)
    (hcb : ∀ W wr, Below w.heap.size w W → Kp W wr → wr.cell? ⟨qb, 0, none⟩ = some (.slice A xs.length cap)) (hcc : ∀ W wr, Below w.heap.size w W → Kp W wr → ∃ B, Cells wr B A (nats xs)) (hTT : ∀ W wr, Below w.heap.size w W → Kp W wr → Tab wr) :
    SeqStopsK Fence.wide (m + 1) Tryd.prog 65 #[.pointer (some ⟨qb, 0, none⟩)] (fun x : { x : Nat // x ∈ Bs.ls 0 xs } => #[Value.int .i64 ((x.1 : Nat) : Int)]) Kp (fun ys => ys.map (·.1) = Bs.ls 0 xs) (fun _ => True) (Bs.ls 0 xs).length w := fun l J Jx W hW _ _ hY h0 => by
  refine (all1_gen m l qb cap A xs hws hreach (fun l W => ∃ la : List { x : Nat // x ∈ Bs.ls 0 xs }, la.map (·.1) = l ∧ J la W) (fun l W => ∃ la : List { x : Nat // x ∈ Bs.ls 0 xs }, la.map (·.1) = l ∧ Jx la W) Kp hKr hKt (fun pre x W1 hx hJ hlt => ?_) W (fun wr hk => hcb W wr hW hk) (fun wr hk => hcc W wr hW hk) (fun wr hk => hTT W wr hW hk) ⟨[], rfl, h0⟩).mono ?_
  · obtain ⟨la, rfl, hJ⟩ := hJ
    have := hY la ⟨x, hx⟩ W1 hJ (by simpa using hlt)
    obtain ⟨fn, tmps, assign, body, hy, hR⟩ := this
    refine ⟨fn, tmps, assign, body, hy, hR.mono ?_⟩
    rintro e W' (⟨h1, h2, h3⟩ | ⟨h1, h2⟩)
    · exact .inl ⟨h1, ⟨_, by simp, h2⟩, h3⟩
    · exact .inr ⟨h1, _, by simp, h2⟩
  · rintro e W' ⟨he, ⟨la, h1, h2⟩ | ⟨pre, la, h1, h2⟩⟩
    · exact ⟨he, .inl ⟨_, h1, h2⟩⟩
    · exact ⟨he, .inr ⟨_, trivial, h2⟩⟩

theorem all_gen (m : Nat) (a : Option Addr) (len cap : Nat) (w : World) :
    CallsIn Fence.wide (m + 1) Tryd.prog 46 #[.slice a len cap] w fun e w' => e = .returned (.func (.func 65) #[] #[.pointer (some ⟨w.heap.size, 0, none⟩)]) ∧ w' = w.alloc (.cells #[.slice a len cap] 78) := by
  refine callsIn_of_wp Tryd.func46 rfl trivial ?_ rfl
  simp only [Tryd.ntmps46, List.size_toArray, List.length_cons, List.length_nil, Nat.reduceAdd, Nat.reduceSub, Array.replicate_succ, Array.replicate_zero, List.push_toArray, List.append_toArray, List.nil_append, List.cons_append]
  gi_wp2
  go_ret
  exact ⟨rfl, rfl⟩
end Go.Proofs.YtfjmhmfkhgjnhaaDoor


namespace Go.Proofs.YtfjmhmfkhgjnhaaDoor
set_option linter.unusedVariables false
set_option linter.unusedSimpArgs false
set_option maxRecDepth 100000
open Go.RowKit Go.Shelf

attribute [local go_sem] Oper.semAt_some

def Nums (w w' : World) : Prop := w.heap.size ≤ w'.heap.size ∧ ∀ (p : Addr) (k : IntKind) (x : Int), w.cell? p = some (.int k x) → w'.cell? p = some (.int k x)
theorem Nums.refl (w : World) : Nums w w := ⟨Nat.le_refl _, fun _ _ _ h => h⟩
theorem Nums.trans {a b c : World} (h : Nums a b) (k : Nums b c) : Nums a c := ⟨Nat.le_trans h.1 k.1, fun p i x hx => k.2 p i x (h.2 p i x hx)⟩
theorem Nums.of_below {w w' : World} (h : Below w.heap.size w w') : Nums w w' := ⟨h.size, fun p _ _ hx => (h.cell (World.block_lt_of_cell? w p hx)).trans hx⟩
theorem Cells.nums {w w' : World} {B : Nat} {A : Option Addr} {xs : List Nat} (h : Cells w B A (nats xs)) (hB : B ≤ w.heap.size) (hn : Nums w w') : Cells w' w'.heap.size A (nats xs) := by
  by_cases hx : xs = []
  · subst hx; exact Cells.nil _ _ _
  obtain ⟨b, o, hA, hb, hc⟩ := h.at_ (fun e => hx (by simpa [nats] using e))
  refine ⟨b, o, fun _ => ⟨hA, by have := hn.1; omega⟩, fun j u hu => ?_⟩
  have hu' := hu
  simp only [nats, List.getElem?_map, Option.map_eq_some_iff] at hu'
  obtain ⟨y, -, rfl⟩ := hu'
  exact hn.2 _ _ _ (hc j _ hu)
theorem SlU.nums {w w' : World} {v : Value} {xs : List Nat} (h : SlU w v xs) (hn : Nums w w') : SlU w' v xs := by
  obtain ⟨⟨A, c, rfl, h1, h2, h3, h4⟩, hw⟩ := h
  exact ⟨⟨A, c, rfl, h1, h2, h3, h4.nums (Nat.le_refl _) hn⟩, hw⟩
theorem Tab.nums {w w' : World} (h : Tab w) (hn : Nums w w') : Tab w' := fun j hj => hn.2 _ _ _ (h j hj)
/-! ### a range over a function within a plain loop: a mark for each round -/
def markOf (D : Nat) : Deferred := { target := .collected D, args := #[] }
theorem leaves_marks {F : Fence} {n : Nat} {P : Program} {fn : Func} {tmps : Array Value} {R : Ending → World → Prop} (b : Nat) (T : World → Prop)
    (hT : ∀ W D, b ≤ D → T W → W.heap[D]? = some (.deferred (some [])) → T (W.putObj D (.deferred none))) (hend : ∀ W, T W → LeavesInM F n P fn tmps R [] .returning W) :
    ∀ (Ds : List Nat) (W : World), Ds.Nodup → (∀ D ∈ Ds, b ≤ D ∧ W.heap[D]? = some (.deferred (some []))) → T W → LeavesInM F n P fn tmps R (Ds.map markOf) .returning W
  | [], W, _, _, h => hend W h
  | D :: Ds, W, hn, hD, h => by
    obtain ⟨h1, h2⟩ := hD D List.mem_cons_self
    have hn' := List.nodup_cons.1 hn
    refine ⟨by simp, .inl ⟨D, _, rfl, run_takeDeferred h2, ?_⟩⟩
    refine leaves_marks b T hT hend Ds _ hn'.2 (fun D' hD' => ?_) (hT _ _ h1 h h2)
    obtain ⟨h3, h4⟩ := hD D' (List.mem_cons_of_mem _ hD')
    exact ⟨h3, (World.putObj_heap_other (fun e => hn'.1 (by subst e; exact hD'))).trans h4⟩

/-- of the blocks below p all are as they were; and so is a box -/
def KpQ (p q : Nat) (A B : World) : Prop := A.heap.size ≤ B.heap.size ∧ (∀ k, k < p → B.heap[k]? = A.heap[k]?) ∧ ∀ v, Boxed A q 78 v → Boxed B q 78 v
theorem KpQ.refl (p q : Nat) (A : World) : KpQ p q A A := ⟨Nat.le_refl _, fun _ _ => rfl, fun _ h => h⟩
theorem KpQ.trans {p q : Nat} {A B C : World} (h : KpQ p q A B) (k : KpQ p q B C) : KpQ p q A C := ⟨Nat.le_trans h.1 k.1, fun i hi => (k.2.1 i hi).trans (h.2.1 i hi), fun v hv => k.2.2 v (h.2.2 v hv)⟩
theorem KpQ.put {p q : Nat} {W : World} {l : Nat} {o o' : Obj} (hl : p ≤ l) (h : W.heap[l]? = some o) (ho : o.isCells = false) : KpQ p q W (W.putObj l o') := by
  have hg := grownBy_putObj' W l o'
  refine ⟨hg.size, fun k hk => hg.block k (by have := (Array.getElem?_eq_some_iff.1 h).1; omega) (fun e => by cases e; omega), fun v hv => hv.kept hg fun e => ?_⟩
  injection e with e
  subst e
  rw [show W.heap[q]? = _ from hv] at h
  cases h
  cases ho
end Go.Proofs.YtfjmhmfkhgjnhaaDoor


namespace Go.Proofs.YtfjmhmfkhgjnhaaDoor
set_option linter.unusedVariables false
set_option linter.unusedSimpArgs false
set_option maxRecDepth 100000
open Go.RowKit Go.Shelf

def SwR (w : World) (g : Nat) (L : List (List Nat)) : Prop := ∃ vs : List Value, vs.length = L.length ∧ Blk w g 65 vs ∧ ∀ (i : Nat) (v : Value) (s : List Nat), vs[i]? = some v → L[i]? = some s → SlU w v s
theorem SwR.lt {w : World} {g : Nat} {L : List (List Nat)} (h : SwR w g L) : g < w.heap.size := by
  obtain ⟨vs, h1, h2, h3⟩ := h
  exact h2.lt
/-- no number lies in it -/
theorem SwR.no_num {w : World} {g : Nat} {L : List (List Nat)} (h : SwR w g L) {p : Addr} {k : IntKind} {x : Int} (hp : w.cell? p = some (.int k x)) : p.block ≠ g := by
  obtain ⟨vs, h1, h2, h3⟩ := h
  intro e
  have hc : p = ⟨g, p.off, none⟩ := by
    obtain ⟨b, o, s⟩ := p
    have := World.cell?_spot hp
    simp only at e this
    rw [e, this]
  rw [hc, h2.cell] at hp
  obtain ⟨s, hs⟩ : ∃ s, L[p.off]? = some s := ⟨_, List.getElem?_eq_getElem (by have := (List.getElem?_eq_some_iff.1 hp).1; omega)⟩
  obtain ⟨A, c, hv⟩ := slU_form (h3 _ _ _ hp hs)
  cases hv
theorem SwR.nums_of {w w' : World} {g : Nat} {L : List (List Nat)} (h : SwR w g L) (hk : Keeps (fun k => k = g) w w') : Nums w w' :=
  ⟨hk.size, fun p _ _ hp => (World.cell?_of_block (hk.block _ (World.block_lt_of_cell? w p hp) (h.no_num hp))).trans hp⟩
theorem SwR.keep {w w' : World} {g : Nat} {L : List (List Nat)} (h : SwR w g L) (hn : Nums w w') (hb : w'.heap[g]? = w.heap[g]?) : SwR w' g L := by
  obtain ⟨vs, h1, h2, h3⟩ := h
  exact ⟨vs, h1, hb.trans h2, fun i v s hv hs => (h3 i v s hv hs).nums hn⟩
theorem SwR.below {w w' : World} {g : Nat} {L : List (List Nat)} (h : SwR w g L) (hb : Below w.heap.size w w') : SwR w' g L := h.keep (Nums.of_below hb) (hb.block g h.lt)
theorem nums_own {W W' : World} {row : Option Nat} (hg : W.grownBy W' row) (hr : ∀ r, row = some r → ∃ o : Obj, W.heap[r]? = some o ∧ o.isCells = false) : Nums W W' := ⟨hg.size, fun _ _ _ hx => cell_kept hx hg hr⟩
theorem SwR.own {β : Type} {g : Nat} (L : β → List (List Nat)) : Go.Own (fun s W => SwR W g (L s)) := fun s W W' row h hg hr =>
  h.keep (nums_own hg hr) (hg.block g h.lt (fun e => by
    obtain ⟨o, ho, hc⟩ := hr g e.symm
    obtain ⟨vs, h1, h2, h3⟩ := h
    unfold Blk at h2
    rw [h2] at ho
    cases ho
    cases hc))
/-- one row is put anew -/
theorem SwR.put {w w' : World} {g i : Nat} {L : List (List Nat)} {s : List Nat} {u : Value} (h : SwR w g L) (hu : SlU w u s) {vs : List Value} (hv : Blk w g 65 vs) (hB : Blk w' g 65 (vs.set i u)) (hg : w.grownBy w' (some g)) : SwR w' g (L.set i s) := by
  have hn := h.nums_of (Keeps.mono (Keeps.of_grown hg) (fun k hk => by injection hk))
  obtain ⟨vs', h1, h2, h3⟩ := h
  have e : vs' = vs := by
    unfold Blk at hv h2
    rw [h2] at hv
    injection hv with hv
    injection hv with hv
    exact congrArg Array.toList hv
  subst e
  refine ⟨_, by rw [List.length_set, List.length_set]; exact h1, hB, fun j v t hj ht => ?_⟩
  rw [List.getElem?_set] at hj ht
  split at hj
  · rename_i e
    subst e
    rw [if_pos rfl] at ht
    split at hj
    · injection hj with hj
      subst hj
      rw [if_pos (by omega)] at ht
      injection ht with ht
      subst ht
      exact hu.nums hn
    · cases hj
  · rename_i e
    rw [if_neg e] at ht
    exact (h3 j v t hj ht).nums hn
theorem ownFrom_keeps {β : Type} {S : Nat → Prop} {B : Nat} {w₀ : World} (hB : w₀.heap.size ≤ B) : OwnFrom B (fun (_ : β) W => Keeps S w₀ W) := fun _ X Y row hs hg hr =>
  hs.step (Keeps.of_grown hg) fun i hi e => by have := (hr i e.symm).1; omega
theorem kpP_of_keeps {n₀ g : Nat} {W W' : World} (h : Keeps (fun k => k = g) W W') (hn : n₀ ≤ W.heap.size) : KpP n₀ g W W' := ⟨h.size, fun k hk hne => h.block k (by omega) hne⟩
theorem SwR.slW {w : World} {g : Nat} {L : List (List Nat)} (h : SwR w g L) (hL : L.length ≤ maxLen) : SlW w (.slice (some ⟨g, 0, none⟩) L.length L.length) L := by
  have hlt := h.lt
  obtain ⟨vs, h1, h2, h3⟩ := h
  refine ⟨vs, ⟨_, _, rfl, Nat.le_refl _, hL, by omega, g, 0, fun _ => ⟨rfl, hlt⟩, fun j u hu => by rw [Nat.zero_add, h2.cell]; exact hu⟩, h3⟩
end Go.Proofs.YtfjmhmfkhgjnhaaDoor


namespace Go.Proofs.YtfjmhmfkhgjnhaaDoor
set_option linter.unusedVariables false
set_option linter.unusedSimpArgs false
set_option maxRecDepth 100000
open Go.RowKit Go.Shelf

namespace Mt
section
variable {S : Type} {has : S → Nat → Bool} {add : S → Nat → S}
/-- what comes first, then the rest -/
theorem go_app (rec : Nat → St S → Bool × St S) (n : Nat) : ∀ (a b : List Nat) (st : St S), go has add rec n (a ++ b) st = if (go has add rec n a st).1 then go has add rec n a st else go has add rec n b (go has add rec n a st).2
  | [], b, st => rfl
  | k :: a, b, st => by
    simp only [List.cons_append, go]
    split
    · exact go_app rec n a b st
    · split
      · simp
      · split
        · simp
        · exact go_app rec n a b _
end
/-- those behind n, as the set lists them -/
def nbW (B : List (List Nat)) (n : Nat) : List Nat := Bs.ls 0 (B.getD n [])
def frW (B : List (List Nat)) (f n : Nat) (st : St (List Nat)) : Bool × St (List Nat) := fr Bs.bit Bs.put (nbW B) f n st
def goW (B : List (List Nat)) (f n : Nat) (ks : List Nat) (st : St (List Nat)) : Bool × St (List Nat) := go Bs.bit Bs.put (fr Bs.bit Bs.put (nbW B) f) n ks st
theorem frW_succ (B : List (List Nat)) (f n : Nat) (st : St (List Nat)) : frW B (f + 1) n st = goW B f n (nbW B n) st := rfl
theorem goW_nil (B : List (List Nat)) (f n : Nat) (st : St (List Nat)) : goW B f n [] st = (false, st) := rfl
/-- one step on -/
def oneW (B : List (List Nat)) (f n k : Nat) (st : St (List Nat)) : Bool × St (List Nat) :=
  if Bs.bit st.sn k then (false, st) else if bkO (look Bs.put st k) k < 0 then (true, link (look Bs.put st k) n k)
  else if (frW B f (bkO st k).toNat (look Bs.put st k)).1 then (true, link (frW B f (bkO st k).toNat (look Bs.put st k)).2 n k) else (false, (frW B f (bkO st k).toNat (look Bs.put st k)).2)
theorem goW_snoc {B : List (List Nat)} {f n : Nat} {a : List Nat} {st : St (List Nat)} (h : (goW B f n a st).1 = false) (k : Nat) : goW B f n (a ++ [k]) st = oneW B f n k (goW B f n a st).2 := by
  unfold goW at h ⊢
  rw [go_app, h]
  simp only [Bool.false_eq_true, if_false]
  simp only [go, oneW, frW]
  rfl
theorem goW_stop {B : List (List Nat)} {f n : Nat} {a b : List Nat} {st : St (List Nat)} (h : (goW B f n a st).1 = true) : goW B f n (a ++ b) st = goW B f n a st := by
  unfold goW at h ⊢
  rw [go_app, h]
  rfl
theorem fr_sn {B : List (List Nat)} (f n : Nat) (st : St (List Nat)) : ∀ x, Bs.bit st.sn x = true → Bs.bit (frW B f n st).2.sn x = true := fr_seen (has := Bs.bit) (add := Bs.put) (nb := nbW B) Bs.bit_put f n st
theorem goW_sn {B : List (List Nat)} {f n : Nat} : ∀ (a : List Nat) (st : St (List Nat)) (x : Nat), Bs.bit st.sn x = true → Bs.bit (goW B f n a st).2.sn x = true
  | [], st, x, h => h
  | k :: a, st, x, h => by
    have h' : Bs.bit (look Bs.put st k).sn x = true := by show Bs.bit (Bs.put st.sn k) x = true; rw [Bs.bit_put, h]; rfl
    have e : goW B f n (k :: a) st = go Bs.bit Bs.put (fr Bs.bit Bs.put (nbW B) f) n (k :: a) st := rfl
    rw [e]
    unfold go
    split
    · exact goW_sn a st x h
    · split
      · exact h'
      · split
        · exact fr_sn f _ _ x h'
        · exact goW_sn a _ x (fr_sn f _ _ x h')
end Mt

/-- what is in the rows may be -/
structure MtOkS (N : Nat) (st : Mt.St (List Nat)) : Prop where
  lenA : st.ah.length = N
  lenB : st.bk.length = N
  lowA : ∀ v ∈ st.ah, -1 ≤ v ∧ v < (N : Int)
  lowB : ∀ v ∈ st.bk, -1 ≤ v ∧ v < (N : Int)
  gs : Bs.Gs N st.sn
theorem MtOkS.link {N : Nat} {st : Mt.St (List Nat)} (h : MtOkS N st) {n k : Nat} (hn : n < N) (hk : k < N) : MtOkS N (Mt.link st n k) :=
  ⟨by simp [Mt.link, h.lenA], by simp [Mt.link, h.lenB], fun v hv => by
    rcases List.mem_or_eq_of_mem_set hv with hv | rfl
    · exact h.lowA v hv
    · omega, fun v hv => by
    rcases List.mem_or_eq_of_mem_set hv with hv | rfl
    · exact h.lowB v hv
    · omega, h.gs⟩
theorem MtOkS.look {N : Nat} {st : Mt.St (List Nat)} (h : MtOkS N st) {k : Nat} (hk : k < N) : MtOkS N (Mt.look Bs.put st k) := ⟨h.lenA, h.lenB, h.lowA, h.lowB, h.gs.put hk⟩

/-- the blocks: the struct's, the two rows', the set's; all behind those of w0, ahead of lim -/
structure MtG (w0 : World) (gm ga gb gs lim : Nat) : Prop where
  lo : w0.heap.size ≤ gm ∧ w0.heap.size ≤ ga ∧ w0.heap.size ≤ gb ∧ w0.heap.size ≤ gs
  hi : gm < lim ∧ ga < lim ∧ gb < lim ∧ gs < lim
  ne : ga ≠ gb ∧ ga ≠ gm ∧ gb ≠ gm ∧ gs ≠ ga ∧ gs ≠ gb ∧ gs ≠ gm
structure MtR (N : Nat) (w0 W : World) (gm ga gb gs lim : Nat) (A : Option Addr) (c : Nat) (st : Mt.St (List Nat)) : Prop where
  m : Blk W gm 86 [.slice A N c, .slice (some ⟨ga, 0, none⟩) N N, .slice (some ⟨gb, 0, none⟩) N N]
  ah : Blk W ga 3 (ints .i64 st.ah)
  bk : Blk W gb 3 (ints .i64 st.bk)
  sn : ∃ v, Blk W gs 78 [v] ∧ SlU W v st.sn ∧ New lim v
  bel : Below w0.heap.size w0 W
  ok : MtOkS N st
def MtK (ga gb gs : Nat) (k : Nat) : Prop := k = ga ∨ k = gb ∨ k = gs

theorem slU_kept {w w' : World} {v : Value} {s : List Nat} {row : Option Nat} (h : SlU w v s) (hg : w.grownBy w' row) (hr : ∀ r, row = some r → ∃ o : Obj, w.heap[r]? = some o ∧ o.isCells = false) : SlU w' v s := by
  obtain ⟨⟨A, c, rfl, h1, h2, h3, b, o, h4, h5⟩, hw⟩ := h
  exact ⟨⟨A, c, rfl, h1, h2, h3, b, o, fun hn => ⟨(h4 hn).1, Nat.lt_of_lt_of_le (h4 hn).2 hg.size⟩, fun j u hu => cell_kept (h5 j u hu) hg hr⟩, hw⟩
theorem blk_kept {w w' : World} {g : Nat} {t : TypeId} {cs : List Value} {row : Option Nat} (h : Blk w g t cs) (hg : w.grownBy w' row) (hr : ∀ r, row = some r → ∃ o : Obj, w.heap[r]? = some o ∧ o.isCells = false) : Blk w' g t cs :=
  h.grown hg fun e => by
    obtain ⟨o, ho, hc⟩ := hr g e.symm
    unfold Blk at h
    rw [h] at ho
    cases ho
    cases hc
section
variable {N : Nat} {w0 W W' : World} {gm ga gb gs lim : Nat} {A : Option Addr} {c : Nat} {st : Mt.St (List Nat)}
theorem MtR.kept {row : Option Nat} (h : MtR N w0 W gm ga gb gs lim A c st) (hg : W.grownBy W' row) (hr : ∀ r, row = some r → w0.heap.size ≤ r ∧ ∃ o : Obj, W.heap[r]? = some o ∧ o.isCells = false) : MtR N w0 W' gm ga gb gs lim A c st := by
  obtain ⟨v, h1, h2, h3⟩ := h.sn
  have hr' := fun r e => (hr r e).2
  exact ⟨blk_kept h.m hg hr', blk_kept h.ah hg hr', blk_kept h.bk hg hr', ⟨v, blk_kept h1 hg hr', slU_kept h2 hg hr', h3⟩, h.bel.grown hg h.bel.size (fun i e => (hr i e).1), h.ok⟩
theorem MtR.below (h : MtR N w0 W gm ga gb gs lim A c st) (hb : Below W.heap.size W W') : MtR N w0 W' gm ga gb gs lim A c st := by
  obtain ⟨v, h1, h2, h3⟩ := h.sn
  exact ⟨h.m.below hb, h.ah.below hb, h.bk.below hb, ⟨v, h1.below hb, h2.below hb, h3⟩, h.bel.trans (hb.mono h.bel.size), h.ok⟩
/-- the set is told anew -/
theorem MtR.tell {w5 w6 : World} {u : Value} {k : Nat} (hG : MtG w0 gm ga gb gs lim) (h : MtR N w0 w5 gm ga gb gs lim A c st) (hu : SlU w5 u (Bs.put st.sn k)) (hn : New lim u) (hk : k < N) (hB : Blk w6 gs 78 [u]) (hg : w5.grownBy w6 (some gs)) : MtR N w0 w6 gm ga gb gs lim A c (Mt.look Bs.put st k) := by
  have kk : Keeps (fun i => i = gs) w5 w6 := (Keeps.of_grown hg).mono fun i hi => by injection hi
  refine ⟨h.m.keeps kk (fun e => hG.ne.2.2.2.2.2 e.symm), h.ah.keeps kk (fun e => hG.ne.2.2.2.1 e.symm), h.bk.keeps kk (fun e => hG.ne.2.2.2.2.1 e.symm), ⟨u, hB, ?_, hn⟩, h.bel.grown hg h.bel.size (fun i e => by injection e with e; have := hG.lo; omega), h.ok.look hk⟩
  obtain ⟨⟨A', c', rfl, h1, h2, h3, b, o, h4, h5⟩, hw⟩ := hu
  refine ⟨⟨A', c', rfl, h1, h2, h3, b, o, fun hne => ⟨(h4 hne).1, Nat.lt_of_lt_of_le (h4 hne).2 hg.size⟩, fun j u hu => ?_⟩, hw⟩
  have hu : (nats (Bs.put st.sn k))[j]? = some u := hu
  have hne : nats (Bs.put st.sn k) ≠ [] := fun e => by rw [e] at hu; simp at hu
  have hlim : lim ≤ b := hn ⟨b, o, none⟩ (by rw [(h4 hne).1]; rfl)
  have := hG.hi
  exact kk.cell (h5 j u hu) (by show ¬ b = gs; omega)
/-- the pair is written down -/
theorem MtR.pair {w5 w6 w7 : World} {n k : Nat} (hG : MtG w0 gm ga gb gs lim) (h : MtR N w0 w5 gm ga gb gs lim A c st) (hn : n < N) (hk : k < N) (hA : Blk w6 ga 3 (ints .i64 (st.ah.set n (k : Int)))) (hg : w5.grownBy w6 (some ga)) (hB : Blk w7 gb 3 (ints .i64 (st.bk.set k (n : Int)))) (hg' : w6.grownBy w7 (some gb)) :
    MtR N w0 w7 gm ga gb gs lim A c (Mt.link st n k) := by
  have k1 : Keeps (fun i => i = ga) w5 w6 := (Keeps.of_grown hg).mono fun i hi => by injection hi
  have k2 : Keeps (fun i => i = gb) w6 w7 := (Keeps.of_grown hg').mono fun i hi => by injection hi
  obtain ⟨v, h1, h2, h3⟩ := h.sn
  have b1 : Below w0.heap.size w0 w6 := h.bel.grown hg h.bel.size (fun i e => by injection e with e; have := hG.lo; omega)
  refine ⟨(h.m.keeps k1 (fun e => hG.ne.2.1 e.symm)).keeps k2 (fun e => hG.ne.2.2.1 e.symm), hA.keeps k2 hG.ne.1, hB, ⟨v, (h1.keeps k1 hG.ne.2.2.2.1).keeps k2 hG.ne.2.2.2.2.1, ?_, h3⟩, b1.grown hg' b1.size (fun i e => by injection e with e; have := hG.lo; omega), h.ok.link hn hk⟩
  obtain ⟨⟨A', c', rfl, q1, q2, q3, b, o, q4, q5⟩, hw⟩ := h2
  refine ⟨⟨A', c', rfl, q1, q2, q3, b, o, fun hne => ⟨(q4 hne).1, Nat.lt_of_lt_of_le (Nat.lt_of_lt_of_le (q4 hne).2 hg.size) hg'.size⟩, fun j u hu => ?_⟩, hw⟩
  have hu : (nats st.sn)[j]? = some u := hu
  have hne : nats st.sn ≠ [] := fun e => by rw [e] at hu; simp at hu
  have hlim : lim ≤ b := h3 ⟨b, o, none⟩ (by rw [(q4 hne).1]; rfl)
  have := hG.hi
  exact k2.cell (k1.cell (q5 j u hu) (by show ¬ b = ga; omega)) (by show ¬ b = gb; omega)
end
/-- a store into a block, as one operation -/
theorem wp_set_blk {P : Program} {w : World} {g : Nat} {t : TypeId} {cs : List Value} {o : Oper} {a : Act} {K : Act → World → Prop} {Q : Exit → Act → World → Prop} (h : Blk w g t cs) (x y : Operand) (i : Nat) (u : Value) {ty : TypeId} (hi : (P.info? ty).map (·.size) = some 1) (hk : i < cs.length) (hu : u.cells = #[u]) (h1 : u.oneCell' = true)
    (ho : o.op = .store ty x y) (hx : a.eval x = .pointer (some ⟨g, i, none⟩)) (hy : a.eval y = u)
    (hK : ∀ w', Blk w' g t (cs.set i u) → w.grownBy w' (some g) → K (a.put o.dst undef) w') : o.wp P a w K Q := by
  obtain ⟨inf, hii, his⟩ := Option.map_eq_some_iff.1 hi
  have := run_storeCells_at P g i t [u] 0 cs.toArray w h (by simp; omega) (by simpa using h1)
  simp only [Nat.add_zero, List.length_singleton] at this
  have hrun : (storeVar ty ⟨g, i, none⟩ u).run P w = .ok () (w.setRow g (cs.take i ++ [u] ++ cs.drop (i + 1)).toArray) := by
    simp [storeVar, sizeOf, typeInfo, hii, his, hu, this]
  have e1 : cs.take i ++ [u] ++ cs.drop (i + 1) = cs.set i u := by
    rw [List.set_eq_take_append_cons_drop, if_pos hk]
    simp
  rw [e1] at hrun
  unfold Oper.wp execOp
  simp only [ho, hx, hy, Instr.storeAt, Instr.sureAddr, Sem.run_bind, Sem.run_pure, Result.andThen_ok, hrun]
  exact hK _ (Blk.row h (cs.set i u)) (grown_setRow _ _ _)
theorem ints_set' (l : List Int) (i : Nat) (x : Int) : (ints .i64 l).set i (.int .i64 x) = ints .i64 (l.set i x) := by simp [ints, List.map_set]
/-- a box of a bool holds no number -/
theorem slU_box {w w' : World} {v : Value} {s : List Nat} {r : Nat} {t : TypeId} {b : Bool} (h : SlU w v s) (hb : Boxed w r t (.bool b)) (hg : w.grownBy w' (some r)) : SlU w' v s := by
  obtain ⟨⟨A, c, rfl, h1, h2, h3, g, o, h4, h5⟩, hw⟩ := h
  refine ⟨⟨A, c, rfl, h1, h2, h3, g, o, fun hn => ⟨(h4 hn).1, Nat.lt_of_lt_of_le (h4 hn).2 hg.size⟩, fun j u hu => ?_⟩, hw⟩
  have q := h5 j u hu
  have hl : g < w.heap.size := World.block_lt_of_cell? w _ q
  have hne : some g ≠ some r := by
    intro e
    injection e with e
    subst e
    unfold Boxed at hb
    unfold World.cell? at q
    rw [hb] at q
    obtain ⟨x, hx, rfl⟩ : ∃ x : Nat, s[j]? = some x ∧ u = .int .u64 (x : Int) := by
      simp only [nats, List.getElem?_map, Option.map_eq_some_iff] at hu
      obtain ⟨x, hx, rfl⟩ := hu
      exact ⟨x, hx, rfl⟩
    rcases hoj : o + j with _ | k
    · simp [hoj] at q
    · simp [hoj] at q
  exact (World.cell?_of_block (hg.block _ hl hne)).trans q
theorem MtR.box {N : Nat} {w0 W W' : World} {gm ga gb gs lim : Nat} {A : Option Addr} {c : Nat} {st : Mt.St (List Nat)} {r : Nat} {b : Bool} (hG : MtG w0 gm ga gb gs lim) (h : MtR N w0 W gm ga gb gs lim A c st) (hb : Boxed W r 4 (.bool b)) (hr : lim ≤ r) (hg : W.grownBy W' (some r)) : MtR N w0 W' gm ga gb gs lim A c st := by
  obtain ⟨v, h1, h2, h3⟩ := h.sn
  have := hG.hi
  have := hG.lo
  exact ⟨h.m.grown hg (fun e => by injection e; omega), h.ah.grown hg (fun e => by injection e; omega), h.bk.grown hg (fun e => by injection e; omega), ⟨v, h1.grown hg (fun e => by injection e; omega), slU_box h2 hb hg, h3⟩, h.bel.grown hg h.bel.size (fun i e => by injection e; omega), h.ok⟩
/-- of the blocks below n₀ all but three are as they were -/
def KpT (n₀ ga gb gs : Nat) (A B : World) : Prop := A.heap.size ≤ B.heap.size ∧ ∀ k, k < n₀ → ¬ MtK ga gb gs k → B.heap[k]? = A.heap[k]?
theorem KpT.refl (n₀ ga gb gs : Nat) (A : World) : KpT n₀ ga gb gs A A := ⟨Nat.le_refl _, fun _ _ _ => rfl⟩
theorem KpT.trans {n₀ ga gb gs : Nat} {A B C : World} (h : KpT n₀ ga gb gs A B) (k : KpT n₀ ga gb gs B C) : KpT n₀ ga gb gs A C := ⟨Nat.le_trans h.1 k.1, fun i hi hp => (k.2 i hi hp).trans (h.2 i hi hp)⟩
theorem KpT.cell {n₀ ga gb gs : Nat} {A B : World} (h : KpT n₀ ga gb gs A B) {a : Addr} (hl : a.block < n₀) (hp : ¬ MtK ga gb gs a.block) : B.cell? a = A.cell? a := World.cell?_of_block (h.2 _ hl hp)
theorem kpT_of_keeps {n₀ ga gb gs : Nat} {W W' : World} (h : Keeps (MtK ga gb gs) W W') (hn : n₀ ≤ W.heap.size) : KpT n₀ ga gb gs W W' := ⟨h.size, fun k hk hne => h.block k (by omega) hne⟩
theorem kpT_b {n₀ ga gb gs : Nat} {w : World} (hn : n₀ ≤ w.heap.size) (W : World) (l : Nat) (o o' : Obj) (hl : w.heap.size ≤ l) (h : W.heap[l]? = some o) (_ : o.isCells = false) (_ : o.isWalk = false) : KpT n₀ ga gb gs W (W.putObj l o') :=
  ⟨by simp, fun k hk _ => World.putObj_heap_other (by omega)⟩
theorem keepsFrom_of {B ga gb gs : Nat} {W W' : World} (h : Keeps (MtK ga gb gs) W W') (ha : ga < B) (hb : gb < B) (hs : gs < B) : KeepsFrom B W W' :=
  ⟨h.size, fun k o hB hk _ => (h.block k (Array.getElem?_eq_some_iff.1 hk).1 (by unfold MtK; omega)).trans hk⟩
end Go.Proofs.YtfjmhmfkhgjnhaaDoor


namespace Go.Proofs.YtfjmhmfkhgjnhaaDoor
set_option linter.unusedVariables false
set_option linter.unusedSimpArgs false
set_option maxRecDepth 100000
open Go.RowKit Go.Shelf

attribute [local go_sem] Oper.semAt_some

theorem all1_pre (m l qb cap : Nat) (A : Option Addr) (xs : List Nat) (hws : Bs.Ws xs) (hreach : xs.length ≤ 17592186044416) (J Jx : List Nat → World → Prop) (Kp : World → World → Prop) (hKr : ∀ w, Kp w w) (hKt : ∀ {a b c : World}, Kp a b → Kp b c → Kp a c)
    (hY : ∀ pre x W, x ∈ Bs.ls 0 xs → J pre W → pre.length < (Bs.ls 0 xs).length → YieldAt Fence.wide m Tryd.prog l #[.int .i64 ((x : Nat) : Int)] W fun e W' =>
      (e = .returned (.bool true) ∧ J (pre ++ [x]) W' ∧ Kp W W') ∨ (e = .returned (.bool false) ∧ Jx (pre ++ [x]) W'))
    (W : World) (hcb : ∀ wr, Kp W wr → wr.cell? ⟨qb, 0, none⟩ = some (.slice A xs.length cap)) (hcc : ∀ wr, Kp W wr → ∃ B, Cells wr B A (nats xs)) (hTT : ∀ wr, Kp W wr → Tab wr) (h0 : J [] W) :
    CallsIn Fence.wide (m + 1) Tryd.prog 65 #[.func (.yield l) #[] #[], .pointer (some ⟨qb, 0, none⟩)] W fun e W' => (∃ v, e = .returned v) ∧
      ((J (Bs.ls 0 xs) W') ∨ (∃ pre, (∃ t, Bs.ls 0 xs = pre ++ t) ∧ Jx pre W')) := by
  refine callsIn_of_wp Tryd.func65 rfl trivial ?_ rfl
  simp only [Tryd.ntmps65, List.size_toArray, List.length_cons, List.length_nil, Nat.reduceAdd, Nat.reduceSub, Array.replicate_succ, Array.replicate_zero, List.push_toArray, List.append_toArray, List.nil_append, List.cons_append]
  have hqb := hcb W (hKr W)
  gi_wp2
  gi_loopw [7] (fun i wr => ∃ k : Nat, k ≤ xs.length ∧ i = .int .i64 (k : Int) ∧ J (Bs.ls 0 (xs.take k)) wr ∧ Kp W wr) (fun i _ => xs.length - (intOf i).toNat)
  case atStart => exact ⟨0, Nat.zero_le _, rfl, h0, hKr _⟩
  case round =>
    clear hqb h0
    obtain ⟨k, hk, rfl, hJ, hK⟩ := hrel
    by_cases hlt : k < xs.length
    · obtain ⟨x, hx⟩ : ∃ x, xs[k]? = some x := ⟨_, List.getElem?_eq_getElem hlt⟩
      obtain ⟨B0, hc0⟩ := hcc wr hK
      obtain ⟨b, o, rfl, hb, hcx⟩ := hc0.nat hx
      clear hb hc0
      have HX := Lib.hid hx
      clear hx
      gi_wp2
      have hxw : x < 18446744073709551616 := hws x (List.mem_of_getElem? HX.out)
      have hsn : Bs.ls 0 (xs.take (k + 1)) = Bs.ls 0 (xs.take k) ++ (Bs.bl x).map (64 * k + ·) := by
        obtain ⟨h', hx'⟩ := List.getElem?_eq_some_iff.1 HX.out
        rw [List.take_succ_eq_append_getElem h', hx', Bs.ls_snoc, List.length_take, Nat.min_eq_left (by omega)]
      have hcount : ∀ m ≤ ((Bs.bl x).map (64 * k + ·)).length, m < ((Bs.bl x).map (64 * k + ·)).length → (Bs.ls 0 (xs.take k)).length + m < (Bs.ls 0 xs).length := fun m _ hm => by
        have e : xs = xs.take (k + 1) ++ xs.drop (k + 1) := (List.take_append_drop _ _).symm
        have : (Bs.ls 0 xs).length = (Bs.ls 0 (xs.take (k + 1))).length + (Bs.ls (0 + (xs.take (k + 1)).length) (xs.drop (k + 1))).length := by
          conv => lhs; rw [e, Bs.ls_append]
          rw [List.length_append]
        rw [this, hsn, List.length_append]
        omega
      have hmem : ∀ z ∈ (Bs.bl x).map (64 * k + ·), z ∈ Bs.ls 0 xs := fun z hz => by
        have e : xs = xs.take (k + 1) ++ xs.drop (k + 1) := (List.take_append_drop _ _).symm
        rw [e, Bs.ls_append]
        exact List.mem_append_left _ (by rw [hsn]; exact List.mem_append_right _ hz)
      have hpre : ∀ (dn : List Nat) (y : Nat) (t : List Nat), dn ++ y :: t = (Bs.bl x).map (64 * k + ·) → ∃ t', Bs.ls 0 xs = (Bs.ls 0 (xs.take k) ++ dn ++ [y]) ++ t' := fun dn y t e => by
        have e1 : xs = xs.take (k + 1) ++ xs.drop (k + 1) := (List.take_append_drop _ _).symm
        refine ⟨t ++ Bs.ls (0 + (xs.take (k + 1)).length) (xs.drop (k + 1)), ?_⟩
        conv => lhs; rw [e1, Bs.ls_append, hsn, ← e]
        simp
      have HSN := Lib.hid (And.intro hsn (And.intro hcount hmem))
      have HPR := Lib.hid hpre
      clear hsn hcount hmem hcb hcc hpre
      obtain ⟨wo, rfl⟩ : ∃ wo : World, wo = wr := ⟨_, rfl⟩
      gi_loopw [4] (fun i wr => ∃ (v : Nat) (dn : List Nat), i = .int .u64 (v : Int) ∧ v < 18446744073709551616 ∧ dn ++ (Bs.bl v).map (64 * k + ·) = (Bs.bl x).map (64 * k + ·) ∧ J (Bs.ls 0 (xs.take k) ++ dn) wr ∧ Kp W wr) (fun i _ => (intOf i).toNat)
      case atStart => exact ⟨x, [], rfl, hxw, rfl, by rw [List.append_nil]; exact hJ, hK⟩
      case round =>
        clear hJ hK hxw
        obtain ⟨v, dn, rfl, hv, hd, hJ, hK⟩ := hrel
        have HD := Lib.hid hd
        clear hd
        rcases hz : ((v : Int) != 0) with _ | _
        · have HV := Lib.hid (show v = 0 by simpa using hz)
          gi_wp2
          go_roundw
          case rel => exact ⟨k + 1, by omega, by go_num, by
            have h := HD.out
            rw [HV.out, Bs.bl_zero, List.map_nil, List.append_nil] at h
            rw [HSN.out.1, ← h]
            exact hJ, hK⟩
          case measure => simp [intOf]; omega
        · have hv0 : v ≠ 0 := by simpa using hz
          have HV := Lib.hid hv0
          clear hv0
          gi_wp2_with fail
          refine ⟨trivial, (callsIn_wide.2 (tz_any _ v hv HV.out (hTT _ hK))).mono ?_⟩
          rintro e w1 ⟨rfl, rfl⟩
          obtain ⟨-, -, hc64, -⟩ := Bs.low HV.out hv
          have hbl := Bs.bl_pos HV.out
          have hclr := and_pred v hv HV.out
          have hcl := Bs.clear_low HV.out
          have hd := HD.out
          rw [hbl, List.map_cons] at hd
          have hlen : dn.length < ((Bs.bl x).map (64 * k + ·)).length := by rw [← hd, List.length_append, List.length_cons]; omega
          obtain ⟨fn, tmps, assign, body, hy, hR⟩ := hY _ (64 * k + Lib.ctz 64 v) w1 (HSN.out.2.2 _ (by rw [← hd]; simp)) hJ (by rw [List.length_append]; exact HSN.out.2.1 _ (Nat.le_of_lt hlen) hlen)
          obtain ⟨c, hc⟩ : ∃ c, c = Lib.ctz 64 v := ⟨_, rfl⟩
          rw [← hc] at hc64 hd hy hR ⊢
          rw [show ((64 * k + c : Nat) : Int) = 64 * (k : Int) + (c : Int) by omega] at hy
          have HC := Lib.hid (And.intro hclr (And.intro hcl hd))
          clear hbl hclr hcl hd hlen hc HD
          gi_wp2
          refine hR.mono ?_
          rintro e W3 (⟨rfl, hJ3, hk3⟩ | ⟨rfl, hJx3⟩)
          · gi_wp2
            go_roundw
            case rel => exact ⟨v &&& (v - 1), dn ++ [64 * k + c], by rw [HC.out.1], Bs.clear_lt hv, by rw [List.append_assoc]; exact HC.out.2.2, by rw [← List.append_assoc]; exact hJ3, hKt hK hk3⟩
            case measure => simp only [intOf, HC.out.1]; have := HC.out.2.1; simp; omega
          · gi_wp2
            refine bodyPost_ret (results_none rfl _ _ _) rfl ?_
            exact ⟨⟨_, rfl⟩, .inr ⟨_, HPR.out _ _ _ HC.out.2.2, hJx3⟩⟩
    · have HK := Lib.hid (show k = xs.length by omega)
      gi_wp2
      go_end0
      exact ⟨⟨_, rfl⟩, .inl (by have := hJ; rw [HK.out, List.take_length] at this; exact this)⟩

/-- the loop's body is told that what comes is in the set -/
theorem all_pre_stops (m qb cap : Nat) (A : Option Addr) (xs : List Nat) (hws : Bs.Ws xs) (hreach : xs.length ≤ 17592186044416) (Kp : World → World → Prop) (hKr : ∀ w, Kp w w) (hKt : ∀ {a b c : World}, Kp a b → Kp b c → Kp a c) (w : World)
    (hcb : ∀ W wr, Below w.heap.size w W → Kp W wr → wr.cell? ⟨qb, 0, none⟩ = some (.slice A xs.length cap)) (hcc : ∀ W wr, Below w.heap.size w W → Kp W wr → ∃ B, Cells wr B A (nats xs)) (hTT : ∀ W wr, Below w.heap.size w W → Kp W wr → Tab wr) :
    SeqStopsK Fence.wide (m + 1) Tryd.prog 65 #[.pointer (some ⟨qb, 0, none⟩)] (fun x : { x : Nat // x ∈ Bs.ls 0 xs } => #[Value.int .i64 ((x.1 : Nat) : Int)]) Kp (fun ys => ys.map (·.1) = Bs.ls 0 xs) (fun pre => ∃ t, Bs.ls 0 xs = pre.map (·.1) ++ t) (Bs.ls 0 xs).length w := fun l J Jx W hW _ _ hY h0 => by
  refine (all1_pre m l qb cap A xs hws hreach (fun l W => ∃ la : List { x : Nat // x ∈ Bs.ls 0 xs }, la.map (·.1) = l ∧ J la W) (fun l W => ∃ la : List { x : Nat // x ∈ Bs.ls 0 xs }, la.map (·.1) = l ∧ Jx la W) Kp hKr hKt (fun pre x W1 hx hJ hlt => ?_) W (fun wr hk => hcb W wr hW hk) (fun wr hk => hcc W wr hW hk) (fun wr hk => hTT W wr hW hk) ⟨[], rfl, h0⟩).mono ?_
  · obtain ⟨la, rfl, hJ⟩ := hJ
    have := hY la ⟨x, hx⟩ W1 hJ (by simpa using hlt)
    obtain ⟨fn, tmps, assign, body, hy, hR⟩ := this
    refine ⟨fn, tmps, assign, body, hy, hR.mono ?_⟩
    rintro e W' (⟨h1, h2, h3⟩ | ⟨h1, h2⟩)
    · exact .inl ⟨h1, ⟨_, by simp, h2⟩, h3⟩
    · exact .inr ⟨h1, _, by simp, h2⟩
  · rintro e W' ⟨he, ⟨la, h1, h2⟩ | ⟨pre, hpp, la, h1, h2⟩⟩
    · exact ⟨he, .inl ⟨_, h1, h2⟩⟩
    · exact ⟨he, .inr ⟨la, by show ∃ t, Bs.ls 0 xs = la.map (·.1) ++ t; rw [h1]; exact hpp, h2⟩⟩

end Go.Proofs.YtfjmhmfkhgjnhaaDoor


namespace Go.Proofs.YtfjmhmfkhgjnhaaDoor
set_option linter.unusedVariables false
set_option linter.unusedSimpArgs false
set_option maxRecDepth 100000
open Go Go.RowKit

section
variable {P : Program} {ops : Array Oper} {Q : Exit → Act → World → Prop} {l n : Nat}

theorem operIn_of {o : Oper} {a : Act} {w : World} {K : Act → World → Prop} (hd : ∀ c, o.op ≠ .defer c) (h : o.wp P a w K Q) : o.wpIn (Fence.wide.inRound l) n P a w K Q := by
  refine ⟨fun f _ => trivial, ?_⟩
  rw [Fence.inRound_round, Oper.semAt_some l _ _ hd]
  unfold Oper.wp at h
  generalize (execOp a.eval o).run P w = r at h ⊢
  cases r with
  | ok x w' =>
    cases x with
    | enter f args => exact ⟨fun h' => (nomatch h'), CallsIn.inRound l (callsIn_wide.2 h)⟩
    | row row args =>
      refine ⟨fun h' => (nomatch h'), fun c cs _ => ?_⟩
      obtain ⟨v, w', r, s⟩ := h c cs
      exact ⟨v, w', r, stepsIn_wide.2 s⟩
    | value v => exact h
    | skip => exact h
    | defer d => exact h
    | _ => exact h.elim
  | halt x w' => cases x <;> exact h

theorem opIn_of {i : Nat} {a : Act} {w : World} {K : Act → World → Prop} (hd : ∀ o, ops[i]? = some o → ∀ c, o.op ≠ .defer c) (hL : ¬ LetsOut Q) (h : wpOp P ops Q i K a w) : wpOpIn (Fence.wide.inRound l) n P ops Q i K a w := by
  unfold wpOp at h
  unfold wpOpIn
  rcases ho : ops[i]? with _ | o
  · rw [ho] at h
    exact h
  · simp only [ho] at h ⊢
    split
    · rename_i hw
      rw [if_pos hw] at h
      rcases h with h | ⟨_, h⟩
      · exact operIn_of (hd o ho) h
      · exact (hL h).elim
    · rename_i hw
      rw [if_neg hw] at h
      exact ⟨fun _ _ => trivial, h⟩

theorem anyIn_of (hd : ∀ (i : Nat) (o : Oper), ops[i]? = some o → ∀ c, o.op ≠ .defer c) (hL : ¬ LetsOut Q) : ∀ (fuel : Nat) (listed : Array Bool) (a : Act) (w : World), wpAny P .any ops Q fuel listed a w → wpAnyIn (Fence.wide.inRound l) n P .any ops Q fuel listed a w
  | 0, _, _, _, h => h
  | fuel + 1, listed, a, w, h => ⟨h.1, fun i hi => wpOpIn_mono (fun a w h' => anyIn_of hd hL fuel _ a w h') (opIn_of (hd i) hL (h.2 i hi))⟩

def noDefer (ops : Array Oper) : Bool := ops.all fun o => match o.op with | .defer _ => false | _ => true
theorem noDefer_spec (h : noDefer ops = true) : ∀ (i : Nat) (o : Oper), ops[i]? = some o → ∀ c, o.op ≠ .defer c := fun i o ho c hc => by
  obtain ⟨hi, rfl⟩ := Array.getElem?_eq_some_iff.1 ho
  have := (Array.all_eq_true.1 h) i hi
  rw [hc] at this
  cases this

variable {E : World → World → Prop} {S : World → Prop}
theorem wpIn_walk_tail {id : Nat} {a : Act} {w : World} {l : List Oper} {r : Nat} (k : Nat) (hm : P.follows .mixedOrders = true) (hB : (tailB l.toArray k && noDefer l.toArray) = true) (hL : ¬ LetsOut Q) (E : World → World → Prop) (S : World → Prop) (hS : S w.drew)
    (h : Walk P l.toArray S E (fun A Fs => ∀ ρ w', S w' → (∀ t F, (t, F) ∈ Fs → F.holds (ρ t) w') → wpList P l.toArray Q (l.drop k) (A ρ) w') (l.take k) (fun _ => a) []) : (Code.region id l.toArray true).wpIn (Fence.wide.inRound r) n P Q a w := by
  rw [Bool.and_eq_true] at hB
  obtain ⟨hB, hno⟩ := hB
  simp only [tailB, Bool.and_eq_true, decide_eq_true_eq] at hB
  obtain ⟨⟨⟨⟨hn, hlin⟩, hs⟩, hc⟩, hq⟩ := hB
  obtain ⟨full, hp, he, hZ⟩ := settle_plan (l.take k) [] ⟨(fun _ h => by cases h), (fun pre p post he => by simp at he)⟩ h.out
  have inv0 : HeadInv .any l.toArray k (Array.replicate l.toArray.size false) :=
    ⟨by simp, fun j oj _ hl => (by rw [getD_replicate_false] at hl; cases hl), fun t _ ht => getD_in (by simpa using ht) (getD_replicate_false _ _)⟩
  have := any_order_tail (P := P) (Q := Q) hn (by simpa using he) (linearN_of hlin) hs hc (fun listed hsz h1 h2 => by
    have hn' := hn
    rw [show listed = (Array.replicate k true) ++ (Array.replicate (l.toArray.size - k) false) from getD_ext (by simp only [Array.size_append, Array.size_replicate]; omega) fun i => by
      rw [Array.getD_eq_getD_getElem? (xs := _ ++ _), Array.getElem?_append]
      rcases Nat.lt_or_ge i k with h | h
      · rw [h1 i h]
        simp [h]
      · rw [h2 i h]
        simp only [Array.size_replicate, Nat.not_lt.2 h, if_false, Array.getElem?_replicate]
        split <;> rfl]
    exact hq) hp hZ k _ a w.drew (fun _ => undef) inv0 ⟨List.range k, by simp, fun i hi _ => List.mem_range.2 hi⟩ ⟨rfl, rfl, fun _ _ => rfl, fun i p t hi => ?_⟩ hS fun i p F d hi => ?_
  · refine wpIn_region_any hm (anyIn_of (noDefer_spec hno) hL _ _ _ _ ?_)
    rwa [show k + (l.toArray.size - k) = l.toArray.size by omega] at this
  · exfalso; rw [getD_replicate_false] at hi; cases hi
  · exfalso; rw [getD_replicate_false] at hi; cases hi
theorem wpIn_walk_last {id : Nat} {a : Act} {w : World} {l : List Oper} {r : Nat} (hm : P.follows .mixedOrders = true) (hB : (tailB l.toArray (l.length - 1) && noDefer l.toArray) = true) (hL : ¬ LetsOut Q) (E : World → World → Prop) (S : World → Prop) (hS : S w.drew)
    (h : Walk P l.toArray S E (fun A Fs => ∀ ρ w', S w' → (∀ t F, (t, F) ∈ Fs → F.holds (ρ t) w') → wpList P l.toArray Q (l.drop (l.length - 1)) (A ρ) w') (l.take (l.length - 1)) (fun _ => a) []) : (Code.region id l.toArray true).wpIn (Fence.wide.inRound r) n P Q a w :=
  wpIn_walk_tail (l.length - 1) hm hB hL E S hS h
theorem wpIn_walk {id : Nat} {a : Act} {w : World} {l : List Oper} {r : Nat} (hm : P.follows .mixedOrders = true) (hlin : (linearB l.toArray && noDefer l.toArray) = true) (hL : ¬ LetsOut Q) (E : World → World → Prop) (S : World → Prop) (hS : S w.drew)
    (h : Walk P l.toArray S E (fun A Fs => ∀ ρ w', S w' → (∀ t F, (t, F) ∈ Fs → F.holds (ρ t) w') → Q .normal (A ρ) w') l (fun _ => a) []) : (Code.region id l.toArray true).wpIn (Fence.wide.inRound r) n P Q a w := by
  rw [Bool.and_eq_true] at hlin
  obtain ⟨hlin, hno⟩ := hlin
  obtain ⟨full, hp, he, hZ⟩ := settle_plan l [] ⟨(fun _ h => by cases h), (fun pre p post he => by simp at he)⟩ h.out
  refine wpIn_region_any hm (anyIn_of (noDefer_spec hno) hL _ _ _ _ (any_order (by simpa using he) (linear_of hlin) hp hZ _ _ a _ (fun _ => undef) (by simp) (fun i j o hj => ?_) ⟨List.range l.toArray.size, by simp, fun i hi _ => List.mem_range.2 hi⟩ ⟨rfl, rfl, fun _ _ => rfl, fun i p t hi => ?_⟩ hS fun i p F d hi => ?_))
  · exfalso; revert hj; simp [Array.getD]
  · exfalso; revert hi; simp [Array.getD]
  · exfalso; revert hi; simp [Array.getD]
end
end Go.Proofs.YtfjmhmfkhgjnhaaDoor


namespace Go.Proofs.YtfjmhmfkhgjnhaaDoor
set_option linter.unusedVariables false
set_option linter.unusedSimpArgs false
set_option maxRecDepth 100000
open Go Go.RowKit

section
variable {P : Program} {Q : Exit → Act → World → Prop}
theorem wpIn_walk_ph {id : Nat} {a : Act} {w : World} {l : List Oper} {r nn : Nat} (n : Nat) (mk fl : Nat → Bool) (ms : List Nat) (hms : ∀ m, mk m = true → m ∈ ms) (hm : P.follows .mixedOrders = true) (hB : (tailB l.toArray n && noDefer l.toArray) = true) (hL : ¬ LetsOut Q) (hmk : markPB l.toArray n mk fl ms = true) (L : List Tmp) (hLB : labB l.toArray n ms L = true) (E : World → World → Prop) (S : World → Prop) (I : Nat → Env → World → Prop) (hS : S w.drew) (hS0 : ∀ ρ, I 0 ρ w.drew) (hIE : ∀ c ρ w w', I c ρ w → E w w' → I c ρ w') (hI0 : ∀ ρ ρ' w, I 0 ρ w → I 0 ρ' w) (hIρ : ∀ c ρ ρ' w, (∀ t ∈ L, ρ t = ρ' t) → I c ρ w → I c ρ' w)
    (h : WalkP P l.toArray S I E mk fl (fun A Fs => ∀ ρ w', S w' → I (cntM mk n) ρ w' → (∀ t F, (t, F) ∈ Fs → F.holds (ρ t) w') → wpList P l.toArray Q (l.drop n) (A ρ) w') 0 (l.take n) (fun _ => a) []) : (Code.region id l.toArray true).wpIn (Fence.wide.inRound r) nn P Q a w := by
  rw [Bool.and_eq_true] at hB
  obtain ⟨hB, hno⟩ := hB
  simp only [tailB, Bool.and_eq_true, decide_eq_true_eq] at hB
  obtain ⟨⟨⟨⟨hn, hlin⟩, hs⟩, hc⟩, hq⟩ := hB
  obtain ⟨full, hp, he, hZ⟩ := settleP_plan (l.take n) [] ⟨(fun _ h => by cases h), (fun j p h => by simp at h), (fun pre p post he => by simp at he)⟩ h.out
  have inv0 : HeadInv .any l.toArray n (Array.replicate l.toArray.size false) :=
    ⟨by simp, fun j oj _ hl => (by rw [getD_replicate_false] at hl; cases hl), fun t _ ht => getD_in (by simpa using ht) (getD_replicate_false _ _)⟩
  have := any_order_ph (P := P) (Q := Q) hn (by simpa using he) (linearN_of hlin) hs hc (fun listed hsz h1 h2 => by
    have hn' := hn
    rw [show listed = (Array.replicate n true) ++ (Array.replicate (l.toArray.size - n) false) from getD_ext (by simp only [Array.size_append, Array.size_replicate]; omega) fun i => by
      rw [Array.getD_eq_getD_getElem? (xs := _ ++ _), Array.getElem?_append]
      rcases Nat.lt_or_ge i n with h | h
      · rw [h1 i h]
        simp [h]
      · rw [h2 i h]
        simp only [Array.size_replicate, Nat.not_lt.2 h, if_false, Array.getElem?_replicate]
        split <;> rfl]
    exact hq) (markedP_of hms hmk) hp hIE hI0 hIρ (labB_spec hms hLB) hZ n _ a w.drew (fun _ => undef) inv0 ⟨List.range n, by simp, fun i hi _ => List.mem_range.2 hi⟩ ⟨rfl, rfl, fun _ _ => rfl, fun i p t hi => ?_⟩ hS (fun c hc hcm => ?_) fun i p F d hi => ?_
  · refine wpIn_region_any hm (anyIn_of (noDefer_spec hno) hL _ _ _ _ ?_)
    rwa [show n + (l.toArray.size - n) = l.toArray.size by omega] at this
  · exfalso; rw [getD_replicate_false] at hi; cases hi
  · rcases c with _ | c
    · exact hS0 _
    · obtain ⟨m0, -, hm0, hmk0, hc0⟩ := cntM_next (mk := mk) (a := 0) (b := n) (by simp [cntM]; omega)
      have := (hcm m0 hmk0).2 (by rw [hc0]; simp [cntM])
      rw [getD_replicate_false] at this
      cases this
  · exfalso; rw [getD_replicate_false] at hi; cases hi
end
end Go.Proofs.YtfjmhmfkhgjnhaaDoor


namespace Go.Proofs.YtfjmhmfkhgjnhaaDoor
set_option linter.unusedVariables false
set_option linter.unusedSimpArgs false
set_option maxRecDepth 100000
open Go.RowKit Go.Shelf

attribute [local go_sem] Oper.semAt_some

/-- a search's end -/
def FreeEnd (N : Nat) (w0 w : World) (gm ga gb gs lim : Nat) (A : Option Addr) (c : Nat) (r : Bool × Mt.St (List Nat)) : Ending → World → Prop := fun e w' =>
  e = .returned (.bool r.1) ∧ MtR N w0 w' gm ga gb gs lim A c r.2 ∧ Keeps (MtK ga gb gs) w w'
def FreeOK (N : Nat) (B : List (List Nat)) (w0 : World) (gm ga gb gs lim : Nat) (A : Option Addr) (c : Nat) (f : Nat) : Prop :=
  ∀ (n : Nat) (st : Mt.St (List Nat)) (w : World), n < N → lim ≤ w.heap.size → Mt.unseen Bs.bit N st.sn < f → MtR N w0 w gm ga gb gs lim A c st →
    Calls Tryd.prog 64 #[.pointer (some ⟨gm, 0, none⟩), .int .i64 (n : Int), .pointer (some ⟨gs, 0, none⟩)] w (FreeEnd N w0 w gm ga gb gs lim A c (Mt.frW B f n st))

theorem ints_at {l : List Int} {i : Nat} (h : i < l.length) : (ints .i64 l)[i]? = some (.int .i64 (l.getD i (-1))) := by
  simp [ints, List.getD_eq_getElem?_getD, List.getElem?_eq_getElem h]


set_option maxRecDepth 100000 in
set_option maxHeartbeats 8000000 in
theorem free_step (N : Nat) (hN : N ≤ 200) (B : List (List Nat)) (hBl : B.length = N) (hB : ∀ s ∈ B, Bs.Gs N s) (w0 : World) (hT : Tab w0) (gm ga gb gs lim : Nat) (hG : MtG w0 gm ga gb gs lim) (A : Option Addr) (c : Nat) (hv : SlW w0 (.slice A N c) B) (f : Nat)
    (ih : FreeOK N B w0 gm ga gb gs lim A c f) : FreeOK N B w0 gm ga gb gs lim A c (f + 1) := by
  intro n st w hn hlim hu h
  obtain ⟨xs, hxs⟩ : ∃ s, B[n]? = some s := ⟨_, List.getElem?_eq_getElem (by omega)⟩
  have hxD : Mt.nbW B n = Bs.ls 0 xs := by unfold Mt.nbW; rw [List.getD_eq_getElem?_getD, hxs, Option.getD_some]
  have hgx := hB xs (List.mem_of_getElem? hxs)
  rw [Mt.frW_succ, hxD]
  obtain ⟨R, hR⟩ : ∃ R, R = Mt.goW B f n (Bs.ls 0 xs) st := ⟨_, rfl⟩
  rw [← hR]
  have HR := Lib.hid hR
  clear hR
  refine (callsIn_wide (n := 4)).1 ?_
  refine callsIn_of_wp_marks Tryd.func64 rfl trivial ?_ rfl
  simp only [Tryd.ntmps64, List.size_toArray, List.length_cons, List.length_nil, Nat.reduceAdd, Nat.reduceSub, Array.replicate_succ, Array.replicate_zero, List.push_toArray, List.append_toArray, List.nil_append, List.cons_append]
  refine wpIn_wide.2 ?_
  obtain ⟨q, hq⟩ : ∃ q, q = w.heap.size := ⟨_, rfl⟩
  have hba : Below w.heap.size w ((((w.alloc (.cells #[.pointer (some ⟨gm, 0, none⟩)] 76)).alloc (.cells #[.int .i64 (n : Int)] 3)).alloc (.cells #[.pointer (some ⟨gs, 0, none⟩)] 110)).alloc (.cells #[.bool false] 4)) := below_alloc (below_alloc (below_alloc (below_alloc (Below.refl _ _) _) _) _) _
  have b0 := ((((Boxed.new w 76 (.pointer (some ⟨gm, 0, none⟩))).alloc (.cells #[.int .i64 (n : Int)] 3)).alloc (.cells #[.pointer (some ⟨gs, 0, none⟩)] 110)).alloc (.cells #[.bool false] 4))
  have b1 := (((Boxed.new (w.alloc (.cells #[.pointer (some ⟨gm, 0, none⟩)] 76)) 3 (.int .i64 (n : Int))).alloc (.cells #[.pointer (some ⟨gs, 0, none⟩)] 110)).alloc (.cells #[.bool false] 4))
  have b2 := ((Boxed.new ((w.alloc (.cells #[.pointer (some ⟨gm, 0, none⟩)] 76)).alloc (.cells #[.int .i64 (n : Int)] 3)) 110 (.pointer (some ⟨gs, 0, none⟩))).alloc (.cells #[.bool false] 4))
  have b3 := Boxed.new (((w.alloc (.cells #[.pointer (some ⟨gm, 0, none⟩)] 76)).alloc (.cells #[.int .i64 (n : Int)] 3)).alloc (.cells #[.pointer (some ⟨gs, 0, none⟩)] 110)) 4 (.bool false)
  simp only [World.size_alloc, ← hq] at b0 b1 b2 b3 hba
  have hz : ((((w.alloc (.cells #[.pointer (some ⟨gm, 0, none⟩)] 76)).alloc (.cells #[.int .i64 (n : Int)] 3)).alloc (.cells #[.pointer (some ⟨gs, 0, none⟩)] 110)).alloc (.cells #[.bool false] 4)).heap.size = q + 1 + 1 + 1 + 1 := by simp [hq]
  go_upto_region 1 with (fail)
  rw [← hq]
  generalize ((((w.alloc (.cells #[.pointer (some ⟨gm, 0, none⟩)] 76)).alloc (.cells #[.int .i64 (n : Int)] 3)).alloc (.cells #[.pointer (some ⟨gs, 0, none⟩)] 110)).alloc (.cells #[.bool false] 4)) = W at b0 b1 b2 b3 hba hz ⊢
  have hW := h.below (by rw [← hq]; exact hba)
  -- the set to go through
  obtain ⟨os, hos, hsl⟩ := id hv
  obtain ⟨vn, hvn⟩ : ∃ v, os[n]? = some v := ⟨_, List.getElem?_eq_getElem (by obtain ⟨_, _, _, _, _, h3, _⟩ := hos; omega)⟩
  have sx0 := hsl n vn xs hvn hxs
  have sx := sx0.below hW.bel
  obtain ⟨aA, ac, rfl⟩ := slU_form sx
  obtain ⟨A1, c1, e1, -, -, hol, hoc⟩ := hos
  injection e1 with e1 e2 e3
  subst e1 e3
  clear e2
  obtain ⟨g, o, hAg, hgl, hcell⟩ := hoc.at_ (fun e => by rw [e] at hvn; simp at hvn)
  subst hAg
  have cn : W.cell? ⟨g, o + n, none⟩ = some (.slice aA xs.length ac) := (hW.bel.cell (p := ⟨g, o + n, none⟩) hgl).trans (hcell n _ hvn)
  have d0 := b0.cell
  have d1 := b1.cell
  have m0 : W.cell? ⟨gm, 0, none⟩ = some (.slice (some ⟨g, o, none⟩) N c) := (hW.m.cell 0).trans rfl
  have g1 : decide ((0 : Int) ≤ (n : Int)) = true := by simp
  have g2 : decide ((n : Int) < (N : Int)) = true := by simp; omega
  have HA := Lib.hid (And.intro hba (And.intro hz (And.intro hW (And.intro b0 (And.intro b1 (And.intro b2 b3))))))
  have HS := Lib.hid (And.intro sx (And.intro hgx (And.intro hu (And.intro h (And.intro hq (And.intro hxs sx0))))))
  clear hba hz hW b0 b1 b2 b3 sx hgx hu h hq hxs hxD hsl hcell hoc hvn hol sx0
  go_wp2_with fail
  have keepW : ∀ w', Below W.heap.size W w' → (Below W.heap.size W w' ∧ w'.cell? ⟨q, 0, none⟩ = some (.pointer (some ⟨gm, 0, none⟩)) ∧ w'.cell? ⟨q + 1, 0, none⟩ = some (.int .i64 (n : Int)) ∧ w'.cell? ⟨gm, 0, none⟩ = some (.slice (some ⟨g, o, none⟩) N c) ∧ w'.cell? ⟨g, o + n, none⟩ = some (.slice aA xs.length ac)) := fun w' hb =>
    ⟨hb, (hb.cell (World.block_lt_of_cell? W _ d0)).trans d0, (hb.cell (World.block_lt_of_cell? W _ d1)).trans d1, (hb.cell (World.block_lt_of_cell? W _ m0)).trans m0, (hb.cell (World.block_lt_of_cell? W _ cn)).trans cn⟩
  have hS0 := keepW _ (below_drew (Below.refl _ _))
  clear keepW d0 d1 m0 cn
  refine wp_walk_last (by kernel_rfl) (by kernel_rfl) (fun w w' => Below w.heap.size w w') (fun w' => (Below W.heap.size W w' ∧ w'.cell? ⟨q, 0, none⟩ = some (.pointer (some ⟨gm, 0, none⟩)) ∧ w'.cell? ⟨q + 1, 0, none⟩ = some (.int .i64 (n : Int)) ∧ w'.cell? ⟨gm, 0, none⟩ = some (.slice (some ⟨g, o, none⟩) N c) ∧ w'.cell? ⟨g, o + n, none⟩ = some (.slice aA xs.length ac))) hS0 ?_
  simp only [List.length_cons, List.length_nil, Nat.reduceAdd, Nat.reduceSub, List.take_succ_cons, List.take_zero, List.drop_succ_cons, List.drop_zero]
  repeat (first | (refine settle_skip (fun _ => by rfl) ?_; (simp only [Act.put, List.setIfInBounds_toArray, List.set_cons_zero, List.set_cons_succ])) | (refine' settle_run (fun _ _ => Below.refl _ _) (fun _ => by rfl) ?_ ?_; rotate_left; (focus (intro ρ w hS hF; (try dsimp only at hS); go_split_ands; go_simp; try with_reducible rfl)); (simp only [Act.put, List.setIfInBounds_toArray, List.set_cons_zero, List.set_cons_succ])))
  refine settle_nil ?_
  intro ρ w3 hS _
  have hbW3 := hS.1
  clear hS hS0
  go_wp2_with fail
  refine ((callsIn_wide (n := 2)).1 (all_in _ _ _ _)).mono ?_
  rintro e w2 ⟨rfl, rfl⟩
  have bQ := Boxed.new w3 78 (.slice aA xs.length ac)
  have hbQ : Below W.heap.size W (w3.alloc (.cells #[.slice aA xs.length ac] 78)) := below_alloc hbW3 _
  have hzQ : (w3.alloc (.cells #[.slice aA xs.length ac] 78)).heap.size = w3.heap.size + 1 := by simp
  have HQ := Lib.hid (And.intro bQ (And.intro hbQ hzQ))
  clear bQ hbQ hzQ
  obtain ⟨QB, hQB⟩ : ∃ QB, QB = w3.heap.size := ⟨_, rfl⟩
  go_wp2_with fail
  rw [← hQB] at HQ ⊢
  generalize (w3.alloc (.cells #[.slice aA xs.length ac] 78)) = W0 at HQ ⊢
  obtain ⟨bQ, hbQ, hzQ⟩ := HQ.out
  obtain ⟨hba, hz, hW, b0, b1, b2, b3⟩ := HA.out
  obtain ⟨sx, hgx, hu, h, hq, hxs, sx0⟩ := HS.out
  have hQW : W.heap.size ≤ QB := by rw [hQB]; exact hbW3.size
  clear hQB hbW3
  have hlo := h.bel.size
  have hG' := hG.hi
  have hqW0 : q + 1 + 1 + 1 + 1 ≤ QB := by omega
  have hbW0 : Below w.heap.size w W0 := below_next hbQ (by rw [← hq]; exact hba)
  have M0 := h.below hbW0
  have hsl0 : ∀ (p : Addr), p.block < w0.heap.size → ∀ W1 wr, Below W0.heap.size W0 W1 → KpT W0.heap.size ga gb gs W1 wr → wr.cell? p = w0.cell? p := fun p hp W1 wr hb hk => by
    have h1 := hG.lo
    have h2 := M0.bel.size
    rw [hk.cell (by omega) (by unfold MtK; omega), hb.cell (by omega), M0.bel.cell hp]
  have hC0 : Cells w0 w0.heap.size aA (nats xs) := by
    obtain ⟨⟨A', c', e, -, -, -, h4⟩, -⟩ := sx0
    injection e with e1 e2 e3
    subst e1
    exact h4
  have hw0W : w0.heap.size ≤ W0.heap.size := M0.bel.size
  refine (wpIn_wide (n := 4)).1 ?_
  have stA := all_pre_stops 2 QB ac aA xs sx.2 (by have := hgx.length; omega) (KpT W0.heap.size ga gb gs) (KpT.refl _ _ _ _) (fun h k => h.trans k) W0
    (fun W1 wr hb hk => (hk.cell (a := ⟨QB, 0, none⟩) (by show QB < _; omega) (by unfold MtK; show ¬ (QB = ga ∨ QB = gb ∨ QB = gs); omega)).trans ((hb.cell (p := ⟨QB, 0, none⟩) (by show QB < _; omega)).trans bQ.cell))
    (fun W1 wr hb hk => ⟨w0.heap.size, hC0.keep (Nat.le_refl _) fun p hp => hsl0 p hp W1 wr hb hk⟩)
    (fun W1 wr hb hk j hj => (hsl0 ⟨0, j, none⟩ hT.lt W1 wr hb hk).trans (hT j hj))
  have HX := Lib.hid (And.intro sx (And.intro hgx (And.intro hu (And.intro h (And.intro hq (And.intro hxs (And.intro hbW0 (And.intro hsl0 hC0))))))))
  have HB := Lib.hid (And.intro b0 (And.intro b1 (And.intro b2 (And.intro b3 (And.intro hbQ (And.intro hz hW))))))
  clear HA HS HQ sx hgx hu h hq hxs hsl0 hC0 sx0 b0 b1 b2 b3 hba hz hW hbQ bQ
  have hqQ : QB < W0.heap.size := by omega
  refine wpIn_rangeFunc_ownH rfl (by omega) (gf := 65) (lb := #[.pointer (some ⟨QB, 0, none⟩)]) rfl trivial (enters_of Tryd.func65 (by kernel_rfl) rfl)
    stA (fun h k => h.trans k) (kpT_b (Nat.le_refl _)) (Below.refl _ _) (fun _ => rfl)
    (fun pre W' => (MtR N w0 W' gm ga gb gs lim (some ⟨g, o, none⟩) c (Mt.goW B f n (pre.map (·.1)) st).2 ∧ (Mt.goW B f n (pre.map (·.1)) st).1 = false) ∧ Keeps (MtK ga gb gs) W0 W')
    (fun cc pre W' => (cc = .ret ∧ (Mt.goW B f n (pre.map (·.1)) st).1 = true ∧ MtR N w0 W' gm ga gb gs lim (some ⟨g, o, none⟩) c (Mt.goW B f n (pre.map (·.1)) st).2 ∧ Boxed W' (q + 1 + 1 + 1) 4 (.bool true)) ∧ Keeps (fun k => MtK ga gb gs k ∨ k = q + 1 + 1 + 1) W0 W')
    (OwnFrom.and (fun s X Y row hs hg hr => ⟨hs.1.kept hg (fun r e => ⟨by have := (hr r e).1; omega, (hr r e).2⟩), hs.2⟩) (ownFrom_keeps (Nat.le_refl _)))
    (fun cc => OwnFrom.and (fun s X Y row hs hg hr => ⟨hs.1, hs.2.1, hs.2.2.1.kept hg (fun r e => ⟨by have := (hr r e).1; omega, (hr r e).2⟩), hs.2.2.2.kept hg (fun e => by have := (hr _ e.symm).1; omega)⟩) (ownFrom_keeps (Nat.le_refl _)))
    ⟨⟨by rw [List.map_nil, Mt.goW_nil]; exact M0, rfl⟩, Keeps.refl _ _⟩
    (fun x a' W' => a' = { tmps := #[.pointer (some ⟨gm, 0, none⟩), .int .i64 (n : Int), .pointer (some ⟨gs, 0, none⟩), .pointer (some ⟨q, 0, none⟩), .pointer (some ⟨q + 1, 0, none⟩), .pointer (some ⟨q + 1 + 1, 0, none⟩), .pointer (some ⟨q + 1 + 1 + 1, 0, none⟩), .int .i64 (x.1 : Int), .pointer (some ⟨gm, 0, none⟩), .pointer (some ⟨gm, 0, none⟩), .pointer (some ⟨gm, 0, none⟩), .slice (some ⟨g, o, none⟩) N c, .int .i64 (n : Int), .pointer (some ⟨g, o + n, none⟩), .slice aA xs.length ac, .func (.func 65) #[] #[.pointer (some ⟨QB, 0, none⟩)], .int .i64 (x.1 : Int), undef, undef, undef, undef, undef, undef, undef, undef, undef, undef, undef, undef, undef, undef, undef, undef, undef, undef, undef, undef, undef, undef, undef, undef, undef, undef, undef, undef, undef, undef, undef, undef, undef, undef, undef, undef, undef, undef, undef, undef, undef, undef, undef, undef, undef, undef], defers := [] })
    (fun x a' _ X Y row hs hg hr => hs)
    ?assign ?body ?done ?stop
  case assign =>
    rintro l pre x W' K hI hK
    gi_wp2
    exact hK _ _ (KeepsFrom.refl _ _) (KpT.refl _ _ _ _ _) hI rfl
  case body =>
    rintro l0 pre x a' W' hl ⟨r, hr⟩ ⟨⟨hM, hf⟩, hk⟩ rfl hlt'
    obtain ⟨x, hxm⟩ := x
    dsimp only
    obtain ⟨sx, hgx, hu, h, hq, hxs, hbW0, hsl0, hC0⟩ := HX.out
    obtain ⟨b0, b1, b2, b3, hbQ, hz, hW⟩ := HB.out
    have hxN : x < N := hgx.lt x ((Bs.mem_list hgx.ws x).1 hxm)
    have hsn := Mt.goW_snoc hf x
    have hmap : (pre ++ [(⟨x, hxm⟩ : { x : Nat // x ∈ Bs.ls 0 xs })]).map (·.1) = pre.map (·.1) ++ [x] := by simp
    rw [← hmap] at hsn
    clear hmap
    have hu1 : Mt.unseen Bs.bit N (Mt.goW B f n (pre.map (·.1)) st).2.sn < f + 1 := Nat.lt_of_le_of_lt (Mt.unseen_mono (Mt.goW_sn (pre.map (·.1)) st)) hu
    have eW0 : W0.cell? ⟨q, 0, none⟩ = some (.pointer (some ⟨gm, 0, none⟩)) := (hbQ.cell (p := ⟨q, 0, none⟩) b0.lt).trans b0.cell
    have eW1 : W0.cell? ⟨q + 1, 0, none⟩ = some (.int .i64 (n : Int)) := (hbQ.cell (p := ⟨q + 1, 0, none⟩) b1.lt).trans b1.cell
    have eW2 : W0.cell? ⟨q + 1 + 1, 0, none⟩ = some (.pointer (some ⟨gs, 0, none⟩)) := (hbQ.cell (p := ⟨q + 1 + 1, 0, none⟩) b2.lt).trans b2.cell
    have bW3 : Boxed W0 (q + 1 + 1 + 1) 4 (.bool false) := (hbQ.block _ b3.lt).trans b3
    have hnq : ∀ k, q ≤ k → ¬ MtK ga gb gs k := fun k hqk => by unfold MtK; omega
    have e0 := hk.cell eW0 (hnq q (Nat.le_refl _))
    have e1 := hk.cell eW1 (hnq (q + 1) (by omega))
    have e2 := hk.cell eW2 (hnq (q + 1 + 1) (by omega))
    have hlq : lim ≤ q := by omega
    obtain ⟨st1, hst1⟩ : ∃ s, s = (Mt.goW B f n (pre.map (·.1)) st).2 := ⟨_, rfl⟩
    rw [← hst1] at hM hsn hu1
    obtain ⟨vs, hvs, su, hnw⟩ := id hM.sn
    obtain ⟨As, cs, rfl⟩ := slU_form su
    have es : W'.cell? ⟨gs, 0, none⟩ = some (.slice As st1.sn.length cs) := (hvs.cell 0).trans rfl
    have HQ := Lib.hid (And.intro hsn (And.intro hu1 (And.intro bW3 (And.intro hst1 hq))))
    clear sx hgx hu h hxs hbW0 hsl0 hC0 b0 b1 b2 b3 hbQ hz hW hsn hu1 hst1 hf hr hq bW3
    have hW0W := hk.size
    gi_wp2_with fail
    refine ⟨trivial, (CallsIn.inRound l0 (callsIn_wide.2 (set_has W' _ st1.sn x su (by omega)))).mono ?_⟩
    rintro e w2 ⟨rfl, rfl⟩
    rcases hb : Bs.bit st1.sn x with _ | _
    · have hgsl := hM.ok.gs.length
      have hadd := fun w' (hbw : Below w2.heap.size w2 w') => put_new w' _ st1.sn x (su.below hbw) (by omega) (by omega)
      have keepS : ∀ w', Below w2.heap.size w2 w' → (Below w2.heap.size w2 w' ∧ w'.cell? ⟨q + 1 + 1, 0, none⟩ = some (.pointer (some ⟨gs, 0, none⟩)) ∧ w'.cell? ⟨gs, 0, none⟩ = some (.slice As st1.sn.length cs)) := fun w' hb =>
        ⟨hb, (hb.cell (World.block_lt_of_cell? w2 _ e2)).trans e2, (hb.cell (World.block_lt_of_cell? w2 _ es)).trans es⟩
      have hS0 := keepS _ (below_drew (Below.refl _ _))
      have hlw2 : lim ≤ w2.heap.size := by omega
      clear es e0 e1 e2 su
      gi_wp2_with fail
      change Code.wpIn (Fence.wide.inRound l0) _ _ _ _ _ _
      refine wpIn_walk_last (by kernel_rfl) (by kernel_rfl) (by rintro ⟨_, _, h⟩; exact h) (fun w w' => Below w.heap.size w w') (fun w' => (Below w2.heap.size w2 w' ∧ w'.cell? ⟨q + 1 + 1, 0, none⟩ = some (.pointer (some ⟨gs, 0, none⟩)) ∧ w'.cell? ⟨gs, 0, none⟩ = some (.slice As st1.sn.length cs))) hS0 ?_
      simp only [List.length_cons, List.length_nil, Nat.reduceAdd, Nat.reduceSub, List.take_succ_cons, List.take_zero, List.drop_succ_cons, List.drop_zero]
      repeat (first | (refine settle_skip (fun _ => by rfl) ?_; (simp only [Act.put, List.setIfInBounds_toArray, List.set_cons_zero, List.set_cons_succ])) | (refine' settle_run (fun _ _ => Below.refl _ _) (fun _ => by rfl) ?_ ?_; rotate_left; (focus (intro ρ w hS hF; (try dsimp only at hS); go_split_ands; go_simp; try with_reducible rfl)); (simp only [Act.put, List.setIfInBounds_toArray, List.set_cons_zero, List.set_cons_succ])))
      (refine settle_known (FSU lim (Bs.put st1.sn x)) (by rfl) (fun _ => by rfl)  ?_ ?_; (focus (intro ρ w hS hF K hK; (simp only [Act.put, List.setIfInBounds_toArray, List.set_cons_zero, List.set_cons_succ] at hK); go_simp; (refine (hadd _ hS.1).mono ?_; rintro e w6 ⟨v, rfl, ⟨hF1, hF2⟩, hb'⟩; exact hK _ _ ⟨hF1, hF2.mono (Nat.le_trans hlw2 hS.1.size)⟩ (keepS _ (below_next hb' hS.1)) hb'))); (simp only [Act.put, List.setIfInBounds_toArray, List.set_cons_zero, List.set_cons_succ]))
      repeat (first | (refine settle_skip (fun _ => by rfl) ?_; (simp only [Act.put, List.setIfInBounds_toArray, List.set_cons_zero, List.set_cons_succ])) | (refine' settle_run (fun _ _ => Below.refl _ _) (fun _ => by rfl) ?_ ?_; rotate_left; (focus (intro ρ w hS hF; (try dsimp only at hS); go_split_ands; go_simp; try with_reducible rfl)); (simp only [Act.put, List.setIfInBounds_toArray, List.set_cons_zero, List.set_cons_succ])))
      refine settle_nil ?_
      intro ρ w5 hS hF
      obtain ⟨hU, hUn⟩ : SlU w5 (ρ 27) (Bs.put st1.sn x) ∧ New lim (ρ 27) := hF 27 (FSU lim (Bs.put st1.sn x)) (by repeat (first | exact List.mem_cons_self | apply List.mem_cons_of_mem))
      have hb5 := hS.1
      clear hF hS keepS hS0 hadd
      dsimp only
      generalize ρ 27 = U at hU hUn ⊢
      obtain ⟨Ua, Uc, rfl⟩ := slU_form hU
      refine wpl_set_blk (hvs.below hb5) 0 _ (by kernel_rfl) (by simp) rfl rfl rfl rfl rfl rfl ?_
      intro w6 hB6 hg6
      have M6 := MtR.tell hG (hM.below hb5) hU hUn hxN hB6 hg6
      have K6 : Keeps (MtK ga gb gs) w2 w6 := (Keeps.of_below hb5 (MtK ga gb gs)).step ((Keeps.of_grown hg6).mono (S' := fun i => i = gs) fun i hi => by injection hi) fun i _ e => .inr (.inr e)
      have hk0 : st1.bk.getD x (-1) = Mt.bkO (Mt.look Bs.put st1 x) x := rfl
      have ebk : w6.cell? ⟨gb, x, none⟩ = some (.int .i64 (st1.bk.getD x (-1))) := (M6.bk.cell x).trans (ints_at (by have := M6.ok.lenB; omega))
      have em2 : w6.cell? ⟨gm, 2, none⟩ = some (.slice (some ⟨gb, 0, none⟩) N N) := (M6.m.cell 2).trans rfl
      have eq0 := (hk.trans K6).cell eW0 (hnq q (Nat.le_refl _))
      have eq2 := (hk.trans K6).cell eW2 (hnq (q + 1 + 1) (by omega))
      have hone : Mt.oneW B f n x st1 = if st1.bk.getD x (-1) < 0 then (true, Mt.link (Mt.look Bs.put st1 x) n x) else if (Mt.frW B f (st1.bk.getD x (-1)).toNat (Mt.look Bs.put st1 x)).1 then (true, Mt.link (Mt.frW B f (st1.bk.getD x (-1)).toNat (Mt.look Bs.put st1 x)).2 n x) else (false, (Mt.frW B f (st1.bk.getD x (-1)).toNat (Mt.look Bs.put st1 x)).2) := by
        unfold Mt.oneW
        rw [hb]
        rfl
      have hlowB : ∀ v, st1.bk[x]? = some v → -1 ≤ v ∧ v < (N : Int) := fun v hv => hM.ok.lowB v (List.mem_of_getElem? hv)
      have hx1 : st1.bk[x]? = some (st1.bk.getD x (-1)) := by rw [List.getD_eq_getElem?_getD, List.getElem?_eq_getElem (by have := hM.ok.lenB; omega)]; rfl
      have hbnd := hlowB _ hx1
      obtain ⟨k0, hk0e⟩ : ∃ k0, k0 = st1.bk.getD x (-1) := ⟨_, rfl⟩
      rw [← hk0e] at ebk hone hbnd
      have f2 : decide ((0 : Int) ≤ (x : Int)) = true := by simp
      have f3 : decide ((x : Int) < (N : Int)) = true := by simp; omega
      have f5 : (x : Int) < (N : Int) := by omega
      clear hU hUn hB6 hg6 hvs hnw hb5 hlowB hx1 hk0 hk0e
      by_cases hneg : k0 < 0
      · rw [if_pos hneg] at hone
        have g0 : decide (k0 < 0) = true := by simpa using hneg
        have hS0 : w6.drew.cell? ⟨q, 0, none⟩ = some (.pointer (some ⟨gm, 0, none⟩)) ∧ w6.drew.cell? ⟨gm, 2, none⟩ = some (.slice (some ⟨gb, 0, none⟩) N N) ∧ w6.drew.cell? ⟨gb, x, none⟩ = some (.int .i64 k0) ∧ ∃ k, w6.drew = w6.drewN k := ⟨eq0, em2, ebk, 1, rfl⟩
        clear eq0 em2 ebk eq2
        go_wp2_with fail
        gi_wp2_with fail
        change Code.wpIn (Fence.wide.inRound l0) _ _ _ _ _ _
        refine wpIn_walk (by kernel_rfl) (by kernel_rfl) (by rintro ⟨_, _, h⟩; exact h) (fun _ _ => True) (fun w' => (w'.cell? ⟨q, 0, none⟩ = some (.pointer (some ⟨gm, 0, none⟩)) ∧ w'.cell? ⟨gm, 2, none⟩ = some (.slice (some ⟨gb, 0, none⟩) N N) ∧ w'.cell? ⟨gb, x, none⟩ = some (.int .i64 k0) ∧ ∃ k, w' = w6.drewN k)) hS0 ?_
        repeat (first | (refine settle_skip (fun _ => by rfl) ?_; (simp only [Act.put, List.setIfInBounds_toArray, List.set_cons_zero, List.set_cons_succ])) | (refine' settle_run (fun _ _ => trivial) (fun _ => by rfl) ?_ ?_; rotate_left; (focus (intro ρ w hS hF; (try dsimp only at hS); go_split_ands; go_simp; try with_reducible rfl)); (simp only [Act.put, List.setIfInBounds_toArray, List.set_cons_zero, List.set_cons_succ])))
        refine settle_nil ?_
        intro ρ w7 hS _
        obtain ⟨-, -, -, kd, rfl⟩ := hS
        have M7 : MtR N w0 (w6.drewN kd) gm ga gb gs lim (some ⟨g, o, none⟩) c (Mt.look Bs.put st1 x) := M6.below (below_drewN (Below.refl _ _) kd)
        have K7 : Keeps (MtK ga gb gs) w2 (w6.drewN kd) := K6.drewN kd
        generalize w6.drewN kd = w7 at M7 K7 ⊢
        clear M6 K6 hS0
        dsimp only
        gi_wp2_with fail
        -- w7 world, M7 its reading, K7 Keeps MtK W' it, Mt.look Bs.put st1 x the state, hone the step told
        have hq3 : w7.cell? ⟨q, 0, none⟩ = some (.pointer (some ⟨gm, 0, none⟩)) := (hk.trans K7).cell eW0 (hnq q (Nat.le_refl _))
        have hq4 : w7.cell? ⟨q + 1, 0, none⟩ = some (.int .i64 (n : Int)) := (hk.trans K7).cell eW1 (hnq (q + 1) (by omega))
        have hm1 : w7.cell? ⟨gm, 1, none⟩ = some (.slice (some ⟨ga, 0, none⟩) N N) := (M7.m.cell 1).trans rfl
        have hm2 : w7.cell? ⟨gm, 2, none⟩ = some (.slice (some ⟨gb, 0, none⟩) N N) := (M7.m.cell 2).trans rfl
        have hqa : q ≠ ga ∧ q + 1 ≠ ga ∧ gm ≠ ga := ⟨by omega, by omega, fun e => hG.ne.2.1 e.symm⟩
        have keepP : ∀ w', Keeps (fun i => i = ga) w7 w' → (Keeps (fun i => i = ga) w7 w' ∧ w'.cell? ⟨q, 0, none⟩ = some (.pointer (some ⟨gm, 0, none⟩)) ∧ w'.cell? ⟨q + 1, 0, none⟩ = some (.int .i64 (n : Int)) ∧ w'.cell? ⟨gm, 1, none⟩ = some (.slice (some ⟨ga, 0, none⟩) N N) ∧ w'.cell? ⟨gm, 2, none⟩ = some (.slice (some ⟨gb, 0, none⟩) N N)) := fun w' hk => ⟨hk, hk.cell hq3 hqa.1, hk.cell hq4 hqa.2.1, hk.cell hm1 hqa.2.2, hk.cell hm2 hqa.2.2⟩
        have hP0 := keepP _ ((Keeps.refl _ w7).drewN 1)
        have hI0 : Blk w7.drew ga 3 (ints .i64 (Mt.look Bs.put st1 x).ah) := M7.ah
        have hlA : (Mt.look Bs.put st1 x).ah.length = N := M7.ok.lenA
        have hlB : (Mt.look Bs.put st1 x).bk.length = N := M7.ok.lenB
        have HL := Lib.hid (And.intro M7 (And.intro K7 (And.intro hone (And.intro hlA hlB))))
        have hnA : n < (ints .i64 (Mt.look Bs.put st1 x).ah).length := by rw [ints_length, hlA]; exact hn
        have hxB : x < (ints .i64 (Mt.look Bs.put st1 x).bk).length := by rw [ints_length, hlB]; exact hxN
        have f0 : decide ((0 : Int) ≤ (n : Int)) = true := by simp
        have f1 : decide ((n : Int) < (N : Int)) = true := by simp; omega
        have f2 : decide ((0 : Int) ≤ (x : Int)) = true := by simp
        have f3 : decide ((x : Int) < (N : Int)) = true := by simp; omega
        have f4 : (n : Int) < (N : Int) := by omega
        have f5 : (x : Int) < (N : Int) := by omega
        clear hlA hlB hq3 hq4 hm1 hm2
        change Code.wpIn (Fence.wide.inRound l0) _ _ _ _ _ _
        refine wpIn_walk_ph 15 (fun i => ([13] : List Nat).contains i) (fun i => ([5,6,7,9,11] : List Nat).contains i) [13] (by intro m h; simpa using h) (by kernel_rfl) (by kernel_rfl) (by rintro ⟨_, _, h⟩; exact h) (by kernel_rfl) [] (by kernel_rfl) (fun w w' => Below w.heap.size w w') (fun w' => (Keeps (fun i => i = ga) w7 w' ∧ w'.cell? ⟨q, 0, none⟩ = some (.pointer (some ⟨gm, 0, none⟩)) ∧ w'.cell? ⟨q + 1, 0, none⟩ = some (.int .i64 (n : Int)) ∧ w'.cell? ⟨gm, 1, none⟩ = some (.slice (some ⟨ga, 0, none⟩) N N) ∧ w'.cell? ⟨gm, 2, none⟩ = some (.slice (some ⟨gb, 0, none⟩) N N))) (fun c _ w' => match c with | 0 => Blk w' ga 3 (ints .i64 (Mt.look Bs.put st1 x).ah) | _ + 1 => Blk w' ga 3 ((ints .i64 (Mt.look Bs.put st1 x).ah).set n (.int .i64 (x : Int)))) hP0 (fun _ => hI0) (fun c ρ w w' h k => by cases c with | zero => exact h.below k | succ c => exact h.below k) (fun _ _ _ h => h) (fun c ρ ρ' w hL h => by cases c with | zero => exact h | succ c => exact h) ?_
        simp only [List.length_cons, List.length_nil, Nat.reduceAdd, Nat.reduceSub, List.take_succ_cons, List.take_zero, List.drop_succ_cons, List.drop_zero]
        repeat (first | (refine psettle_skip (by rfl) (fun _ => by rfl) ?_; (simp only [Act.put, List.setIfInBounds_toArray, List.set_cons_zero, List.set_cons_succ])) | (refine' psettle_run (by rfl) (fun _ _ => Below.refl _ _) (fun _ => by rfl) ?_ ?_; rotate_left; (focus (intro ρ w hS hF hP; (try dsimp only at hS); go_split_ands; go_simp; try with_reducible rfl)); (simp only [Act.put, List.setIfInBounds_toArray, List.set_cons_zero, List.set_cons_succ])))
        (refine psettle_turn (v := undef) (by rfl) (fun _ => by rfl) ?_ ?_; (focus (intro ρ w hS hF hP K hK; (simp only [Act.put, List.setIfInBounds_toArray, List.set_cons_zero, List.set_cons_succ] at hK); (have hI : Blk w ga 3 (ints .i64 (Mt.look Bs.put st1 x).ah) := hP (by rfl); refine wp_set_blk hI (.tmp 61) (.tmp 59) n (.int .i64 (x : Int)) (by kernel_rfl) hnA rfl rfl rfl rfl rfl ?_; intro w' hr' hg'; exact hK _ (keepP _ (hS.1.trans ((Keeps.of_grown hg').mono fun i hi => by injection hi))) hr'))); (simp only [Act.put, List.setIfInBounds_toArray, List.set_cons_zero, List.set_cons_succ]))
        repeat (first | (refine psettle_skip (by rfl) (fun _ => by rfl) ?_; (simp only [Act.put, List.setIfInBounds_toArray, List.set_cons_zero, List.set_cons_succ])) | (refine' psettle_run (by rfl) (fun _ _ => Below.refl _ _) (fun _ => by rfl) ?_ ?_; rotate_left; (focus (intro ρ w hS hF hP; (try dsimp only at hS); go_split_ands; go_simp; try with_reducible rfl)); (simp only [Act.put, List.setIfInBounds_toArray, List.set_cons_zero, List.set_cons_succ])))
        refine psettle_nil ?_
        intro ρ w10 hS hI _
        have hk10 := hS.1
        have hA10 : Blk w10 ga 3 ((ints .i64 (Mt.look Bs.put st1 x).ah).set n (.int .i64 (x : Int))) := hI
        clear hS hI hP0 hI0 keepP
        dsimp only
        obtain ⟨M8', K8', hone', -, -⟩ := HL.out
        have hB10 := M8'.bk.keeps hk10 (fun e => hG.ne.1 e.symm)
        refine wpl_set_blk hB10 x (.int .i64 (n : Int)) (by kernel_rfl) hxB rfl rfl rfl rfl rfl rfl ?_
        intro w11 hB11 hg11
        obtain ⟨hgo, -, bW3, -, -⟩ := HQ.out
        have hg10 : w7.grownBy w10 (some ga) := ⟨hk10.os, hk10.tape, hk10.output, hk10.size, fun k hk hne => hk10.block k hk (fun e => hne (by rw [e]))⟩
        rw [ints_set'] at hA10 hB11
        have M11 := MtR.pair hG M8' hn hxN hA10 hg10 hB11 hg11
        have K11 : Keeps (MtK ga gb gs) w2 w11 := (K8'.step hk10 (fun i _ e => .inl e)).step ((Keeps.of_grown hg11).mono (S' := fun i => i = gb) fun i hi => by injection hi) fun i _ e => .inr (.inl e)
        have b11 : Boxed w11 (q + 1 + 1 + 1) 4 (.bool false) := ((hk.trans K11).block _ bW3.lt (hnq (q + 1 + 1 + 1) (by omega))).trans bW3
        have y11 := b11.cell
        have z11 := b11.frozen
        have HE := Lib.hid (And.intro M11 (And.intro K11 (And.intro b11 (And.intro hgo hone'))))
        clear hA10 hB11 hg11 hg10 M11 K11 b11 hk10 hB10 M8' K8' hone' hgo bW3 HL
        go_wp2_with fail
        gi_wp2
        obtain ⟨M11, K11, b11, hgo, hone'⟩ := HE.out
        have hg12 := grown_setCell w11 (q + 1 + 1 + 1) 0 (.bool true)
        have M12 := MtR.box hG M11 b11 (by omega) hg12
        have K12 : Keeps (fun k => MtK ga gb gs k ∨ k = q + 1 + 1 + 1) W0 (w11.setCell ⟨q + 1 + 1 + 1, 0, none⟩ (.bool true)) := ((hk.trans K11).mono (fun _ h => .inl h)).trans ((Keeps.of_grown hg12).mono fun i hi => .inr (by injection hi))
        refine ⟨(keepsFrom_of K11 (by omega) (by omega) (by omega)).trans (KeepsFrom.of_grownBy hg12 (fun j e => by injection e; omega)), ⟨⟨rfl, ?_, ?_, b11.set (.bool true)⟩, K12⟩⟩
        · show (Mt.goW B f n ((pre ++ [(⟨x, hxm⟩ : { x : Nat // x ∈ Bs.ls 0 xs })]).map (·.1)) st).1 = true
          rw [hgo, hone']
        · show MtR N w0 _ gm ga gb gs lim _ c (Mt.goW B f n ((pre ++ [(⟨x, hxm⟩ : { x : Nat // x ∈ Bs.ls 0 xs })]).map (·.1)) st).2
          rw [hgo, hone']
          exact M12
      · obtain ⟨y, rfl⟩ := Int.eq_ofNat_of_zero_le (show 0 ≤ k0 by omega)
        rw [if_neg hneg, Int.toNat_natCast] at hone
        have g0 : decide ((y : Int) < 0) = false := by simp
        have hun : Mt.unseen Bs.bit N (Mt.look Bs.put st1 x).sn < f := by
          have h1 : Mt.unseen Bs.bit N (Bs.put st1.sn x) < Mt.unseen Bs.bit N st1.sn := Mt.unseen_add Bs.bit_put hxN hb
          have h2 := HQ.out.2.1
          have h3 : (Mt.look Bs.put st1 x).sn = Bs.put st1.sn x := rfl
          rw [h3]
          omega
        have hlw6 : lim ≤ w6.heap.size := Nat.le_trans hlw2 K6.size
        have gC := fun w' (hbw : Below w6.heap.size w6 w') => ih y (Mt.look Bs.put st1 x) w' (by omega) (Nat.le_trans hlw6 hbw.size) hun (M6.below hbw)
        have hS0 : w6.drew.cell? ⟨q, 0, none⟩ = some (.pointer (some ⟨gm, 0, none⟩)) ∧ w6.drew.cell? ⟨q + 1 + 1, 0, none⟩ = some (.pointer (some ⟨gs, 0, none⟩)) ∧ w6.drew.cell? ⟨gm, 2, none⟩ = some (.slice (some ⟨gb, 0, none⟩) N N) ∧ w6.drew.cell? ⟨gb, x, none⟩ = some (.int .i64 (y : Int)) ∧ ∃ k, w6.drew = w6.drewN k := ⟨eq0, eq2, em2, ebk, 1, rfl⟩
        clear eq0 em2 ebk eq2 hun
        go_wp2_with fail
        gi_wp2_with fail
        change Code.wpIn (Fence.wide.inRound l0) _ _ _ _ _ _
        refine wpIn_walk_tail 18 (by kernel_rfl) (by kernel_rfl) (by rintro ⟨_, _, h⟩; exact h) (fun _ _ => True) (fun w' => (w'.cell? ⟨q, 0, none⟩ = some (.pointer (some ⟨gm, 0, none⟩)) ∧ w'.cell? ⟨q + 1 + 1, 0, none⟩ = some (.pointer (some ⟨gs, 0, none⟩)) ∧ w'.cell? ⟨gm, 2, none⟩ = some (.slice (some ⟨gb, 0, none⟩) N N) ∧ w'.cell? ⟨gb, x, none⟩ = some (.int .i64 (y : Int)) ∧ ∃ k, w' = w6.drewN k)) hS0 ?_
        simp only [List.length_cons, List.length_nil, Nat.reduceAdd, Nat.reduceSub, List.take_succ_cons, List.take_zero, List.drop_succ_cons, List.drop_zero]
        repeat (first | (refine settle_skip (fun _ => by rfl) ?_; (simp only [Act.put, List.setIfInBounds_toArray, List.set_cons_zero, List.set_cons_succ])) | (refine' settle_run (fun _ _ => trivial) (fun _ => by rfl) ?_ ?_; rotate_left; (focus (intro ρ w hS hF; (try dsimp only at hS); go_split_ands; go_simp; try with_reducible rfl)); (simp only [Act.put, List.setIfInBounds_toArray, List.set_cons_zero, List.set_cons_succ])))
        refine settle_nil ?_
        intro ρ w7 hS _
        obtain ⟨-, -, -, -, kd, rfl⟩ := hS
        have gC7 := gC _ (below_drewN (Below.refl _ _) kd)
        have K7 : Keeps (MtK ga gb gs) w2 (w6.drewN kd) := K6.drewN kd
        generalize w6.drewN kd = w7 at gC7 K7 ⊢
        clear M6 K6 hS0 gC
        dsimp only
        go_wp2_with fail
        refine gC7.mono ?_
        rintro e w8 ⟨rfl, M8, K8⟩
        have K28 := K7.trans K8
        clear gC7 K7 K8
        obtain ⟨fr, hfr⟩ : ∃ fr, fr = Mt.frW B f y (Mt.look Bs.put st1 x) := ⟨_, rfl⟩
        rw [← hfr] at M8 hone ⊢
        clear hfr
        obtain ⟨fb, st8⟩ := fr
        dsimp only at M8 hone ⊢
        rcases fb with _ | _
        · simp only [Bool.false_eq_true, if_false] at hone
          have HE := Lib.hid (And.intro M8 (And.intro K28 hone))
          clear M8 K28 hone
          go_wp2_with fail
          gi_wp2_with fail
          obtain ⟨M8, K28, hone⟩ := HE.out
          obtain ⟨hgo, -, -, -, -⟩ := HQ.out
          refine ⟨keepsFrom_of K28 (by omega) (by omega) (by omega), kpT_of_keeps K28 hW0W, ⟨?_, ?_⟩, hk.trans K28⟩
          · show MtR N w0 _ gm ga gb gs lim _ c (Mt.goW B f n ((pre ++ [(⟨x, hxm⟩ : { x : Nat // x ∈ Bs.ls 0 xs })]).map (·.1)) st).2
            rw [hgo, hone]
            exact M8
          · show (Mt.goW B f n ((pre ++ [(⟨x, hxm⟩ : { x : Nat // x ∈ Bs.ls 0 xs })]).map (·.1)) st).1 = false
            rw [hgo, hone]
        · simp only [if_true] at hone
          go_wp2_with fail
          gi_wp2_with fail
          -- w8 world, M8 its reading, K28 Keeps MtK W' it, st8 the state, hone the step told
          have hq3 : w8.cell? ⟨q, 0, none⟩ = some (.pointer (some ⟨gm, 0, none⟩)) := (hk.trans K28).cell eW0 (hnq q (Nat.le_refl _))
          have hq4 : w8.cell? ⟨q + 1, 0, none⟩ = some (.int .i64 (n : Int)) := (hk.trans K28).cell eW1 (hnq (q + 1) (by omega))
          have hm1 : w8.cell? ⟨gm, 1, none⟩ = some (.slice (some ⟨ga, 0, none⟩) N N) := (M8.m.cell 1).trans rfl
          have hm2 : w8.cell? ⟨gm, 2, none⟩ = some (.slice (some ⟨gb, 0, none⟩) N N) := (M8.m.cell 2).trans rfl
          have hqa : q ≠ ga ∧ q + 1 ≠ ga ∧ gm ≠ ga := ⟨by omega, by omega, fun e => hG.ne.2.1 e.symm⟩
          have keepP : ∀ w', Keeps (fun i => i = ga) w8 w' → (Keeps (fun i => i = ga) w8 w' ∧ w'.cell? ⟨q, 0, none⟩ = some (.pointer (some ⟨gm, 0, none⟩)) ∧ w'.cell? ⟨q + 1, 0, none⟩ = some (.int .i64 (n : Int)) ∧ w'.cell? ⟨gm, 1, none⟩ = some (.slice (some ⟨ga, 0, none⟩) N N) ∧ w'.cell? ⟨gm, 2, none⟩ = some (.slice (some ⟨gb, 0, none⟩) N N)) := fun w' hk => ⟨hk, hk.cell hq3 hqa.1, hk.cell hq4 hqa.2.1, hk.cell hm1 hqa.2.2, hk.cell hm2 hqa.2.2⟩
          have hP0 := keepP _ ((Keeps.refl _ w8).drewN 1)
          have hI0 : Blk w8.drew ga 3 (ints .i64 (st8).ah) := M8.ah
          have hlA : (st8).ah.length = N := M8.ok.lenA
          have hlB : (st8).bk.length = N := M8.ok.lenB
          have HL := Lib.hid (And.intro M8 (And.intro K28 (And.intro hone (And.intro hlA hlB))))
          have hnA : n < (ints .i64 (st8).ah).length := by rw [ints_length, hlA]; exact hn
          have hxB : x < (ints .i64 (st8).bk).length := by rw [ints_length, hlB]; exact hxN
          have f0 : decide ((0 : Int) ≤ (n : Int)) = true := by simp
          have f1 : decide ((n : Int) < (N : Int)) = true := by simp; omega
          have f2 : decide ((0 : Int) ≤ (x : Int)) = true := by simp
          have f3 : decide ((x : Int) < (N : Int)) = true := by simp; omega
          have f4 : (n : Int) < (N : Int) := by omega
          have f5 : (x : Int) < (N : Int) := by omega
          clear hlA hlB hq3 hq4 hm1 hm2
          change Code.wpIn (Fence.wide.inRound l0) _ _ _ _ _ _
          refine wpIn_walk_ph 15 (fun i => ([13] : List Nat).contains i) (fun i => ([5,6,7,9,11] : List Nat).contains i) [13] (by intro m h; simpa using h) (by kernel_rfl) (by kernel_rfl) (by rintro ⟨_, _, h⟩; exact h) (by kernel_rfl) [] (by kernel_rfl) (fun w w' => Below w.heap.size w w') (fun w' => (Keeps (fun i => i = ga) w8 w' ∧ w'.cell? ⟨q, 0, none⟩ = some (.pointer (some ⟨gm, 0, none⟩)) ∧ w'.cell? ⟨q + 1, 0, none⟩ = some (.int .i64 (n : Int)) ∧ w'.cell? ⟨gm, 1, none⟩ = some (.slice (some ⟨ga, 0, none⟩) N N) ∧ w'.cell? ⟨gm, 2, none⟩ = some (.slice (some ⟨gb, 0, none⟩) N N))) (fun c _ w' => match c with | 0 => Blk w' ga 3 (ints .i64 (st8).ah) | _ + 1 => Blk w' ga 3 ((ints .i64 (st8).ah).set n (.int .i64 (x : Int)))) hP0 (fun _ => hI0) (fun c ρ w w' h k => by cases c with | zero => exact h.below k | succ c => exact h.below k) (fun _ _ _ h => h) (fun c ρ ρ' w hL h => by cases c with | zero => exact h | succ c => exact h) ?_
          simp only [List.length_cons, List.length_nil, Nat.reduceAdd, Nat.reduceSub, List.take_succ_cons, List.take_zero, List.drop_succ_cons, List.drop_zero]
          repeat (first | (refine psettle_skip (by rfl) (fun _ => by rfl) ?_; (simp only [Act.put, List.setIfInBounds_toArray, List.set_cons_zero, List.set_cons_succ])) | (refine' psettle_run (by rfl) (fun _ _ => Below.refl _ _) (fun _ => by rfl) ?_ ?_; rotate_left; (focus (intro ρ w hS hF hP; (try dsimp only at hS); go_split_ands; go_simp; try with_reducible rfl)); (simp only [Act.put, List.setIfInBounds_toArray, List.set_cons_zero, List.set_cons_succ])))
          (refine psettle_turn (v := undef) (by rfl) (fun _ => by rfl) ?_ ?_; (focus (intro ρ w hS hF hP K hK; (simp only [Act.put, List.setIfInBounds_toArray, List.set_cons_zero, List.set_cons_succ] at hK); (have hI : Blk w ga 3 (ints .i64 (st8).ah) := hP (by rfl); refine wp_set_blk hI (.tmp 61) (.tmp 59) n (.int .i64 (x : Int)) (by kernel_rfl) hnA rfl rfl rfl rfl rfl ?_; intro w' hr' hg'; exact hK _ (keepP _ (hS.1.trans ((Keeps.of_grown hg').mono fun i hi => by injection hi))) hr'))); (simp only [Act.put, List.setIfInBounds_toArray, List.set_cons_zero, List.set_cons_succ]))
          repeat (first | (refine psettle_skip (by rfl) (fun _ => by rfl) ?_; (simp only [Act.put, List.setIfInBounds_toArray, List.set_cons_zero, List.set_cons_succ])) | (refine' psettle_run (by rfl) (fun _ _ => Below.refl _ _) (fun _ => by rfl) ?_ ?_; rotate_left; (focus (intro ρ w hS hF hP; (try dsimp only at hS); go_split_ands; go_simp; try with_reducible rfl)); (simp only [Act.put, List.setIfInBounds_toArray, List.set_cons_zero, List.set_cons_succ])))
          refine psettle_nil ?_
          intro ρ w10 hS hI _
          have hk10 := hS.1
          have hA10 : Blk w10 ga 3 ((ints .i64 (st8).ah).set n (.int .i64 (x : Int))) := hI
          clear hS hI hP0 hI0 keepP
          dsimp only
          obtain ⟨M8', K8', hone', -, -⟩ := HL.out
          have hB10 := M8'.bk.keeps hk10 (fun e => hG.ne.1 e.symm)
          refine wpl_set_blk hB10 x (.int .i64 (n : Int)) (by kernel_rfl) hxB rfl rfl rfl rfl rfl rfl ?_
          intro w11 hB11 hg11
          obtain ⟨hgo, -, bW3, -, -⟩ := HQ.out
          have hg10 : w8.grownBy w10 (some ga) := ⟨hk10.os, hk10.tape, hk10.output, hk10.size, fun k hk hne => hk10.block k hk (fun e => hne (by rw [e]))⟩
          rw [ints_set'] at hA10 hB11
          have M11 := MtR.pair hG M8' hn hxN hA10 hg10 hB11 hg11
          have K11 : Keeps (MtK ga gb gs) w2 w11 := (K8'.step hk10 (fun i _ e => .inl e)).step ((Keeps.of_grown hg11).mono (S' := fun i => i = gb) fun i hi => by injection hi) fun i _ e => .inr (.inl e)
          have b11 : Boxed w11 (q + 1 + 1 + 1) 4 (.bool false) := ((hk.trans K11).block _ bW3.lt (hnq (q + 1 + 1 + 1) (by omega))).trans bW3
          have y11 := b11.cell
          have z11 := b11.frozen
          have HE := Lib.hid (And.intro M11 (And.intro K11 (And.intro b11 (And.intro hgo hone'))))
          clear hA10 hB11 hg11 hg10 M11 K11 b11 hk10 hB10 M8' K8' hone' hgo bW3 HL
          go_wp2_with fail
          gi_wp2
          obtain ⟨M11, K11, b11, hgo, hone'⟩ := HE.out
          have hg12 := grown_setCell w11 (q + 1 + 1 + 1) 0 (.bool true)
          have M12 := MtR.box hG M11 b11 (by omega) hg12
          have K12 : Keeps (fun k => MtK ga gb gs k ∨ k = q + 1 + 1 + 1) W0 (w11.setCell ⟨q + 1 + 1 + 1, 0, none⟩ (.bool true)) := ((hk.trans K11).mono (fun _ h => .inl h)).trans ((Keeps.of_grown hg12).mono fun i hi => .inr (by injection hi))
          refine ⟨(keepsFrom_of K11 (by omega) (by omega) (by omega)).trans (KeepsFrom.of_grownBy hg12 (fun j e => by injection e; omega)), ⟨⟨rfl, ?_, ?_, b11.set (.bool true)⟩, K12⟩⟩
          · show (Mt.goW B f n ((pre ++ [(⟨x, hxm⟩ : { x : Nat // x ∈ Bs.ls 0 xs })]).map (·.1)) st).1 = true
            rw [hgo, hone']
          · show MtR N w0 _ gm ga gb gs lim _ c (Mt.goW B f n ((pre ++ [(⟨x, hxm⟩ : { x : Nat // x ∈ Bs.ls 0 xs })]).map (·.1)) st).2
            rw [hgo, hone']
            exact M12
    · gi_wp2_with fail
      obtain ⟨hgo, -, -, -, -⟩ := HQ.out
      have hone : Mt.oneW B f n x st1 = (false, st1) := by unfold Mt.oneW; rw [if_pos hb]
      refine ⟨KeepsFrom.refl _ _, KpT.refl _ _ _ _ _, ⟨?_, ?_⟩, hk⟩
      · show MtR N w0 _ gm ga gb gs lim _ c (Mt.goW B f n ((pre ++ [(⟨x, hxm⟩ : { x : Nat // x ∈ Bs.ls 0 xs })]).map (·.1)) st).2
        rw [hgo, hone]
        exact hM
      · show (Mt.goW B f n ((pre ++ [(⟨x, hxm⟩ : { x : Nat // x ∈ Bs.ls 0 xs })]).map (·.1)) st).1 = false
        rw [hgo, hone]
  case done =>
    rintro D ys W' hD hys ⟨⟨hM, hf⟩, hk⟩ hK
    obtain ⟨sx, hgx, hu, h, hq, hxs, hbW0, hsl0, hC0⟩ := HX.out
    obtain ⟨b0, b1, b2, b3, hbQ, hz, hW⟩ := HB.out
    have bW3 : Boxed W0 (q + 1 + 1 + 1) 4 (.bool false) := (hbQ.block _ b3.lt).trans b3
    have b4 : Boxed W' (q + 1 + 1 + 1) 4 (.bool false) := (hk.block _ bW3.lt (by unfold MtK; omega)).trans bW3
    have y4 := b4.cell
    have z4 := b4.frozen
    have hgo : Mt.goW B f n (ys.map (·.1)) st = R := by rw [hys, HR.out]
    rw [hgo] at hM hf
    have hlq : lim ≤ q := by omega
    have hw0 := hbW0.size
    have HE := Lib.hid (And.intro hM (And.intro hf (And.intro hk (And.intro b4 (And.intro hq hbW0)))))
    clear sx hgx hu h hq hxs hbW0 hsl0 hC0 b0 b1 b2 b3 hbQ hz hW bW3 hM hf hk b4 hgo hys
    go_wp2
    obtain ⟨hM, hf, hk, b4, hq, hbW0⟩ := HE.out
    have hK' := (KeepsOthers.setCell W' ⟨q + 1 + 1 + 1, 0, none⟩ (.bool false)).same D _ hK rfl
    refine ⟨by simp, .inl ⟨_, _, rfl, run_takeDeferred hK', ?_⟩⟩
    have hg1 := grown_setCell W' (q + 1 + 1 + 1) 0 (.bool false)
    have hg2 := grownBy_putObj' (W'.setCell ⟨q + 1 + 1 + 1, 0, none⟩ (.bool false)) D (.deferred none)
    have hc5 := cell_kept (World.cell?_setCell_same' W' ⟨q + 1 + 1 + 1, 0, none⟩ (.bool false) (by rw [y4]; rfl)) hg2 (fun r e => by cases e; exact ⟨_, hK', rfl⟩)
    have M1 := MtR.box hG hM b4 (by omega) hg1
    have M2 := M1.kept hg2 (fun r e => by cases e; exact ⟨by have := M0.bel.size; omega, _, hK', rfl⟩)
    refine ⟨.bool false, by simp [results, Tryd.results64, go_sem, hc5], by rw [hf], M2, ?_⟩
    have k0 : Keeps (MtK ga gb gs) w W' := (Keeps.of_below hbW0 _).trans hk
    exact (k0.step (Keeps.of_grown hg1) (fun i hi e => by injection e with e; omega)).step (Keeps.of_grown hg2) (fun i hi e => by injection e with e; omega)
  case stop =>
    rintro D cc pre W' hD ⟨t, ht⟩ ⟨⟨rfl, hf, hM, b4⟩, hk⟩ hK
    obtain ⟨sx, hgx, hu, h, hq, hxs, hbW0, hsl0, hC0⟩ := HX.out
    have hgo : Mt.goW B f n (pre.map (·.1)) st = R := by
      rw [HR.out]
      exact ((congrArg (fun l => Mt.goW B f n l st) ht).trans (Mt.goW_stop hf)).symm
    rw [hgo] at hM hf
    have hlq : lim ≤ q := by omega
    have y4 := b4.cell
    have HE := Lib.hid (And.intro hM (And.intro hf (And.intro hk (And.intro b4 (And.intro hq hbW0)))))
    clear sx hgx hu h hq hxs hbW0 hsl0 hC0 hM hf hk b4 hgo ht
    gi_wp2
    obtain ⟨hM, hf, hk, b4, hq, hbW0⟩ := HE.out
    refine ⟨by simp, .inl ⟨_, _, rfl, run_takeDeferred hK, ?_⟩⟩
    have hg2 := grownBy_putObj' W' D (.deferred none)
    have hc5 := cell_kept y4 hg2 (fun r e => by cases e; exact ⟨_, hK, rfl⟩)
    have M2 := hM.kept hg2 (fun r e => by cases e; exact ⟨by have := M0.bel.size; omega, _, hK, rfl⟩)
    refine ⟨.bool true, by simp [results, Tryd.results64, go_sem, hc5], by rw [hf], M2, ?_⟩
    have k0 : Keeps (MtK ga gb gs) w W' := (Keeps.of_below hbW0 (MtK ga gb gs)).step hk (fun i hi e => e.elim id (fun e => by omega))
    exact k0.step (Keeps.of_grown hg2) (fun i hi e => by injection e with e; have := hbW0.size; omega)

theorem free_any (N : Nat) (hN : N ≤ 200) (B : List (List Nat)) (hBl : B.length = N) (hB : ∀ s ∈ B, Bs.Gs N s) (w0 : World) (hT : Tab w0) (gm ga gb gs lim : Nat) (hG : MtG w0 gm ga gb gs lim) (A : Option Addr) (c : Nat) (hv : SlW w0 (.slice A N c) B) : ∀ f, FreeOK N B w0 gm ga gb gs lim A c f
  | 0 => fun n st w _ _ h _ => absurd h (Nat.not_lt_zero _)
  | f + 1 => free_step N hN B hBl hB w0 hT gm ga gb gs lim hG A c hv f (free_any N hN B hBl hB w0 hT gm ga gb gs lim hG A c hv f)
end Go.Proofs.YtfjmhmfkhgjnhaaDoor


namespace Go.Proofs.YtfjmhmfkhgjnhaaDoor
set_option linter.unusedVariables false
set_option linter.unusedSimpArgs false
set_option maxRecDepth 100000
open Go.RowKit Go.Shelf

namespace Mt
def prW (B : List (List Nat)) (N i : Nat) : List Int × List Int := pr Bs.bit Bs.put [] (nbW B) N i
theorem nbW_lt {B : List (List Nat)} {N : Nat} (hB : ∀ s ∈ B, Bs.Gs N s) (n : Nat) : ∀ k ∈ nbW B n, k < N := fun k hk => by
  unfold nbW at hk
  rcases h : B[n]? with _ | s
  · rw [List.getD_eq_getElem?_getD, h] at hk
    simp [Bs.ls] at hk
  · rw [List.getD_eq_getElem?_getD, h, Option.getD_some] at hk
    have hg := hB s (List.mem_of_getElem? h)
    exact hg.lt k ((Bs.mem_list hg.ws k).1 hk)
theorem prW_best {B : List (List Nat)} {N : Nat} (hB : ∀ s ∈ B, Bs.Gs N s) {i : Nat} (hi : i ≤ N) : Best (nbW B) N i (prW B N i).1 (prW B N i).2 := best_pr Bs.bit_put Bs.bit_nil (nbW_lt hB) i hi
theorem val_up {nb : Nat → List Nat} {N : Nat} {ah bk : List Int} (h : Val nb N ah bk) : (∀ v ∈ ah, -1 ≤ v ∧ v < (N : Int)) ∧ ∀ v ∈ bk, -1 ≤ v ∧ v < (N : Int) := by
  refine ⟨fun v hv => ⟨h.lowA v hv, ?_⟩, fun v hv => ⟨h.lowB v hv, ?_⟩⟩
  · obtain ⟨y, hy⟩ := List.getElem?_of_mem hv
    have hyN : y < N := by have := (List.getElem?_eq_some_iff.1 hy).1; rw [h.lenA] at this; exact this
    have e : ah.getD y (-1) = v := by rw [List.getD_eq_getElem?_getD, hy]; rfl
    rcases neg_of h.lowA y with h0 | ⟨k, hk⟩
    · omega
    · have := (h.fw y k hyN hk).1; omega
  · obtain ⟨y, hy⟩ := List.getElem?_of_mem hv
    have hyN : y < N := by have := (List.getElem?_eq_some_iff.1 hy).1; rw [h.lenB] at this; exact this
    have e : bk.getD y (-1) = v := by rw [List.getD_eq_getElem?_getD, hy]; rfl
    rcases neg_of h.lowB y with h0 | ⟨k, hk⟩
    · omega
    · have := (h.bw y k hyN hk).1; omega
end Mt

/-- a matching, as match returns it -/
structure MtB (N : Nat) (W : World) (gm ga gb : Nat) (v : Value) (ah bk : List Int) : Prop where
  m : Blk W gm 86 [v, .slice (some ⟨ga, 0, none⟩) N N, .slice (some ⟨gb, 0, none⟩) N N]
  ah : Blk W ga 3 (ints .i64 ah)
  bk : Blk W gb 3 (ints .i64 bk)
theorem MtB.below {N : Nat} {W W' : World} {gm ga gb : Nat} {v : Value} {ah bk : List Int} (h : MtB N W gm ga gb v ah bk) (hb : Below W.heap.size W W') : MtB N W' gm ga gb v ah bk := ⟨h.m.below hb, h.ah.below hb, h.bk.below hb⟩

set_option maxRecDepth 20000 in
set_option maxHeartbeats 4000000 in
theorem match_any (N : Nat) (hN : N ≤ 200) (B : List (List Nat)) (hBl : B.length = N) (hB : ∀ s ∈ B, Bs.Gs N s) (w : World) (hT : Tab w) (A : Option Addr) (c : Nat) (hv : SlW w (.slice A N c) B) :
    Calls Tryd.prog 43 #[.slice A N c] w fun e w' => ∃ gm ga gb, e = .returned (.pointer (some ⟨gm, 0, none⟩)) ∧ MtB N w' gm ga gb (.slice A N c) (Mt.prW B N N).1 (Mt.prW B N N).2 ∧ (w.heap.size ≤ gm ∧ w.heap.size ≤ ga ∧ w.heap.size ≤ gb) ∧ Below w.heap.size w w' := by
  have hNw : N ≤ 65535 := by omega
  go_enter Tryd.func43, Tryd.ntmps43
  go_wp2_with fail
  have s1 : SlV (w.alloc (.cells #[.int .i64 (-1)] 3)) 1 (.slice (some ⟨w.heap.size, 0, none⟩) 1 1) 1 [.int .i64 (-1)] := by
    have h1 := Cells.new w [Value.int .i64 (-1)] 3
    exact ⟨_, _, rfl, Nat.le_refl _, by decide, rfl, by simpa using h1⟩
  have hb1 : Below w.heap.size w (w.alloc (.cells #[.int .i64 (-1)] 3)) := below_alloc (Below.refl _ _) _
  refine (repeat_neg _ _ N s1 hNw).mono ?_
  rintro e w1 ⟨ga, rfl, hA, hga, hb2⟩
  have hbw1 := below_next hb2 hb1
  have hga' : w.heap.size ≤ ga := by have := hb1.size; omega
  clear s1 hb1 hb2 hga
  go_wp2_with fail
  have s2 : SlV (w1.alloc (.cells #[.int .i64 (-1)] 3)) 1 (.slice (some ⟨w1.heap.size, 0, none⟩) 1 1) 1 [.int .i64 (-1)] := by
    have h1 := Cells.new w1 [Value.int .i64 (-1)] 3
    exact ⟨_, _, rfl, Nat.le_refl _, by decide, rfl, by simpa using h1⟩
  have hb3 : Below w1.heap.size w1 (w1.alloc (.cells #[.int .i64 (-1)] 3)) := below_alloc (Below.refl _ _) _
  refine (repeat_neg _ _ N s2 hNw).mono ?_
  rintro e w2 ⟨gb, rfl, hBk, hgb, hb4⟩
  have hb5 := below_next hb4 hb3
  have hA2 := hA.below hb5
  have hbw2 := below_next hb5 hbw1
  have hab : ga < gb := by have := hA.lt; have := hb3.size; omega
  have hl2 := hBk.lt
  clear s2 hb3 hb4 hgb hb5 hA
  go_upto_region 3 with (fail)
  have hM := Blk.new w2 86 [.slice A N c, .slice (some ⟨ga, 0, none⟩) N N, .slice (some ⟨gb, 0, none⟩) N N]
  have hbm : Below w2.heap.size w2 (w2.alloc (.cells ([.slice A N c, .slice (some ⟨ga, 0, none⟩) N N, .slice (some ⟨gb, 0, none⟩) N N] : List Value).toArray 86)) := below_alloc (Below.refl _ _) _
  obtain ⟨gm, hgm⟩ : ∃ gm, gm = w2.heap.size := ⟨_, rfl⟩
  have h0 : MtB N (w2.alloc (.cells ([.slice A N c, .slice (some ⟨ga, 0, none⟩) N N, .slice (some ⟨gb, 0, none⟩) N N] : List Value).toArray 86)) gm ga gb (.slice A N c) (Mt.prW B N 0).1 (Mt.prW B N 0).2 := ⟨by rw [hgm]; exact hM, hA2.below hbm, hBk.below hbm⟩
  have hbw3 := below_next hbm hbw2
  have hgm' : w.heap.size ≤ gm ∧ gb < gm ∧ ga < gm := ⟨by have := hbw2.size; omega, by omega, by omega⟩
  have hgb' : w.heap.size ≤ gb := by omega
  rw [← hgm]
  generalize (w2.alloc (.cells #[.slice A N c, .slice (some ⟨ga, 0, none⟩) N N, .slice (some ⟨gb, 0, none⟩) N N] 86)) = w3 at h0 hbw3 ⊢
  have HG := Lib.hid (And.intro hgm' (And.intro hgb' (And.intro hga' hab)))
  clear hM hbm hgm hA2 hBk hbw2 hbw1 hl2 hgm' hgb' hga' hab
  go_wp2_with fail
  go_loopw [19] (fun i wr => ∃ k : Nat, k ≤ N ∧ i = .int .i64 (k : Int) ∧ MtB N wr gm ga gb (.slice A N c) (Mt.prW B N k).1 (Mt.prW B N k).2 ∧ Below w.heap.size w wr) (fun i _ => N - (intOf i).toNat)
  case atStart => exact ⟨0, Nat.zero_le _, rfl, h0, hbw3⟩
  case round =>
    clear h0 hbw3
    obtain ⟨k, hk, rfl, hM, hb⟩ := hrel
    by_cases hlt : k < N
    · have bs := Blk.new wr 78 [.slice none 0 0]
      have hbs : Below wr.heap.size wr (wr.alloc (.cells ([.slice none 0 0] : List Value).toArray 78)) := below_alloc (Below.refl _ _) _
      have hzs : (wr.alloc (.cells ([.slice none 0 0] : List Value).toArray 78)).heap.size = wr.heap.size + 1 := by simp
      have hM1 := hM.below hbs
      have hb1 := below_next hbs hb
      obtain ⟨hgm', hgb', hga', hab⟩ := HG.out
      have lm := hM.m.lt
      have hG : MtG w gm ga gb wr.heap.size (wr.heap.size + 1) := ⟨⟨hgm'.1, hga', hgb', hb.size⟩, ⟨by omega, by omega, by omega, by omega⟩, ⟨by omega, by omega, by omega, by omega, by omega, by omega⟩⟩
      have hbest := Mt.prW_best hB hk
      obtain ⟨u1, u2⟩ := Mt.val_up hbest.val
      have hR : MtR N w (wr.alloc (.cells ([.slice none 0 0] : List Value).toArray 78)) gm ga gb wr.heap.size (wr.heap.size + 1) A c ⟨(Mt.prW B N k).1, (Mt.prW B N k).2, []⟩ :=
        ⟨hM1.m, hM1.ah, hM1.bk, ⟨_, bs, SlU.nil _, New.nil _ _ _⟩, hb1, ⟨hbest.val.lenA, hbest.val.lenB, u1, u2, Bs.Gs.nil N⟩⟩
      have gF := free_any N hN B hBl hB w hT gm ga gb wr.heap.size (wr.heap.size + 1) hG A c hv (N + 1) k ⟨(Mt.prW B N k).1, (Mt.prW B N k).2, []⟩ _ hlt (Nat.le_of_eq hzs.symm) (Nat.lt_succ_of_le (Mt.unseen_le _)) hR
      have HB := Lib.hid (And.intro hb1 hzs)
      clear hR hG hbest u1 u2 hM1 hb1 bs hbs hM hb lm
      go_wp2_with fail
      refine gF.mono ?_
      rintro e w5 ⟨rfl, M5, -⟩
      have h5 : MtB N w5 gm ga gb (.slice A N c) (Mt.prW B N (k + 1)).1 (Mt.prW B N (k + 1)).2 := ⟨M5.m, M5.ah, M5.bk⟩
      have hb5 := M5.bel
      clear gF M5 HB hzs
      go_wp2_with fail
      go_roundw
      case rel => exact ⟨k + 1, by omega, by go_num, h5, hb5⟩
      case measure => simp [intOf]; omega
    · obtain rfl : k = N := by omega
      have HE := Lib.hid (And.intro hM hb)
      clear hM hb
      go_wp2_with fail
      go_ret
      exact ⟨gm, ga, gb, rfl, HE.out.1, ⟨HG.out.1.1, HG.out.2.2.1, HG.out.2.1⟩, HE.out.2⟩
end Go.Proofs.YtfjmhmfkhgjnhaaDoor


namespace Go.Proofs.YtfjmhmfkhgjnhaaDoor.Mt
set_option linter.unusedVariables false
set_option linter.unusedSimpArgs false
set_option maxRecDepth 100000

section
variable {S : Type} (has : S → Nat → Bool) (add : S → Nat → S) (nb : Nat → List Nat) (bk : List Int)
/-- who is reached; who lies behind who is reached -/
def vgo (rec : Nat → S × S → S × S) : List Nat → S × S → S × S
  | [], p => p
  | k :: ks, p => if has p.2 k then vgo rec ks p else vgo rec ks (rec (bk.getD k (-1)).toNat (p.1, add p.2 k))
def vis : Nat → Nat → S × S → S × S
  | 0, _, p => p
  | f + 1, n, p => vgo has add bk (vis f) (nb n) (add p.1 n, p.2)
theorem vgo_app (rec : Nat → S × S → S × S) : ∀ (a b : List Nat) (p : S × S), vgo has add bk rec (a ++ b) p = vgo has add bk rec b (vgo has add bk rec a p)
  | [], b, p => rfl
  | k :: a, b, p => by
    simp only [List.cons_append, vgo]
    split
    · exact vgo_app rec a b p
    · exact vgo_app rec a b _
end

section
variable {S : Type} {has : S → Nat → Bool} {add : S → Nat → S} {nb : Nat → List Nat} {N : Nat} {ah bk : List Int}
/-- what a visit leaves -/
structure Vd (has : S → Nat → Bool) (nb : Nat → List Nat) (N : Nat) (bk : List Int) (p q : S × S) : Prop where
  f : ∀ x, has p.1 x = true → has q.1 x = true
  t : ∀ x, has p.2 x = true → has q.2 x = true
  on : ∀ x, has q.1 x = true → has p.1 x = true ∨ ∀ k ∈ nb x, has q.2 k = true
  back : ∀ k, has q.2 k = true → has p.2 k = true ∨ (k < N ∧ ∃ x : Nat, bk.getD k (-1) = (x : Int) ∧ has q.1 x = true)
  from_ : ∀ x, has q.1 x = true → has p.1 x = true ∨ ∃ k : Nat, has q.2 k = true ∧ bk.getD k (-1) = (x : Int)
theorem Vd.refl (p : S × S) : Vd has nb N bk p p := ⟨fun _ h => h, fun _ h => h, fun _ h => .inl h, fun _ h => .inl h, fun _ h => .inl h⟩
theorem Vd.trans {p q r : S × S} (h : Vd has nb N bk p q) (k : Vd has nb N bk q r) : Vd has nb N bk p r :=
  ⟨fun x hx => k.f x (h.f x hx), fun x hx => k.t x (h.t x hx), fun x hx => (k.on x hx).elim (fun hq => (h.on x hq).imp id fun a m hm => k.t m (a m hm)) .inr,
    fun m hm => (k.back m hm).elim (fun hq => (h.back m hq).imp id fun ⟨a, x, b, c⟩ => ⟨a, x, b, k.f x c⟩) .inr,
    fun x hx => (k.from_ x hx).elim (fun hq => (h.from_ x hq).imp id fun ⟨m, a, b⟩ => ⟨m, k.t m a, b⟩) .inr⟩
/-- from n: n is reached, and all behind it are told -/
structure Vn (has : S → Nat → Bool) (nb : Nat → List Nat) (N : Nat) (bk : List Int) (n : Nat) (p q : S × S) : Prop where
  f : ∀ x, has p.1 x = true → has q.1 x = true
  t : ∀ x, has p.2 x = true → has q.2 x = true
  me : has q.1 n = true
  all : ∀ k ∈ nb n, has q.2 k = true
  on : ∀ x, has q.1 x = true → has p.1 x = true ∨ ∀ k ∈ nb x, has q.2 k = true
  back : ∀ k, has q.2 k = true → has p.2 k = true ∨ (k < N ∧ ∃ x : Nat, bk.getD k (-1) = (x : Int) ∧ has q.1 x = true)
  from_ : ∀ x, has q.1 x = true → has p.1 x = true ∨ x = n ∨ ∃ k : Nat, has q.2 k = true ∧ bk.getD k (-1) = (x : Int)
theorem vis_is (hadd : ∀ s k x, has (add s k) x = (has s x || x == k)) (hnb : ∀ n, ∀ k ∈ nb n, k < N) {Z : Nat → Prop} (hZ : Shut nb Z bk) : ∀ (f n : Nat) (p : S × S), unseen has N p.2 < f → (∀ k ∈ nb n, Z k) → Vn has nb N bk n p (vis has add nb bk f n p) := by
  intro f
  induction f with
  | zero => intro n p h; omega
  | succ f ih =>
    intro n p hf hn
    show Vn has nb N bk n p (vgo has add bk (vis has add nb bk f) (nb n) (add p.1 n, p.2))
    have key : ∀ (ks : List Nat) (q : S × S), (∀ k ∈ ks, k < N) → (∀ k ∈ ks, Z k) → unseen has N q.2 < f + 1 → Vd has nb N bk q (vgo has add bk (vis has add nb bk f) ks q) ∧ ∀ k ∈ ks, has (vgo has add bk (vis has add nb bk f) ks q).2 k = true := by
      intro ks
      induction ks with
      | nil => intro q _ _ _; exact ⟨Vd.refl q, fun _ h => by cases h⟩
      | cons k ks ihk =>
        intro q hks hzs hq
        have hkN := hks k List.mem_cons_self
        have hkZ := hzs k List.mem_cons_self
        have hks' : ∀ x ∈ ks, x < N := fun x hx => hks x (List.mem_cons_of_mem _ hx)
        have hzs' : ∀ x ∈ ks, Z x := fun x hx => hzs x (List.mem_cons_of_mem _ hx)
        unfold vgo
        by_cases h1 : has q.2 k = true
        · rw [if_pos h1]
          obtain ⟨a, b⟩ := ihk q hks' hzs' hq
          exact ⟨a, fun x hx => by
            rcases List.mem_cons.1 hx with rfl | hx
            · exact a.t _ h1
            · exact b x hx⟩
        · rw [if_neg h1]
          obtain ⟨hk0, hkn⟩ := hZ k hkZ
          obtain ⟨y, hy⟩ := Int.eq_ofNat_of_zero_le hk0
          have hlt : unseen has N (add q.2 k) < unseen has N q.2 := unseen_add hadd hkN (by simpa using h1)
          have V := ih (bk.getD k (-1)).toNat (q.1, add q.2 k) (by show unseen has N (add q.2 k) < f; omega) hkn
          rw [hy, Int.toNat_natCast] at V ⊢
          generalize vis has add nb bk f y (q.1, add q.2 k) = r at V ⊢
          have hkk : has r.2 k = true := V.t k (by show has (add q.2 k) k = true; rw [hadd]; simp)
          have W : Vd has nb N bk q r := ⟨V.f, fun x hx => V.t x (by show has (add q.2 k) x = true; rw [hadd, hx]; rfl), V.on, fun m hm => by
            rcases V.back m hm with hm' | hm'
            · have hm' : has (add q.2 k) m = true := hm'
              rw [hadd] at hm'
              rcases e : has q.2 m with _ | _
              · rw [e, Bool.false_or, beq_iff_eq] at hm'
                subst hm'
                exact .inr ⟨hkN, y, hy, V.me⟩
              · exact .inl rfl
            · exact .inr hm', fun x hx => by
            rcases V.from_ x hx with hx' | rfl | hx'
            · exact .inl hx'
            · exact .inr ⟨k, hkk, hy⟩
            · exact .inr hx'⟩
          have hu : unseen has N r.2 < f + 1 := Nat.lt_of_le_of_lt (unseen_mono W.t) hq
          obtain ⟨a, b⟩ := ihk r hks' hzs' hu
          exact ⟨W.trans a, fun x hx => by
            rcases List.mem_cons.1 hx with rfl | hx
            · exact a.t _ hkk
            · exact b x hx⟩
    obtain ⟨a, b⟩ := key (nb n) (add p.1 n, p.2) (hnb n) hn hf
    generalize vgo has add bk (vis has add nb bk f) (nb n) (add p.1 n, p.2) = r at a b ⊢
    have hp : ∀ x, has (add p.1 n) x = true → has p.1 x = true ∨ x = n := fun x hx => by
      rw [hadd, Bool.or_eq_true, beq_iff_eq] at hx
      exact hx
    exact ⟨fun x hx => a.f x (by show has (add p.1 n) x = true; rw [hadd, hx]; rfl), a.t, a.f n (by show has (add p.1 n) n = true; rw [hadd]; simp), b, fun x hx => by
      rcases a.on x hx with h | h
      · rcases hp x h with h | rfl
        · exact .inl h
        · exact .inr b
      · exact .inr h, a.back, fun x hx => by
      rcases a.from_ x hx with h | h
      · rcases hp x h with h | rfl
        · exact .inl h
        · exact .inr (.inl rfl)
      · exact .inr (.inr h)⟩

/-- from all that are paired with nobody behind them, those below i -/
def vall (has : S → Nat → Bool) (add : S → Nat → S) (em : S) (nb : Nat → List Nat) (ah bk : List Int) (N : Nat) : Nat → S × S
  | 0 => (em, em)
  | i + 1 => if ah.getD i (-1) < 0 ∧ has (vall has add em nb ah bk N i).1 i = false then vis has add nb bk (N + 1) i (vall has add em nb ah bk N i) else vall has add em nb ah bk N i
structure Rch (has : S → Nat → Bool) (nb : Nat → List Nat) (N : Nat) (ah bk : List Int) (i : Nat) (p : S × S) : Prop where
  begin : ∀ y, y < i → ah.getD y (-1) = -1 → has p.1 y = true
  on : ∀ x, has p.1 x = true → ∀ k ∈ nb x, has p.2 k = true
  back : ∀ k, has p.2 k = true → k < N ∧ ∃ x : Nat, bk.getD k (-1) = (x : Int) ∧ has p.1 x = true
  from_ : ∀ x, has p.1 x = true → (x < N ∧ ah.getD x (-1) = -1) ∨ ∃ k : Nat, has p.2 k = true ∧ bk.getD k (-1) = (x : Int)
theorem vall_is (hadd : ∀ s k x, has (add s k) x = (has s x || x == k)) {em : S} (hem : ∀ x, has em x = false) (hnb : ∀ n, ∀ k ∈ nb n, k < N) (hB : Best nb N N ah bk) : ∀ i, i ≤ N → Rch has nb N ah bk i (vall has add em nb ah bk N i)
  | 0, _ => by
    have h1 : ∀ x, has (vall has add em nb ah bk N 0).1 x = true → False := fun x hx => by
      rw [show has (vall has add em nb ah bk N 0).1 x = has em x from rfl, hem] at hx
      cases hx
    have h2 : ∀ x, has (vall has add em nb ah bk N 0).2 x = true → False := fun x hx => by
      rw [show has (vall has add em nb ah bk N 0).2 x = has em x from rfl, hem] at hx
      cases hx
    exact ⟨fun y h => absurd h (Nat.not_lt_zero _), fun x hx => (h1 x hx).elim, fun x hx => (h2 x hx).elim, fun x hx => (h1 x hx).elim⟩
  | i + 1, hi => by
    have R := vall_is hadd hem hnb hB i (by omega)
    unfold vall
    by_cases h : ah.getD i (-1) < 0 ∧ has (vall has add em nb ah bk N i).1 i = false
    · rw [if_pos h]
      have hai : ah.getD i (-1) = -1 := by
        rcases neg_of hB.val.lowA i with h0 | ⟨k, hk⟩
        · exact h0
        · have := h.1; omega
      obtain ⟨Z, hZ, hiZ⟩ := hB.shut i (by omega) hai
      have V := vis_is hadd hnb hZ (N + 1) i (vall has add em nb ah bk N i) (Nat.lt_succ_of_le (unseen_le _)) hiZ
      generalize vall has add em nb ah bk N i = p at R V ⊢
      generalize vis has add nb bk (N + 1) i p = q at V ⊢
      refine ⟨fun y hy hya => ?_, fun x hx k hk => ?_, fun k hk => ?_, fun x hx => ?_⟩
      · by_cases e : y = i
        · subst e; exact V.me
        · exact V.f y (R.begin y (by omega) hya)
      · rcases V.on x hx with h | h
        · exact V.t k (R.on x h k hk)
        · exact h k hk
      · rcases V.back k hk with h | h
        · obtain ⟨a, x, b, c⟩ := R.back k h
          exact ⟨a, x, b, V.f x c⟩
        · exact h
      · rcases V.from_ x hx with h | rfl | h
        · rcases R.from_ x h with h | ⟨k, a, b⟩
          · exact .inl h
          · exact .inr ⟨k, V.t k a, b⟩
        · exact .inl ⟨by omega, hai⟩
        · exact .inr h
    · rw [if_neg h]
      refine ⟨fun y hy hya => ?_, R.on, R.back, R.from_⟩
      by_cases e : y = i
      · subst e
        rcases hh : has (vall has add em nb ah bk N y).1 y with _ | _
        · exact absurd ⟨by omega, hh⟩ h
        · rfl
      · exact R.begin y (by omega) hya
/-- reached: as MtWide has it -/
theorem Rch.reach {p : S × S} (hV : Val nb N ah bk) (h : Rch has nb N ah bk N p) : Reach nb N ah bk (fun x => has p.1 x = true) (fun k => has p.2 k = true) :=
  ⟨fun y hy hya => h.begin y hy hya, h.on, fun k hk => (h.back k hk).2, fun x hx => by
    rcases h.from_ x hx with ⟨h1, h2⟩ | ⟨k, h1, h2⟩
    · exact ⟨h1, .inl h2⟩
    · exact ⟨(hV.bw k x (h.back k h1).1 h2).1, .inr ⟨k, h1, h2⟩⟩, fun k hk => (h.back k hk).1⟩
/-- none of them is behind another one -/
theorem Rch.apart {p : S × S} (h : Rch has nb N ah bk N p) {x y : Nat} (hx : has p.1 x = true) (hy : has p.2 y = false) : y ∉ nb x := fun hm => by
  rw [h.on x hx y hm] at hy
  cases hy
end
end Go.Proofs.YtfjmhmfkhgjnhaaDoor.Mt
