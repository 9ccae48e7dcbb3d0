/-
  Package bitset, walked: Add.
-/
import Derived.Test.YtcpoglchjkpbpaaDoorBs7
import Derived.Test.YtcpoglchjkpbpaaDoorStill
import Derived.Test.YtcpoglchjkpbpaaDoorSettle3
import Derived.Laws.CopyOwn
namespace Go.Proofs.YtcpoglchjkpbpaaDoor
set_option linter.unusedVariables false
set_option linter.unusedSimpArgs false
set_option maxRecDepth 100000
open Go.RowKit

namespace Bs
/-- with n -/
def put (s : List Nat) (n : Nat) : List Nat := (s ++ List.replicate (max s.length (n / 64 + 1) - s.length) 0).set (n / 64) (at_ s (n / 64) ||| 2 ^ (n % 64))
def add (s : List Nat) (n : Int) : List Nat := if n < 0 ∨ 65535 < n then s else put s n.toNat
theorem put_length (s : List Nat) (n : Nat) : (put s n).length = max s.length (n / 64 + 1) := by
  unfold put
  rw [List.length_set, List.length_append, List.length_replicate]
  omega
theorem at_pad (s : List Nat) (k i : Nat) : at_ (s ++ List.replicate k 0) i = at_ s i := by
  unfold at_
  rw [List.getD_eq_getElem?_getD, List.getD_eq_getElem?_getD, List.getElem?_append]
  split
  · rfl
  · rename_i h
    rw [List.getElem?_replicate, List.getElem?_eq_none (by omega)]
    split <;> rfl
theorem at_set (l : List Nat) (i x j : Nat) (hi : i < l.length) : at_ (l.set i x) j = if i = j then x else at_ l j := by
  unfold at_
  rw [List.getD_eq_getElem?_getD, List.getD_eq_getElem?_getD, List.getElem?_set]
  split
  · rename_i h; subst h; simp [hi]
  · rfl
theorem at_put (s : List Nat) (n j : Nat) : at_ (put s n) j = if n / 64 = j then at_ s j ||| 2 ^ (n % 64) else at_ s j := by
  unfold put
  rw [at_set _ _ _ _ (by rw [List.length_append, List.length_replicate]; omega), at_pad]
  split
  · rename_i h; rw [h]
  · rfl
end Bs

theorem add_no (w : World) (v : Value) (s : List Nat) (n : Int) (h : SlU w v s) (hn : n < 0 ∨ 65535 < n) :
    Calls Tryd.prog 43 #[v, .int .i64 n] w fun e w' => e = .returned v ∧ w' = w := by
  obtain ⟨A, c, rfl⟩ := slU_form h
  clear h
  by_cases h0 : n < 0
  · have h0' : decide (n < 0) = true := by simpa using h0
    clear hn h0
    go_enter Tryd.func43, Tryd.ntmps43
    go_wp2
    go_ret
    exact ⟨rfl, rfl⟩
  · have h0' : decide (n < 0) = false := by simpa using h0
    have h1' : decide (65535 < n) = true := by simp; omega
    clear hn h0
    go_enter Tryd.func43, Tryd.ntmps43
    go_wp2
    go_ret
    exact ⟨rfl, rfl⟩

theorem put_new (w : World) (v : Value) (s : List Nat) (n : Nat) (h : SlU w v s) (hn : n ≤ 65535) (hr : s.length ≤ 17592186044) :
    Calls Tryd.prog 43 #[v, .int .i64 (n : Int)] w fun e w' => ∃ u, e = .returned u ∧ (SlU w' u (Bs.put s n) ∧ New w.heap.size u) ∧ Below w.heap.size w w' := by
  obtain ⟨⟨A, c, rfl, hle, hm, hlen, hc⟩, hw⟩ := h
  clear hlen
  have h0' : decide ((n : Int) < 0) = false := by simp
  have h1' : decide ((65535 : Int) < (n : Int)) = false := by simp; omega
  obtain ⟨m, hm'⟩ : ∃ m, m = max s.length (n / 64 + 1) := ⟨_, rfl⟩
  have HM := Lib.hid hm'
  have hmb : m ≤ 17592187044 := by omega
  clear hm'
  obtain ⟨q, hq⟩ : ∃ q, q = w.heap.size := ⟨_, rfl⟩
  have HQ := Lib.hid hq
  have hpos : ∀ w1, Below w.heap.size w w1 → 0 < (nats s).length → (some (⟨q, 0, none⟩ : Addr)) = some ⟨q, 0, none⟩ ∧ ∃ ad, A = some ad ∧ ∀ j v, (nats s)[j]? = some v → w1.cell? (ad.add j) = some v := fun w1 hb h0 => by
    obtain ⟨b, o, hA, hb', hcc⟩ := hc.at_ (fun e => by rw [e] at h0; simp at h0)
    exact ⟨rfl, ⟨b, o, none⟩, hA, fun j u hu => by rw [Addr.add_lit]; exact (hb.cell (p := ⟨b, o + j, none⟩) hb').trans (hcc j u hu)⟩
  have hmin : (nats s).length = Nat.min s.length m := by rw [nats_length]; exact (Nat.min_eq_left (by have := HM.out; omega)).symm
  have hfit : 0 + (nats s).length ≤ (List.replicate (m * 1) (Value.int .u64 0)).length := by rw [nats_length, List.length_replicate]; have := HM.out; omega
  have hspl : splice (List.replicate (m * 1) (Value.int .u64 0)) 0 (nats s) = nats (s ++ List.replicate (m - s.length) 0) := by
    simp [splice, nats, HM.out]
  have HS := Lib.hid (And.intro hmin (And.intro hfit (And.intro hspl hpos)))
  clear hmin hfit hspl hpos hq
  go_enter Tryd.func43, Tryd.ntmps43
  go_wp2_with (first | (at_make; refine wp_make_blk _ _ _ _ (.int .u64 0) 1 8 m Tryd.underlying81 info_word rfl (by decide) (by have := HM.out; omega) (by have := HM.out; omega) (by omega) (by omega) rfl rfl rfl rfl ?_; intro w1 hB1 hb1 hz1; rw [← HQ.out] at hB1 hb1 ⊢) | (refine wpList_copy_splice rfl _ _ _ _ rfl 57 Tryd.underlying81 (by kernel_rfl) _ _ m m s.length c rfl rfl q 0 _ _ hB1 (nats s) HS.out.1 (HS.out.2.2.2 _ (by rw [← HQ.out]; exact hb1)) HS.out.2.1 (nats_one s) q w hb1 (Nat.le_refl _) ?_; intro w2 hg2 hb2))
  have hB2 : Blk w2 q 57 (nats (s ++ List.replicate (m - s.length) 0)) := by rw [← HS.out.2.2.1]; exact hg2.out
  clear hg2 hB1 hb1 hz1
  obtain ⟨i, hi⟩ : ∃ i, i = n / 64 := ⟨_, rfl⟩
  obtain ⟨r, hr'⟩ : ∃ r, r = n % 64 := ⟨_, rfl⟩
  have hml : i < m := by have := HM.out; omega
  have hx : (s ++ List.replicate (m - s.length) 0)[i]? = some (Bs.at_ s i) := by
    have hl : i < (s ++ List.replicate (m - s.length) 0).length := by rw [List.length_append, List.length_replicate]; omega
    have h2 := Bs.at_pad s (m - s.length) i
    unfold Bs.at_ at h2
    rw [List.getD_eq_getElem?_getD, List.getElem?_eq_getElem hl, Option.getD_some] at h2
    rw [List.getElem?_eq_getElem hl, h2]
    rfl
  have c0 := (hB2.cell i).trans (nats_get _ _ _ hx)
  have f0 := hB2.frozen i
  have hiN : IntKind.i64.wrap ((n : Int) / 64) = (i : Int) := by rw [wrap_is]; unfold wrap64; omega
  have hrN : (n : Int).tmod 64 = (r : Int) := by rw [Int.tmod_eq_emod_of_nonneg (by omega)]; omega
  have hr64 : r < 64 := by omega
  have hp64 : (2 : Nat) ^ r < 18446744073709551616 := Nat.pow_lt_pow_right (by decide) hr64
  obtain ⟨o, ho⟩ : ∃ o, o = Bs.at_ s i := ⟨_, rfl⟩
  have ho64 : o < 18446744073709551616 := by rw [ho]; exact hw.at_ i
  have hlen : (nats (s ++ List.replicate (m - s.length) 0)).length = m := by rw [nats_length, List.length_append, List.length_replicate]; have := HM.out; omega
  rw [← ho] at c0
  have HO := Lib.hid (And.intro ho (And.intro hi (And.intro hr' (And.intro hp64 (And.intro ho64 hlen)))))
  clear ho hx hi hr' hp64 ho64 hlen
  refine wp_walk_last (by kernel_rfl) (by kernel_rfl) (fun _ _ => True) (fun w' => (w'.cell? ⟨q, i, none⟩ = some (.int .u64 (o : Int)) ∧ ∃ k, w' = w2.drewN k)) ⟨c0, 1, rfl⟩ ?_
  simp only [List.length_cons, List.length_nil, Nat.reduceAdd, Nat.reduceSub, List.take_succ_cons, List.take_zero, List.drop_succ_cons, List.drop_zero]
  repeat (first | (refine settle_skip (fun _ => by rfl) ?_; (simp only [Act.put, List.setIfInBounds_toArray, List.set_cons_zero, List.set_cons_succ])) | (refine' settle_run (fun _ _ => trivial) (fun _ => by rfl) ?_ ?_; rotate_left; (focus (intro ρ w hS hF; (try dsimp only at hS); go_split_ands; go_simp; try with_reducible rfl)); (simp only [Act.put, List.setIfInBounds_toArray, List.set_cons_zero, List.set_cons_succ])))
  refine settle_nil ?_
  intro ρ w3 hS _
  obtain ⟨-, k, rfl⟩ := hS
  have hx : bits BinOp.or IntKind.u64 (o : Int) (IntKind.u64.wrap (2 ^ r)) = ((o ||| 2 ^ r : Nat) : Int) := by
    have h64 := HO.out.2.2.2.1
    rw [show IntKind.u64.wrap (2 ^ r) = ((2 ^ r : Nat) : Int) by
      rw [IntKind.wrap_u64, show ((2 : Int) ^ r) = ((2 ^ r : Nat) : Int) by simp]
      clear HO
      generalize (2 ^ r : Nat) = P at h64 ⊢
      omega]
    exact bits_or_u64_nat o (2 ^ r) HO.out.2.2.2.2.1 h64
  have hB3 := hB2.drewN k
  have hb3 := below_drewN hb2 k
  have hl := HO.out.2.2.2.2.2
  dsimp only
  rw [hx]
  clear hx c0 f0 hB2 hb2
  refine wpl_set_blk hB3 i (.int .u64 ((o ||| 2 ^ r : Nat) : Int)) (by kernel_rfl) (by rw [hl]; exact hml) rfl rfl rfl rfl rfl rfl ?_
  intro w4 hB4 hg4
  have hb4 : Below q w w4 := hb3.trans (below_of_grown hg4 (by have := hB3.lt; omega) (Nat.le_refl _))
  have hs : SlU w4 (.slice (some ⟨q, 0, none⟩) m m) (Bs.put s n) := by
    rw [nats_set] at hB4
    have e : (s ++ List.replicate (m - s.length) 0).set i (o ||| 2 ^ r) = Bs.put s n := by
      unfold Bs.put
      rw [← HM.out, ← HO.out.2.1, ← HO.out.2.2.1, ← HO.out.1]
    rw [e] at hB4
    have hlm : (Bs.put s n).length = m := by rw [Bs.put_length, HM.out]
    refine ⟨⟨some ⟨q, 0, none⟩, m, by rw [hlm], by omega, by unfold maxLen; omega, by rw [nats_length, Nat.mul_one], q, 0, fun _ => ⟨rfl, hB4.lt⟩, fun j u hu => by rw [Nat.zero_add, hB4.cell]; exact hu⟩, fun x hx => ?_⟩
    rw [← e] at hx
    rcases List.mem_or_eq_of_mem_set hx with hx | rfl
    · rcases List.mem_append.1 hx with hx | hx
      · exact hw x hx
      · rw [(List.mem_replicate.1 hx).2]
        decide
    · exact Nat.or_lt_two_pow (n := 64) HO.out.2.2.2.2.1 HO.out.2.2.2.1
  have HR := Lib.hid (And.intro hs hb4)
  clear hs hb4 hB4 hg4 hB3 hb3 hl
  go_wp2
  go_ret
  exact ⟨_, rfl, ⟨HR.out.1, fun p hp => by injection hp with hp; rw [← hp, HQ.out]; exact Nat.le_refl _⟩, by have := HR.out.2; rwa [HQ.out] at this⟩

theorem add_yes (w : World) (v : Value) (s : List Nat) (n : Nat) (h : SlU w v s) (hn : n ≤ 65535) (hr : s.length ≤ 17592186044) :
    Calls Tryd.prog 43 #[v, .int .i64 (n : Int)] w fun e w' => ∃ u, e = .returned u ∧ SlU w' u (Bs.put s n) ∧ Below w.heap.size w w' :=
  (put_new w v s n h hn hr).mono fun _ _ ⟨u, h1, h2, h3⟩ => ⟨u, h1, h2.1, h3⟩

theorem add_any (w : World) (v : Value) (s : List Nat) (n : Int) (h : SlU w v s) (hr : s.length ≤ 17592186044) :
    Calls Tryd.prog 43 #[v, .int .i64 n] w fun e w' => ∃ u, e = .returned u ∧ SlU w' u (Bs.add s n) ∧ Below w.heap.size w w' := by
  by_cases hn : n < 0 ∨ 65535 < n
  · refine (add_no w v s n h hn).mono ?_
    rintro e w' ⟨rfl, rfl⟩
    exact ⟨v, rfl, by unfold Bs.add; rw [if_pos hn]; exact h, Below.refl _ _⟩
  · obtain ⟨k, rfl⟩ := Int.eq_ofNat_of_zero_le (show 0 ≤ n by omega)
    unfold Bs.add
    rw [if_neg hn]
    exact add_yes w v s k h (by omega) hr
end Go.Proofs.YtcpoglchjkpbpaaDoor
