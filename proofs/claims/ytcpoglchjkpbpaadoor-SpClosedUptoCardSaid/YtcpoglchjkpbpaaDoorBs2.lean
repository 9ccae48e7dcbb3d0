/-
  Package bitset, walked: zip.
-/
import Derived.Test.YtcpoglchjkpbpaaDoorBs1
import Derived.Test.YtcpoglchjkpbpaaDoorMake
namespace Go.Proofs.YtcpoglchjkpbpaaDoor
set_option linter.unusedVariables false
set_option linter.unusedSimpArgs false
set_option maxRecDepth 100000
open Go.RowKit

theorem info_word : (Tryd.prog.info? 57).map (fun i => (i.zero, i.size, i.bytes)) = some (some (.int .u64 0), 1, 8) := by kernel_rfl

theorem zat_any (w : World) (v : Value) (xs : List Nat) (i : Nat) (h : SlU w v xs) :
    Calls Tryd.prog 67 #[v, .int .i64 i] w fun e w' => e = .returned (.int .u64 (Bs.at_ xs i : Nat)) ∧ w = w' := by
  obtain ⟨⟨A, c, rfl, hle, hm, hlen, hc⟩, hw⟩ := h
  clear hlen hw
  unfold maxLen at hm
  by_cases hi : i < xs.length
  · obtain ⟨x, hx⟩ : ∃ x, xs[i]? = some x := ⟨_, List.getElem?_eq_getElem hi⟩
    obtain ⟨b, o, rfl, hb, hcc⟩ := hc.nat hx
    have e : Bs.at_ xs i = x := by unfold Bs.at_; rw [List.getD_eq_getElem?_getD, hx]; rfl
    rw [e]
    clear hc hx e
    go_enter Tryd.func67, Tryd.ntmps67
    go_wp2
    go_ret
    exact ⟨rfl, rfl⟩
  · rw [Bs.at_far (by omega)]
    clear hc
    go_enter Tryd.func67, Tryd.ntmps67
    go_wp2
    go_ret
    exact ⟨rfl, rfl⟩

/-- what a function of two words does -/
structure Fn2 (kf : Nat) (f : Nat → Nat → Nat) : Prop where
  ent : ∀ args w, (callFunc kf args).run Tryd.prog w = .ok (.enter kf args) w
  run : ∀ (w : World) (a b : Nat), a < 18446744073709551616 → b < 18446744073709551616 → Calls Tryd.prog kf #[.int .u64 a, .int .u64 b] w fun e w' => e = .returned (.int .u64 (f a b : Nat)) ∧ w = w'
  lt : ∀ a b, a < 18446744073709551616 → b < 18446744073709551616 → f a b < 18446744073709551616

namespace Bs
/-- the first k are there -/
def part (f : Nat → Nat → Nat) (xs ys : List Nat) (n k : Nat) : List Nat := (List.range n).map fun j => if j < k then f (at_ xs j) (at_ ys j) else 0
theorem part_length (f : Nat → Nat → Nat) (xs ys : List Nat) (n k : Nat) : (part f xs ys n k).length = n := by simp [part]
theorem part_zero (f : Nat → Nat → Nat) (xs ys : List Nat) (n : Nat) : part f xs ys n 0 = List.replicate n 0 := by
  apply List.ext_getElem?
  intro j
  by_cases hj : j < n
  · simp [part, hj]
  · simp [part, hj]
theorem part_set (f : Nat → Nat → Nat) (xs ys : List Nat) (n k : Nat) (hk : k < n) : (part f xs ys n k).set k (f (at_ xs k) (at_ ys k)) = part f xs ys n (k + 1) := by
  apply List.ext_getElem?
  intro j
  rw [List.getElem?_set]
  by_cases hj : j < n
  · by_cases hjk : k = j
    · subst hjk
      simp [part, hj]
    · simp only [part, List.length_map, List.length_range, hjk, if_false, List.getElem?_map, List.getElem?_range hj, Option.map_some]
      congr 1
      by_cases h : j < k
      · rw [if_pos h, if_pos (by omega)]
      · rw [if_neg h, if_neg (by omega)]
  · have : ¬ k = j := by omega
    simp [part, hj, this]
theorem part_all (f : Nat → Nat → Nat) (xs ys : List Nat) (n : Nat) (hn : n = max xs.length ys.length) : part f xs ys n n = zip f xs ys := by
  subst hn
  unfold part zip
  apply List.map_congr_left
  intro j hj
  rw [if_pos (List.mem_range.1 hj)]
end Bs
theorem nats_set (l : List Nat) (i x : Nat) : (nats l).set i (.int .u64 x) = nats (l.set i x) := by simp [nats, List.map_set]

set_option maxHeartbeats 1000000 in
theorem zip_new (kf : Nat) (f : Nat → Nat → Nat) (hf : Fn2 kf f) (w : World) (v v' : Value) (xs ys : List Nat) (h : SlU w v xs) (h' : SlU w v' ys) (hr : xs.length ≤ 17592186044416) (hr' : ys.length ≤ 17592186044416) :
    Calls Tryd.prog 62 #[v, v', .func (.func kf) #[] #[]] w fun e w' => ∃ u, e = .returned u ∧ (SlU w' u (Bs.op f xs ys) ∧ New w.heap.size u) ∧ Below w.heap.size w w' := by
  have h1 := h
  have h2 := h'
  obtain ⟨⟨A, c, rfl, hle, hm, hlen, hc⟩, hw⟩ := h
  obtain ⟨⟨A', c', rfl, hle', hm', hlen', hc'⟩, hw'⟩ := h'
  obtain ⟨n, hn⟩ : ∃ n, n = max xs.length ys.length := ⟨_, rfl⟩
  have hnr : n ≤ 17592186044416 := by omega
  have HN := Lib.hid hn
  obtain ⟨q, hq⟩ : ∃ q, q = w.heap.size := ⟨_, rfl⟩
  have HQ := Lib.hid hq
  clear hlen hlen' hc hc' hn hm hm' hq
  go_enter Tryd.func62, Tryd.ntmps62
  go_wp2_with (at_make; refine wp_make_blk _ _ _ _ (.int .u64 0) 1 8 n Tryd.underlying81 info_word rfl (by decide) (by have := HN.out; omega) (by have := HN.out; omega) (by omega) (by omega) rfl rfl rfl rfl ?_; intro w1 hB1 hb1 hz)
  rw [← HQ.out] at hB1 hb1 ⊢
  have hB1 : Blk w1 q 57 (nats (Bs.part f xs ys n 0)) := by
    rw [Bs.part_zero, Nat.mul_one] at *
    simpa [nats] using hB1
  go_loopw [18] (fun i wr => ∃ k : Nat, k ≤ n ∧ i = .int .i64 k ∧ Blk wr q 57 (nats (Bs.part f xs ys n k)) ∧ Below q w wr) (fun i _ => n - (intOf i).toNat)
  case atStart => exact ⟨0, Nat.zero_le _, rfl, hB1, hb1⟩
  case round =>
    clear hB1 hb1 hz
    obtain ⟨k, hk, rfl, hB, hbw⟩ := hrel
    have hbw' : Below w.heap.size w wr := by rw [← HQ.out]; exact hbw
    have g1 := h1.below hbw'
    have g2 := h2.below hbw'
    by_cases hlt : k < n
    · have hset := Bs.part_set f xs ys n k hlt
      have HS := Lib.hid hset
      clear hset
      go_wp2_with fail
      refine (zat_any _ _ xs k g1).mono ?_
      rintro e w2 ⟨rfl, rfl⟩
      go_wp2_with fail
      refine (zat_any _ _ ys k g2).mono ?_
      rintro e w2 ⟨rfl, rfl⟩
      go_wp2_with fail
      rw [hf.ent, Oper.upon_enter]
      refine (hf.run _ _ _ (hw.at_ k) (hw'.at_ k)).mono ?_
      rintro e w2 ⟨rfl, rfl⟩
      go_wp2_with (refine wpl_set_blk hB k (.int .u64 (f (Bs.at_ xs k) (Bs.at_ ys k) : Nat)) (by kernel_rfl) (by rw [nats_length, Bs.part_length]; exact hlt) rfl rfl rfl rfl rfl rfl ?_; intro w2 hB2 hg2)
      have hb2 : Below q w w2 := hbw.trans (below_of_grown hg2 (Nat.le_of_lt hB.lt) (Nat.le_refl _))
      rw [nats_set, HS.out] at hB2
      clear hB hg2 hbw hbw' g1 g2
      go_roundw
      case rel => exact ⟨k + 1, by omega, by go_num, hB2, hb2⟩
      case measure => simp [intOf]; omega
    · have hkn : k = n := by omega
      subst hkn
      rw [Bs.part_all f xs ys k HN.out] at hB
      clear g1 g2
      have hs : SlU wr (.slice (some ⟨q, 0, none⟩) k k) (Bs.zip f xs ys) := by
        refine ⟨⟨some ⟨q, 0, none⟩, k, by rw [Bs.zip_length, ← HN.out], by rw [Bs.zip_length, ← HN.out]; exact Nat.le_refl _, by unfold maxLen; omega, by rw [nats_length, Nat.mul_one], ?_⟩, fun x hx => ?_⟩
        · exact ⟨q, 0, fun _ => ⟨rfl, hB.lt⟩, fun j u hu => by rw [Nat.zero_add, hB.cell]; exact hu⟩
        · obtain ⟨i, -, rfl⟩ := List.mem_map.1 hx
          exact hf.lt _ _ (hw.at_ i) (hw'.at_ i)
      have HB := Lib.hid hbw'
      clear hB hbw hbw'
      go_wp2_with fail
      refine (trim_any _ _ _ hs).mono ?_
      rintro e w2 ⟨u, rfl, hu, ⟨m, rfl⟩, hpt⟩
      have hnew : New w.heap.size u := fun p hp => by
        rw [hpt] at hp
        injection hp with hp
        rw [← hp, HQ.out]
        exact Nat.le_refl _
      obtain ⟨U, uc, rfl⟩ : ∃ U uc, u = .slice U (Bs.trim (Bs.zip f xs ys)).length uc := by obtain ⟨⟨U, uc, e, -⟩, -⟩ := hu; exact ⟨U, uc, e⟩
      have HU := Lib.hid (And.intro hu hnew)
      clear hs hu hpt hnew
      go_wp2
      go_ret
      exact ⟨_, rfl, HU.out, below_drewN HB.out m⟩
theorem zip_any (kf : Nat) (f : Nat → Nat → Nat) (hf : Fn2 kf f) (w : World) (v v' : Value) (xs ys : List Nat) (h : SlU w v xs) (h' : SlU w v' ys) (hr : xs.length ≤ 17592186044416) (hr' : ys.length ≤ 17592186044416) :
    Calls Tryd.prog 62 #[v, v', .func (.func kf) #[] #[]] w fun e w' => ∃ u, e = .returned u ∧ SlU w' u (Bs.op f xs ys) ∧ Below w.heap.size w w' :=
  (zip_new kf f hf w v v' xs ys h h' hr hr').mono fun _ _ ⟨u, h1, h2, h3⟩ => ⟨u, h1, h2.1, h3⟩
end Go.Proofs.YtcpoglchjkpbpaaDoor
