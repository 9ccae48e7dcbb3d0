/-
  Package vector, walked: what At, trim, Within, Join and Tick give.
-/
import Derived.Test.YtphbegadddamgaaChecked
import Derived.Test.YtphbegadddamgaaBase
import Derived.Test.YtphbegadddamgaaVecLaw
namespace Go.Proofs.Ytphbegadddamgaa
open Go.RowKit

theorem info_u64 : (Try.prog.info? 25).map (fun i => (i.zero, i.size, i.bytes)) = some (some (.int .u64 0), 1, 8) := by kernel_rfl

theorem Vec.hand_wf {xs : List Int} (h : Wfs .u64 xs) (i : Int) : (Lit.int .u64 (Vec.hand xs i)).wf = true := by
  unfold Vec.hand
  split
  · rfl
  · by_cases hi : i.toNat < xs.length
    · exact h.get hi
    · rw [show xs.getD i.toNat 0 = 0 by simp [List.getD, show xs.length ≤ i.toNat by omega]]
      rfl
theorem Vec.max_wf {a b : Int} (h : (Lit.int .u64 a).wf = true) (h' : (Lit.int .u64 b).wf = true) : (Lit.int .u64 (max a b)).wf = true := by
  rw [wf_u64] at *
  omega

theorem at_any (v : Value) (xs : List Int) (i : Int) (w : World) (h : SlI .u64 w v xs) :
    Calls Try.prog 19 #[v, .int .i64 i] w fun e w' => e = .returned (.int .u64 (Vec.hand xs i)) ∧ w = w' := by
  obtain ⟨⟨A, c, rfl, hle, hm, hlen, hc⟩, hw⟩ := h
  clear hlen hw
  unfold maxLen at hm
  by_cases h0 : i < 0
  · clear hc
    go_enter Try.func19, Try.ntmps19
    go_wp2
    go_ret
    exact ⟨ret_int (by simp [Vec.hand, h0]), rfl⟩
  · obtain ⟨i, rfl⟩ := Int.eq_ofNat_of_zero_le (show 0 ≤ i by omega)
    by_cases h1 : i < xs.length
    · obtain ⟨b, o, rfl, hb, hcell⟩ := hc.int (j := i) h1
      have hcc := hcell i h1
      clear h0 hcell hc
      go_enter Try.func19, Try.ntmps19
      go_wp2
      go_ret
      exact ⟨ret_int (by simp [Vec.hand, h1]; omega), rfl⟩
    · have h3 : xs.length ≤ (i : Int) := by omega
      have e : Vec.hand xs i = 0 := by unfold Vec.hand; simp [List.getD, show xs.length ≤ i by omega]
      have E := Lib.hid e
      clear h0 h1 e hc
      go_enter Try.func19, Try.ntmps19
      go_wp2
      go_ret
      exact ⟨ret_int E.out.symm, rfl⟩

theorem trim_any (v : Value) (xs : List Int) (w : World) (h : SlI .u64 w v xs) :
    Calls Try.prog 38 #[v] w fun e w' => ∃ u, e = .returned u ∧ SlI .u64 w u (Vec.trim xs) ∧ w = w' := by
  have hs := h
  obtain ⟨⟨A, c, rfl, hle, hm, hlen, hc⟩, hw⟩ := h
  have H := Lib.hid (SlI.take hs _ (Vec.trim_prefix xs).1 (Vec.trim_prefix xs).2)
  clear hlen hw hs
  unfold maxLen at hm
  go_enter Try.func38, Try.ntmps38
  go_wp2
  go_loop [0] (fun v => ∃ k : Nat, k ≤ xs.length ∧ v = .slice A k c ∧ Vec.trim (xs.take k) = Vec.trim xs) (fun v => match v with | .slice _ n _ => n | _ => 0)
  case atStart => exact ⟨xs.length, Nat.le_refl _, rfl, by rw [List.take_length]⟩
  case round =>
    obtain ⟨k, hk, rfl, ht⟩ := hrel
    have HT := Lib.hid ht
    clear ht
    by_cases h0 : k = 0
    · subst h0
      clear hc
      go_wp2
      go_ret
      refine ⟨_, rfl, ?_, rfl⟩
      have := H.out
      rw [← HT.out] at this ⊢
      exact this
    · obtain ⟨k, rfl⟩ : ∃ j, k = j + 1 := ⟨k - 1, by omega⟩
      obtain ⟨b, o, x, rfl, hb, hx, hcc⟩ := hc.one (j := k) (by omega)
      clear hc h0
      rcases hz : x == 0 with _ | _
      · go_wp2
        go_ret
        refine ⟨_, rfl, ?_, rfl⟩
        have := H.out
        rw [← HT.out, Vec.trim_stop hx.out hz] at this ⊢
        rwa [show (xs.take (k + 1)).length = k + 1 by simp; omega] at this
      · go_wp2
        go_round
        case rel => exact ⟨k, by omega, rfl, by rw [← HT.out]; exact Vec.trim_zero hx.out hz⟩
        case measure => simp

theorem within_any (v v' : Value) (xs ys : List Int) (w : World) (h : SlI .u64 w v xs) (h' : SlI .u64 w v' ys) :
    Calls Try.prog 18 #[v, v'] w fun e w' => e = .returned (.bool (Vec.within xs ys)) ∧ w = w' := by
  obtain ⟨⟨A, c, rfl, hle, hm, hlen, hc⟩, hw⟩ := h
  clear hlen hw
  unfold maxLen at hm
  go_enter Try.func18, Try.ntmps18
  go_wp2
  go_loop [9] (fun i => ∃ k : Nat, k ≤ xs.length ∧ i = .int .i64 k ∧ (List.range k).all (fun i => decide (xs.getD i 0 ≤ Vec.hand ys i)) = true) (fun i => xs.length - (intOf i).toNat)
  case atStart => exact ⟨0, Nat.zero_le _, rfl, rfl⟩
  case round =>
    obtain ⟨k, hk, rfl, ht⟩ := hrel
    have HT := Lib.hid ht
    clear ht
    by_cases hlt : k < xs.length
    · obtain ⟨b, o, x, rfl, hb, hx, hcc⟩ := hc.one hlt
      clear hc
      by_cases hg : Vec.hand ys k < x
      · go_wp2_with (go_at_call 19; refine (at_any v' ys k w h').mono ?_; rintro e w' ⟨rfl, rfl⟩)
        go_ret
        exact ⟨ret_bool (Vec.within_no hx.out hg).symm, rfl⟩
      · go_wp2_with (go_at_call 19; refine (at_any v' ys k w h').mono ?_; rintro e w' ⟨rfl, rfl⟩)
        go_round
        case rel => exact ⟨k + 1, by omega, by go_num, by rw [Vec.within_succ, HT.out, Vec.getD_of hx.out]; simp; omega⟩
        case measure => simp [intOf]; omega
    · have hk' : k = xs.length := by omega
      have HK := Lib.hid hk'
      clear hc hk'
      go_wp2
      go_ret
      exact ⟨ret_bool (by unfold Vec.within; rw [← HK.out, HT.out]), rfl⟩

theorem equal_any (v v' : Value) (xs ys : List Int) (w : World) (h : SlI .u64 w v xs) (h' : SlI .u64 w v' ys) :
    Calls Try.prog 16 #[v, v'] w fun e w' => e = .returned (.bool (decide (xs = ys))) ∧ Below w.heap.size w w' := by
  obtain ⟨⟨A, c, rfl, hle, hm, hlen, hc⟩, hw⟩ := h
  obtain ⟨⟨A', c', rfl, hle', hm', hlen', hc'⟩, hw'⟩ := h'
  clear hlen hw hlen' hw'
  unfold maxLen at hm hm'
  by_cases hn : xs.length = ys.length
  · have hne : ((xs.length : Int) != ys.length) = false := by simp [hn]
    have HN := Lib.hid hn
    clear hn
    go_enter Try.func16, Try.ntmps16
    go_wp2
    go_loopw [13] (fun i wr => ∃ k : Nat, k ≤ xs.length ∧ i = .int .i64 k ∧ (∃ a, wr = w.drewN a) ∧ xs.take k = ys.take k) (fun i _ => xs.length - (intOf i).toNat)
    case atStart => exact ⟨0, Nat.zero_le _, rfl, ⟨0, rfl⟩, rfl⟩
    case round =>
      obtain ⟨k, hk, rfl, ⟨a, rfl⟩, ht⟩ := hrel
      have HT := Lib.hid ht
      clear ht
      by_cases hlt : k < xs.length
      · have hlt' : k < ys.length := by rw [← HN.out]; exact hlt
        obtain ⟨b, o, x, rfl, hb, hx, hcc⟩ := hc.one hlt
        obtain ⟨b', o', y, rfl, hb', hy, hcc'⟩ := hc'.one hlt'
        clear hc hc'
        rcases hg : x != y with _ | _
        · go_wp2
          go_quiet (fail)
          go_wp2
          go_roundw
          case rel => exact ⟨k + 1, by omega, by go_num, ⟨_, rfl⟩, by rw [Vec.take_snoc hx.out, Vec.take_snoc hy.out, HT.out, show x = y by simpa using hg]⟩
          case measure => simp [intOf]; omega
        · go_wp2
          go_quiet (fail)
          go_wp2
          go_ret
          refine ⟨ret_bool ?_, below_drewN (below_drewN (Below.refl _ _) _) _⟩
          symm
          simp only [decide_eq_false_iff_not]
          rintro rfl
          rw [hx.out] at hy
          simp at hg
          exact hg (by simpa using hy.out)
      · have HK := Lib.hid (show k = xs.length by omega)
        clear hc hc'
        go_wp2
        go_ret
        refine ⟨ret_bool ?_, below_drewN (Below.refl _ _) _⟩
        symm
        simp only [decide_eq_true_eq]
        have := HT.out
        rw [HK.out, List.take_length, HN.out, List.take_length] at this
        exact this
  · have hne : ((xs.length : Int) != ys.length) = true := by simpa using fun h => hn (by omega)
    have HN := Lib.hid hn
    clear hn hc hc'
    go_enter Try.func16, Try.ntmps16
    go_wp2
    go_ret
    refine ⟨ret_bool ?_, Below.refl _ _⟩
    symm
    simp only [decide_eq_false_iff_not]
    exact fun h => HN.out (by rw [h])

theorem join_any (v v' : Value) (xs ys : List Int) (w : World) (h : SlI .u64 w v xs) (h' : SlI .u64 w v' ys) (hr : xs.length ≤ 17592186044416) (hr' : ys.length ≤ 17592186044416) :
    Calls Try.prog 17 #[v, v'] w fun e w' => ∃ u, e = .returned u ∧ SlI .u64 w' u (Vec.join xs ys) ∧ Below w.heap.size w w' := by
  have h1 := h
  have h2 := h'
  obtain ⟨⟨A, c, rfl, hle, hm, hlen, hc⟩, hw⟩ := h
  obtain ⟨⟨A', c', rfl, hle', hm', hlen', hc'⟩, hw'⟩ := h'
  obtain ⟨n, hn⟩ : ∃ n, n = max xs.length ys.length := ⟨_, rfl⟩
  have hnx : xs.length ≤ n := by omega
  have hny : ys.length ≤ n := by omega
  have hnr : n ≤ 17592186044416 := by omega
  have HN := Lib.hid hn
  clear hlen hlen' hc hc' hn hm hm'
  go_enter Try.func17, Try.ntmps17
  go_wp2_with (at_make; refine wp_make _ _ _ _ _ n Try.underlying22 info_u64 rfl (by have := HN.out; omega) (by have := HN.out; omega) (by omega) (by omega) rfl rfl rfl rfl ?_; intro w1 hown hb1 hz)
  have hown' : w1.ownsRow w.heap.size 25 1 (.slice (some ⟨w.heap.size, 0, none⟩) n n) n (ints .u64 (Vec.part xs ys n 0)) := by
    rw [Vec.part_zero]
    simpa [ints] using hown
  clear hown
  go_loopw [15] (fun i wr => ∃ k : Nat, k ≤ n ∧ i = .int .i64 k ∧ wr.ownsRow w.heap.size 25 1 (.slice (some ⟨w.heap.size, 0, none⟩) n n) n (ints .u64 (Vec.part xs ys n k)) ∧ Below w.heap.size w wr) (fun i _ => n - (intOf i).toNat)
  case atStart => exact ⟨0, Nat.zero_le _, rfl, hown', hb1⟩
  case round =>
    clear hown' hb1 hz
    obtain ⟨k, hk, rfl, hown, hb1⟩ := hrel
    have g1 := h1.below hb1
    have g2 := h2.below hb1
    by_cases hlt : k < n
    · have hcell := hown.cellAt k (by omega)
      rw [ints_get _ _ _ (by rw [Vec.part_length _ _ _ _ (by omega)]; exact hlt)] at hcell
      have hfr := hown.frozenAt k
      go_wp2_with fail
      refine (at_any _ _ _ _ g1).mono ?_
      rintro e w' ⟨rfl, rfl⟩
      go_wp2_with fail
      refine (at_any _ _ _ _ g2).mono ?_
      rintro e w' ⟨rfl, rfl⟩
      go_wp2
      go_roundw
      case rel => 
        refine ⟨k + 1, by omega, by go_num, ?_, hb1.setCell (by simp) _⟩
        have := (hown.stored k (.int .u64 (max (Vec.hand xs k) (Vec.hand ys k)))).1
        rw [← Vec.part_set _ _ _ _ hlt]
        simpa [ints] using this
      case measure => simp [intOf]; omega
    · have hk' : k = n := by omega
      have HK := Lib.hid hk'
      have hsl : SlI .u64 wr (.slice (some ⟨w.heap.size, 0, none⟩) n n) (Vec.joined xs ys n) := by
        have hl : (Vec.joined xs ys n).length = n := by simp [Vec.joined]
        rw [hk', Vec.part_full] at hown
        refine SlI.of_own (base := w.heap.size) (e := 25) (by rw [hl]; exact hown) fun x hx => ?_
        obtain ⟨i, _, rfl⟩ := List.mem_map.1 hx
        exact Vec.max_wf (Vec.hand_wf hw _) (Vec.hand_wf hw' _)
      clear hk'
      go_wp2_with fail
      refine (trim_any _ _ _ hsl).mono ?_
      rintro e w' ⟨u, rfl, hu, rfl⟩
      go_wp2
      go_ret
      refine ⟨_, rfl, ?_, hb1⟩
      rw [HN.out] at hu
      exact hu

theorem ints_one (k : IntKind) (xs : List Int) : ∀ u ∈ ints k xs, u.oneCell' = true := ints_oneCell k xs

theorem clone_any (v : Value) (xs : List Int) (w : World) (h : SlI .u64 w v xs) (hr : xs.length ≤ 17592186044415) :
    Calls Try.prog 39 #[v] w fun e w' => ∃ u, e = .returned u ∧ w'.ownsRow w.heap.size 25 1 u xs.length (ints .u64 xs) ∧ Below w.heap.size w w' := by
  obtain ⟨⟨A, c, rfl, hle, hm, hlen, hc⟩, hw⟩ := h
  clear hw
  unfold maxLen at hm
  have heq := fun (w : World) (A : Option Addr) (n c : Nat) => Lib.run_eql_slice_nil (P := Try.prog) w _ _ A n c 0 0 Try.underlying22
  rcases A with _ | a
  · have h0 : xs = [] := by
      rcases xs with _ | ⟨x, xs⟩
      · rfl
      · obtain ⟨b, o, h1, _⟩ := hc
        have := (h1 (by simp [ints])).1
        cases this
    subst h0
    go_enter Try.func39, Try.ntmps39
    go_wp2
    go_ret
    exact ⟨_, rfl, World.ownsRow_nil _ _ _ _, Below.refl _ _⟩
  · go_enter Try.func39, Try.ntmps39
    have hmade := World.ownsRow_made (e := 25) (size := 1) (base := w.heap.size) w #[] 0 (Nat.le_refl _) (Nat.zero_le _) rfl
    have hc' := hc.keep (w' := w.alloc (.cells #[] 25)) (Nat.le_refl _) (fun p hp => World.cell?_alloc_lt w _ p hp)
    go_wp2_with (at_builtin; refine wp_append _ _ _ _ _ _ _ _ _ Try.underlying22 info_u64 rfl (by decide) hmade hc' hlen (ints_one _ _) (by unfold maxLen; omega) (by omega) (by simp) rfl rfl rfl rfl ?_; intro v' w' hown _ _ hb)
    go_ret
    refine ⟨_, rfl, by simpa using hown, ((Below.refl _ _).alloc (Nat.le_refl _) _).trans hb⟩

theorem tick_any (v : Value) (xs : List Int) (i : Int) (w : World) (h : SlI .u64 w v xs) (hr : xs.length ≤ 17592186044415) :
    Calls Try.prog 20 #[v, .int .i64 i] w fun e w' => ∃ u, e = .returned u ∧ SlI .u64 w' u (Vec.tick xs i) ∧ Below w.heap.size w w' := by
  have hwf := h.2
  by_cases hi : 0 ≤ i ∧ i ≤ 65535
  · obtain ⟨i, rfl⟩ := Int.eq_ofNat_of_zero_le hi.1
    obtain ⟨hi0, hi1⟩ := hi
    go_enter Try.func20, Try.ntmps20
    go_wp2_with fail
    refine (clone_any _ _ _ h hr).mono ?_
    rintro e w1 ⟨u, rfl, hown, hb1⟩
    go_wp2_with fail
    go_loopw [5] (fun v wr => ∃ k : Nat, k ≤ i + 1 - xs.length ∧ wr.ownsRow w.heap.size 25 1 v (xs.length + k) (ints .u64 (xs ++ List.replicate k 0)) ∧ Below w.heap.size w wr) (fun v _ => i + 1 - slLen v)
    case atStart => exact ⟨0, Nat.zero_le _, by simpa using hown, hb1⟩
    case round =>
      clear hown hb1
      obtain ⟨k, hk, hown, hb1⟩ := hrel
      obtain ⟨A, c, rfl, hle, hm⟩ := own_slice hown
      unfold maxLen at hm
      by_cases hlt : xs.length + k ≤ i
      · go_wp2_with (at_builtin; refine wp_push wr _ _ _ _ _ _ _ _ Try.underlying22 info_u64 rfl (by decide) hown [.int .u64 0] rfl (by simp [Value.oneCell']) (by unfold maxLen; omega) (by omega) hb1.size rfl rfl rfl rfl ?_; intro v' w' hown' _ _ hb2)
        go_roundw
        case rel => exact ⟨k + 1, by omega, by simpa [ints, List.replicate_succ', Nat.add_assoc] using hown', hb1.trans hb2⟩
        case measure => rw [own_len hown']; simp only [slLen]; omega
      · have hp := Vec.padded_full xs i k hlt hk
        rw [hp] at hown
        obtain ⟨g, c', hA, -, -, hg1, hg2⟩ := own_addr hown (by omega)
        cases hA
        have hil : i < xs.length + k := by omega
        have hcell := hown.cellAt i (by omega)
        rw [ints, List.getElem?_map, Vec.hand_padded] at hcell
        simp only [Option.map_some] at hcell
        have hfr := hown.frozenAt i
        have hst := (hown.stored i (.int .u64 ((Vec.hand xs i + 1) % 18446744073709551616))).1
        obtain ⟨y, hy⟩ : ∃ y, y = Vec.hand xs i := ⟨_, rfl⟩
        rw [← hy] at hcell hst
        have HY := Lib.hid hy
        have hsl : SlI .u64 (wr.setCell ⟨g, i, none⟩ (.int .u64 ((y + 1) % 18446744073709551616))) (.slice (some ⟨g, 0, none⟩) (xs.length + k) c) ((Vec.padded xs i).set i ((y + 1) % 18446744073709551616)) := by
          have e : ((Vec.padded xs i).set i ((y + 1) % 18446744073709551616)).length = xs.length + k := by
            have := hown.1
            rw [ints_length] at this
            rw [List.length_set]
            omega
          have := SlI.of_own (k := .u64) (xs := (Vec.padded xs i).set i ((y + 1) % 18446744073709551616)) (by rw [e, ints_set]; exact hst) ((hwf.append (Wfs.replicate rfl _)).set _ (wf_u64.2 (by omega)))
          exact this
        have HS := Lib.hid hsl
        clear hy hp hst hsl
        go_wp2_with fail
        rw [wrap_u64]
        refine (trim_any _ _ _ HS.out).mono ?_
        rintro e w' ⟨u', rfl, hu, rfl⟩
        go_wp2
        go_ret
        refine ⟨u', rfl, ?_, hb1.setCell (by simpa using hg1) _⟩
        rw [HY.out] at hu ⊢
        simpa only [Vec.tick, hi0, hi1, and_self, if_true, Int.toNat_natCast] using hu
  · have e : Vec.tick xs i = Vec.trim xs := by simp only [Vec.tick, hi, if_false]
    rw [e]
    by_cases h0 : 0 ≤ i
    · have h1 : 65535 < i := by omega
      clear hi
      go_enter Try.func20, Try.ntmps20
      go_wp2_with fail
      refine (clone_any _ _ _ h hr).mono ?_
      rintro e w1 ⟨u, rfl, hown, hb1⟩
      have hsl := SlI.of_own hown hwf
      go_wp2_with fail
      refine (trim_any _ _ _ hsl).mono ?_
      rintro e w' ⟨u', rfl, hu, rfl⟩
      go_wp2
      go_ret
      exact ⟨_, rfl, hu, hb1⟩
    · clear hi
      go_enter Try.func20, Try.ntmps20
      go_wp2_with fail
      refine (clone_any _ _ _ h hr).mono ?_
      rintro e w1 ⟨u, rfl, hown, hb1⟩
      have hsl := SlI.of_own hown hwf
      go_wp2_with fail
      refine (trim_any _ _ _ hsl).mono ?_
      rintro e w' ⟨u', rfl, hu, rfl⟩
      go_wp2
      go_ret
      exact ⟨_, rfl, hu, hb1⟩
end Go.Proofs.Ytphbegadddamgaa
