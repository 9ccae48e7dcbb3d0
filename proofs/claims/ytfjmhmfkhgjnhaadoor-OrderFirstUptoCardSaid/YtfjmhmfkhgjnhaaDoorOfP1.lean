/-
  The keep's OrderFirst, walked.
-/
import Derived.Test.YtfjmhmfkhgjnhaaDoorOmP1
import Derived.Test.YtfjmhmfkhgjnhaaDoorOrP1
import Derived.Test.YtfjmhmfkhgjnhaaDoorOrP2

namespace Go.Proofs.YtfjmhmfkhgjnhaaDoor.Cn
set_option linter.unusedVariables false
set_option linter.unusedSimpArgs false
set_option maxRecDepth 100000

/-- the orders of s, of f + 1 nodes, that begin with k -/
def Wk (N : Nat) (ok : Nat → Nat → Bool) (k : Nat) : Nat → Nat → Nat
  | 0, s => if s = 2 ^ k ∧ ok k 0 = true then 1 else 0
  | f + 1, s => sg N fun n => if (bit s n && decide (n ≠ k) && ok n (s - 2 ^ n)) = true then Wk N ok k f (s - 2 ^ n) else 0
theorem sg_if (N : Nat) (b : Prop) [Decidable b] (f : Nat → Nat) : (if b then sg N f else 0) = sg N fun n => if b then f n else 0 := by
  by_cases h : b
  · simp [h]
  · simp only [h, if_false]
    exact (sg_zero_iff.2 fun _ _ => rfl).symm
theorem W_first {N : Nat} {ok : Nat → Nat → Bool} : ∀ (f s : Nat), pop N s = f + 1 → s < 2 ^ N → W N ok (f + 1) s = sg N fun k => if bit s k = true then Wk N ok k f s else 0
  | 0, s, hp, hs => by
    show sg N _ = _
    refine sg_congr fun n hn => ?_
    rcases hb : bit s n with _ | _
    · simp
    · have h0 := pop_off hn hb
      have hz : s - 2 ^ n = 0 := (pop_zero (off_lt hs)).1 (by omega)
      have hge := bit_ge hb
      have he : s = 2 ^ n := by omega
      rw [hz]
      unfold Wk W
      by_cases ho : ok n 0 = true
      · simp [ho, he]
      · simp [ho]
  | f + 1, s, hp, hs => by
    show sg N (fun n => if bit s n && ok n (s - 2 ^ n) then W N ok (f + 1) (s - 2 ^ n) else 0) = _
    have h1 : ∀ n, n < N → (if (bit s n && ok n (s - 2 ^ n)) = true then W N ok (f + 1) (s - 2 ^ n) else 0) = sg N fun k => if (bit s n && ok n (s - 2 ^ n)) = true then (if bit (s - 2 ^ n) k = true then Wk N ok k f (s - 2 ^ n) else 0) else 0 := fun n hn => by
      rw [← sg_if]
      by_cases hc : (bit s n && ok n (s - 2 ^ n)) = true
      · rw [if_pos hc, if_pos hc]
        have hb : bit s n = true := (Bool.and_eq_true _ _ ▸ hc).1
        exact W_first f (s - 2 ^ n) (by have := pop_off hn hb; omega) (off_lt hs)
      · rw [if_neg hc, if_neg hc]
    rw [sg_congr h1, sg_swap]
    refine sg_congr fun k hk => ?_
    show _ = if bit s k = true then (sg N fun n => if (bit s n && decide (n ≠ k) && ok n (s - 2 ^ n)) = true then Wk N ok k f (s - 2 ^ n) else 0) else 0
    rw [sg_if]
    refine sg_congr fun n hn => ?_
    rcases hb : bit s n with _ | _
    · simp
    · rw [bit_off hb]
      by_cases hkn : k = n
      · subst hkn; simp
      · have hnk : n ≠ k := fun e => hkn e.symm
        cases bit s k <;> cases ok n (s - 2 ^ n) <;> simp [hkn, hnk]

/-- the m-th of all but k -/
def up (k m : Nat) : Nat := if m < k then m else m + 1
def less (k m : Nat) : Nat := if k < m then m - 1 else m
theorem up_less {k m : Nat} (h : m ≠ k) : up k (less k m) = m := by
  unfold up less
  by_cases h1 : k < m
  · rw [if_pos h1, if_neg (by omega)]; omega
  · rw [if_neg h1, if_pos (by omega)]
theorem less_up (k m : Nat) : less k (up k m) = m := by
  unfold up less
  by_cases h1 : m < k
  · rw [if_pos h1, if_neg (by omega)]
  · rw [if_neg h1, if_pos (by omega)]; omega
theorem up_ne (k m : Nat) : up k m ≠ k := by
  unfold up
  split <;> omega
theorem up_inj {k a b : Nat} (h : up k a = up k b) : a = b := by
  have := congrArg (less k) h
  rwa [less_up, less_up] at this
/-- s without k, those above it moved down by one -/
def rem (k s : Nat) : Nat := 2 ^ k * (s / 2 ^ (k + 1)) + s % 2 ^ k
theorem bit_rem (k s m : Nat) : bit (rem k s) m = bit s (up k m) := by
  unfold bit rem up
  rw [Nat.testBit_two_pow_mul_add _ (Nat.mod_lt _ (Nat.two_pow_pos k))]
  by_cases h : m < k
  · rw [if_pos h, if_pos h, Nat.testBit_mod_two_pow]
    simp [h]
  · rw [if_neg h, if_neg h, Nat.testBit_div_two_pow]
    congr 1
    omega
theorem rem_off {k s m : Nat} (h : bit s (up k m) = true) : rem k (s - 2 ^ up k m) = rem k s - 2 ^ m := by
  refine bit_ext fun i => ?_
  rw [bit_rem, bit_off h, bit_off (by rw [bit_rem]; exact h), bit_rem]
  congr 1
  by_cases e : i = m
  · subst e; simp
  · have : up k i ≠ up k m := fun e' => e (up_inj e')
    simp [e, this]
theorem sg_skip {k : Nat} {g : Nat → Nat} (hg : g k = 0) : ∀ M, k ≤ M → sg (M + 1) g = sg M fun m => g (up k m)
  | 0, h => by
    have : k = 0 := by omega
    subst this
    rw [sg_succ, sg_zero, sg_zero, hg]
  | M + 1, h => by
    by_cases e : k = M + 1
    · subst e
      rw [sg_succ, hg, Nat.add_zero]
      refine sg_congr fun n hn => ?_
      unfold up
      rw [if_pos hn]
    · rw [sg_succ, sg_skip hg M (by omega), sg_succ]
      congr 1
      unfold up
      rw [if_neg (by omega)]
theorem Wk_rem {M k : Nat} {ok ok' : Nat → Nat → Bool} (hk : k ≤ M) (hok : ∀ m t, bit t k = true → ok (up k m) t = ok' m (rem k t)) (h0 : ok k 0 = true) : ∀ (f s : Nat), pop (M + 1) s = f + 1 → s < 2 ^ (M + 1) → bit s k = true → Wk (M + 1) ok k f s = W M ok' f (rem k s)
  | 0, s, hp, hs, hb => by
    have h1 := pop_off (show k < M + 1 by omega) hb
    have hz : s - 2 ^ k = 0 := (pop_zero (off_lt hs)).1 (by omega)
    have hge := bit_ge hb
    unfold Wk W
    rw [if_pos ⟨by omega, h0⟩]
  | f + 1, s, hp, hs, hb => by
    show sg (M + 1) _ = sg M _
    rw [sg_skip (k := k) (by simp) M hk]
    refine sg_congr fun m hm => ?_
    have hne := up_ne k m
    have hlt : up k m < M + 1 := by unfold up; split <;> omega
    rcases hbm : bit s (up k m) with _ | _
    · have : bit (rem k s) m = false := by rw [bit_rem]; exact hbm
      simp [this]
    · have h1 : bit (rem k s) m = true := by rw [bit_rem]; exact hbm
      have h2 : bit (s - 2 ^ up k m) k = true := by rw [bit_off hbm, hb]; simp [hne.symm]
      rw [hok m _ h2, rem_off hbm, h1]
      have h3 := Wk_rem hk hok h0 f (s - 2 ^ up k m) (by have := pop_off hlt hbm; omega) (off_lt hs) h2
      rw [h3, rem_off hbm]
      cases ok' m (rem k s - 2 ^ m) <;> simp [hne]
theorem Wk_none {N k : Nat} {ok : Nat → Nat → Bool} (h0 : ok k 0 = false) : ∀ (f s : Nat), Wk N ok k f s = 0
  | 0, s => by unfold Wk; simp [h0]
  | f + 1, s => by
    refine sg_zero_iff.2 fun n _ => ?_
    rw [Wk_none h0 f]
    simp

theorem pop_all (N : Nat) : pop N (2 ^ N - 1) = N := by
  have : pop N (2 ^ N - 1) = sg N fun _ => 1 := by
    refine sg_congr fun n hn => ?_
    unfold bit
    rw [Nat.testBit_two_pow_sub_one, decide_eq_true hn]
    rfl
  rw [this, sg_const, Nat.mul_one]
open Gr
/-- the graph without k -/
def part (k : Nat) (es : List Ed) : List Ed := (es.filter fun e => decide (e.1 ≠ k) && decide (e.2 ≠ k)).map fun e => (less k e.1, less k e.2)
theorem part_mem {k : Nat} {es : List Ed} {x : Ed} : x ∈ part k es ↔ ∃ e ∈ es, e.1 ≠ k ∧ e.2 ≠ k ∧ x = (less k e.1, less k e.2) := by
  unfold part
  rw [List.mem_map]
  constructor
  · rintro ⟨e, he, rfl⟩
    obtain ⟨h1, h2⟩ := List.mem_filter.1 he
    rw [Bool.and_eq_true, decide_eq_true_eq, decide_eq_true_eq] at h2
    exact ⟨e, h1, h2.1, h2.2, rfl⟩
  · rintro ⟨e, h1, h2, h3, rfl⟩
    exact ⟨e, List.mem_filter.2 ⟨h1, by rw [Bool.and_eq_true, decide_eq_true_eq, decide_eq_true_eq]; exact ⟨h2, h3⟩⟩, rfl⟩
theorem okE_part {k m t : Nat} {es : List Ed} (ht : bit t k = true) : okE es (up k m) t = okE (part k es) m (rem k t) := by
  rw [Bool.eq_iff_iff, okE_iff, okE_iff]
  constructor
  · intro h x hx hm
    obtain ⟨e, he, h1, h2, rfl⟩ := part_mem.1 hx
    have hm : less k e.2 = m := hm
    rw [bit_rem]
    show bit t (up k (less k e.1)) = true
    rw [up_less h1]
    exact h e he (by rw [← hm, up_less h2])
  · intro h e he hen
    by_cases h1 : e.1 = k
    · rw [h1]; exact ht
    · have h2 : e.2 ≠ k := by rw [hen]; exact up_ne k m
      have := h (less k e.1, less k e.2) (part_mem.2 ⟨e, he, h1, h2, rfl⟩) (by show less k e.2 = m; rw [hen, less_up])
      rw [bit_rem] at this
      have this : bit t (up k (less k e.1)) = true := this
      rwa [up_less h1] at this
theorem okE_none {k : Nat} {es : List Ed} : okE es k 0 = true ↔ ∀ e ∈ es, e.2 ≠ k := by
  rw [okE_iff]
  constructor
  · intro h e he hek
    have := h e he hek
    rw [bit_zero] at this
    cases this
  · intro h e he hek
    exact absurd hek (h e he)
theorem rem_all {k M : Nat} (hk : k ≤ M) : rem k (2 ^ (M + 1) - 1) = 2 ^ M - 1 := by
  refine bit_ext fun i => ?_
  rw [bit_rem]
  unfold bit
  rw [Nat.testBit_two_pow_sub_one, Nat.testBit_two_pow_sub_one]
  unfold up
  by_cases h : i < k
  · rw [if_pos h]
    rw [decide_eq_true (by omega), decide_eq_true (by omega)]
  · rw [if_neg h]
    by_cases h2 : i < M
    · rw [decide_eq_true (by omega), decide_eq_true h2]
    · rw [decide_eq_false (by omega), decide_eq_false h2]
/-- WHO COMES FIRST PARTS ALL ORDERS -/
theorem ord_first (M : Nat) (es : List Ed) : ord (M + 1) (okE es) (2 ^ (M + 1) - 1) = sg (M + 1) fun k => if okE es k 0 = true then ord M (okE (part k es)) (2 ^ M - 1) else 0 := by
  have hp := Nat.two_pow_pos (M + 1)
  unfold ord
  rw [pop_all, W_first M _ (pop_all _) (by omega)]
  refine sg_congr fun k hk => ?_
  have hb : bit (2 ^ (M + 1) - 1) k = true := by
    unfold bit
    rw [Nat.testBit_two_pow_sub_one]
    exact decide_eq_true hk
  rw [if_pos hb]
  rcases h0 : okE es k 0 with _ | _
  · rw [Wk_none h0, if_neg (by simp)]
  · rw [if_pos rfl, Wk_rem (by omega) (fun m t ht => okE_part ht) h0 M _ (pop_all _) (by omega) hb, rem_all (by omega), pop_all]

/-- where every edge goes up, all can be taken -/
theorem full_rank {N : Nat} {es : List Ed} (r : Nat → Nat) (hr : ∀ e ∈ es, r e.1 < r e.2) (hes : ∀ e ∈ es, e.1 < N ∧ e.2 < N) : (take N es).length = N := by
  have hg' := good_take N es
  have hst := take_stop N es
  have key : ∀ (j m : Nat), r m = j → m < N → m ∈ take N es := by
    intro j
    induction j using Nat.strongRecOn with
    | _ j ih =>
      intro m hm hmN
      by_cases hc : m ∈ take N es
      · exact hc
      · exfalso
        have hn := nxt_none hst m hmN
        have : ¬ rdy es (take N es) m = true := by rw [hn]; simp
        rw [rdy_iff] at this
        apply this
        refine ⟨hc, fun e he em => ?_⟩
        have h1 := hr e he
        rw [em, hm] at h1
        exact ih (r e.1) h1 e.1 rfl (hes e he).1
  have h1 := (List.nodup_range (n := N)).length_le_of_subset (l₂ := take N es) (fun m hm => key _ m rfl (List.mem_range.1 hm))
  have h2 := hg'.length
  rw [List.length_range] at h1
  omega
theorem part_lt {M k : Nat} {es : List Ed} (hk : k ≤ M) (hes : ∀ e ∈ es, e.1 < M + 1 ∧ e.2 < M + 1) : ∀ e ∈ part k es, e.1 < M ∧ e.2 < M := fun x hx => by
  obtain ⟨e, he, h1, h2, rfl⟩ := part_mem.1 hx
  have := hes e he
  show less k e.1 < M ∧ less k e.2 < M
  unfold less
  constructor <;> split <;> omega
theorem part_full {M k : Nat} {es : List Ed} (hk : k ≤ M) (hes : ∀ e ∈ es, e.1 < M + 1 ∧ e.2 < M + 1) (hl : (take (M + 1) es).length = M + 1) : (take M (part k es)).length = M := by
  obtain ⟨r, r1, -⟩ := Mt.rank hl
  refine full_rank (fun m => r (up k m)) (fun x hx => ?_) (part_lt hk hes)
  obtain ⟨e, he, h1, h2, rfl⟩ := part_mem.1 hx
  show r (up k (less k e.1)) < r (up k (less k e.2))
  rw [up_less h1, up_less h2]
  exact r1 e.1 e.2 (hes e he).2 (.one he)
end Go.Proofs.YtfjmhmfkhgjnhaaDoor.Cn


namespace Go.Proofs.YtfjmhmfkhgjnhaaDoor
set_option linter.unusedVariables false
set_option linter.unusedSimpArgs false
set_option maxRecDepth 100000
open Go.RowKit

theorem ofless_any (w : World) (pk m k : Nat) (hk : w.cell? ⟨pk, 0, none⟩ = some (.int .i64 (k : Int))) (hm : m ≤ 200) (hk2 : k ≤ 200) :
    Calls Tryd.prog 16 #[.int .i64 (m : Int), .pointer (some ⟨pk, 0, none⟩)] w fun e w' => e = .returned (.int .i64 (Cn.less k m : Nat)) ∧ w' = w := by
  by_cases h : k < m
  · have hl : ((Cn.less k m : Nat) : Int) = (m : Int) - 1 := by
      unfold Cn.less
      rw [if_pos h]
      omega
    have g0 : decide ((k : Int) < (m : Int)) = true := decide_eq_true (by omega)
    have HL := Lib.hid hl
    clear hl
    go_enter Tryd.func16, Tryd.ntmps16
    go_wp2_with fail
    go_ret
    exact ⟨by rw [HL.out]; rfl, rfl⟩
  · have hl : Cn.less k m = m := by
      unfold Cn.less
      rw [if_neg h]
    rw [hl]
    clear hl
    go_enter Tryd.func16, Tryd.ntmps16
    go_wp2_with fail
    go_ret
    exact ⟨rfl, rfl⟩
end Go.Proofs.YtfjmhmfkhgjnhaaDoor


namespace Go.Proofs.YtfjmhmfkhgjnhaaDoor
set_option linter.unusedVariables false
set_option linter.unusedSimpArgs false
set_option maxRecDepth 100000
open Go.RowKit

namespace Cn
theorem part_snoc (k : Nat) (l : List Gr.Ed) (a b : Nat) : part k (l ++ [(a, b)]) = part k l ++ if a ≠ k ∧ b ≠ k then [(less k a, less k b)] else [] := by
  unfold part
  rw [List.filter_append, List.map_append]
  by_cases h1 : a = k <;> by_cases h2 : b = k <;> simp [h1, h2]
theorem sg_up {a b : Nat} (h : a ≤ b) (f : Nat → Nat) : sg a f ≤ sg b f := by
  induction h with
  | refl => exact Nat.le_refl _
  | step _ ih => exact Nat.le_trans ih (by rw [sg_succ]; omega)
theorem part_length (k : Nat) (l : List Gr.Ed) : (part k l).length ≤ l.length := by
  unfold part
  rw [List.length_map]
  exact List.length_filter_le _ _
end Cn

theorem info_edge_of : (Tryd.prog.info? 39).map (fun i => (i.zero, i.size, i.bytes)) = some (some (.agg #[.int .i64 0, .int .i64 0]), 2, 16) := by kernel_rfl
theorem edcs_app (l m : List Gr.Ed) : edcs (l ++ m) = edcs l ++ edcs m := by simp [edcs]

/-- in how many orders k comes first -/
def fst (M : Nat) (es : List Gr.Ed) (k : Nat) : Nat := if Cn.okE es k 0 = true then Cn.ord M (Cn.okE (Cn.part k es)) (2 ^ M - 1) else 0

set_option maxRecDepth 20000 in
set_option maxHeartbeats 8000000 in
theorem orderFirst_walk (w : World) (n : Int) (es : List Gr.Er) (A : Option Addr) (c : Nat) (hA : SlV w 2 (.slice A es.length c) es.length (ercs es)) (hle : es.length ≤ 1048576) (hT : Tab w) :
    Calls Tryd.prog 4 #[.agg #[.int .i64 n, .slice A es.length c]] w fun e w' => e = .returned (.bool true) ∧ Below w.heap.size w w' := by
  have hb0 : Below w.heap.size w (w.alloc (.cells #[.int .i64 n, .slice A es.length c] 24)) := below_alloc (Below.refl _ _) _
  have x0 := Blk.new w 24 [.int .i64 n, .slice A es.length c]
  obtain ⟨q, hq⟩ : ∃ q, q = w.heap.size := ⟨_, rfl⟩
  have hle' : es.length ≤ 1099511627776 := by omega
  go_enter Tryd.func4, Tryd.ntmps4
  go_upto_region 1 with (fail)
  generalize (w.alloc (.cells #[.int .i64 n, .slice A es.length c] 24)) = W0 at hb0 x0 ⊢
  have hT0 := hT.later hT.lt hb0
  have hA0 := hA.below hb0
  rw [← hq] at x0 ⊢
  go_wp2_with fail
  refine (alive3_any W0 hT0).mono ?_
  rintro _ w3 ⟨rfl, hb3⟩
  have HB := Lib.hid (And.intro (below_next hb3 hb0) hq)
  have hK : ∀ w', Below w3.heap.size w3 w' → (w'.cell? ⟨q, 0, none⟩ = some (.int .i64 n) ∧ w'.cell? ⟨q, 1, none⟩ = some (.slice A es.length c)) ∧ SlV w' 2 (.slice A es.length c) es.length (ercs es) ∧ Tab w' := fun w' hb =>
    ⟨⟨(((x0.below hb3).below hb).cell 0).trans rfl, (((x0.below hb3).below hb).cell 1).trans rfl⟩, (hA0.below hb3).below hb, hT0.later hT0.lt (below_self hb3 hb)⟩
  have HK := Lib.hid hK
  clear hK hb3 hb0 x0 hT0 hA0 hA hT hq
  obtain ⟨⟨c0, c1⟩, ga, gt⟩ := HK.out w3 (Below.refl _ _)
  have gC := ocount_any n es w3 A c ga hle' gt
  obtain ⟨E, hE⟩ : ∃ E, E = Cn.err n es := ⟨_, rfl⟩
  obtain ⟨V, hV⟩ : ∃ V, V = Cn.res n es := ⟨_, rfl⟩
  rw [← hE, ← hV] at gC
  have HE := Lib.hid (And.intro hE hV)
  clear hE hV
  go_wp2_with fail
  refine gC.mono ?_
  rintro _ w4 ⟨rfl, hb4⟩
  clear c0 c1 ga gt gC
  obtain ⟨⟨c0, c1⟩, ga, gt⟩ := HK.out w4 hb4
  by_cases h0 : E = 0
  · subst h0
    obtain ⟨hE, hV⟩ := HE.out
    obtain ⟨hw, hn14⟩ := Cn.err_zero.1 hE.symm
    obtain ⟨hok, N, e, hN, hes, hln, hful⟩ := Gr.wrong_zero hw
    subst e
    have hN14 : N ≤ 14 := by omega
    rcases hz : ((N : Int) == 0) with _ | _
    · obtain ⟨M, hM⟩ : ∃ M, N = M + 1 := ⟨N - 1, by rw [beq_eq_false_iff_ne] at hz; omega⟩
      have gL := levels_any (N : Int) es w4 A c ga hle' gt
      rw [hw, Int.toNat_natCast] at gL
      have hVf : V = Cn.sg (M + 1) (fst M (Gr.nat es)) ∧ 0 < V := by
        have h1 : V = Cn.ord N (Cn.okE (Gr.nat es)) (2 ^ N - 1) := by
          rw [hV]
          unfold Cn.res
          rw [← hE, if_pos rfl, Int.toNat_natCast]
        refine ⟨?_, by rw [h1]; exact Cn.ord_full hful hes⟩
        rw [h1, hM]
        exact Cn.ord_first M (Gr.nat es)
      have hVb : V ≤ 11112006825558016 := by
        rw [hV]
        unfold Cn.res
        rw [← hE, if_pos rfl, Int.toNat_natCast]
        exact Cn.ord_bound hN14
      have HP := Lib.hid (And.intro hVf (And.intro hM (And.intro hes (And.intro hful (And.intro hw (And.intro hVb (And.intro hln hok)))))))
      clear HE hE hV hw hn14 hok hes hln hful hVf hM hVb
      go_wp2_with fail
      refine gL.mono ?_
      rintro _ w5 ⟨v5, L, rfl, r5, -, hL, hb5⟩
      have hL := hL trivial
      obtain ⟨A5, c5, rfl, -, -⟩ := own_slice r5
      have s5 := SlN.of_own r5
      have hb05 := hb4.trans (hb5.mono hb4.size)
      have HL := Lib.hid (And.intro hL.1 (And.intro s5 hb05))
      have hLN : L.length = N := hL.1.len
      rw [hLN]
      clear gL r5 hL s5 c0 c1 ga gt hb4 hb5 hLN hb05
      go_wp2_with fail
      go_loopw [7, 43] (fun s i wr => ∃ k : Nat, k ≤ N ∧ i = .int .i64 (k : Int) ∧ s = .int .u64 ((Cn.sg k (fst M (Gr.nat es)) : Nat) : Int) ∧ Below w5.heap.size w5 wr) (fun _ i _ => N - (intOf i).toNat)
      case atStart => exact ⟨0, Nat.zero_le _, rfl, rfl, Below.refl _ _⟩
      case round =>
        obtain ⟨k, hk, rfl, rfl, hb⟩ := hrel
        by_cases hlt : k < N
        · obtain ⟨g, o, e, hg, ck⟩ := (HL.out.2.1.below hb).get (Gr.lget_some (L := L) (m := k) (by rw [HL.out.1.len]; exact hlt))
          subst e
          have hfst : (0 < Gr.lget L k → fst M (Gr.nat es) k = 0) ∧ (¬ 0 < Gr.lget L k → Cn.okE (Gr.nat es) k 0 = true) := by
            constructor
            · intro h
              obtain ⟨e, he, hek, -⟩ := HL.out.1.down k h
              unfold fst
              rw [if_neg (fun h' => Cn.okE_none.1 h' e he hek)]
            · intro h
              refine Cn.okE_none.2 fun e he hek => ?_
              have := HL.out.1.up e he
              rw [hek] at this
              omega
          have hsucc := Cn.sg_succ k (fst M (Gr.nat es))
          obtain ⟨x, hx⟩ : ∃ x, x = Gr.lget L k := ⟨_, rfl⟩
          obtain ⟨S, hS⟩ : ∃ S, S = Cn.sg k (fst M (Gr.nat es)) := ⟨_, rfl⟩
          rw [← hx] at ck hfst
          rw [← hS] at hsucc ⊢
          have hbk : Below wr.heap.size wr (wr.alloc (.cells #[.int .i64 (k : Int)] 3)) := below_alloc (Below.refl _ _) _
          have HX := Lib.hid (And.intro hfst (And.intro hsucc (And.intro hx hS)))
          clear hfst hsucc hx hS
          rcases hx0 : decide (0 < x) with _ | _
          · have hbok := hb.trans (hbk.mono hb.size)
            have hb0k := HL.out.2.2.trans (hbok.mono HL.out.2.2.size)
            obtain ⟨⟨c0, c1⟩, ga, gt⟩ := HK.out _ hb0k
            have pk := Blk.new wr 3 [.int .i64 (k : Int)]
            go_upto_region 12 with (fail)
            obtain ⟨gk, hgk⟩ : ∃ x, x = wr.heap.size := ⟨_, rfl⟩
            rw [← hgk] at pk ⊢
            generalize (wr.alloc (.cells #[.int .i64 (k : Int)] 3)) = W1 at pk hbk hbok hb0k c0 c1 ga gt ⊢
            have HG := Lib.hid hgk
            clear hgk ck hbk
            have hM1 : (N : Int) - 1 = (M : Int) := by have := HP.out.2.1; omega
            have ph := Blk.new W1 24 [.int .i64 (M : Int), .slice none 0 0]
            have hbh : Below W1.heap.size W1 (W1.alloc (.cells #[.int .i64 (M : Int), .slice none 0 0] 24)) := below_alloc (Below.refl _ _) _
            go_upto_region 14 with (fail)
            obtain ⟨H, hH⟩ : ∃ x, x = W1.heap.size := ⟨_, rfl⟩
            rw [← hH] at ph hbh ⊢
            have hgH : gk < H := by rw [hH]; exact pk.lt
            obtain ⟨l, hl⟩ : ∃ l, l = Gr.nat es := ⟨_, rfl⟩
            have hll : l.length = es.length := by rw [hl]; simp [Gr.nat]
            have hec : ercs es = edcs l := by rw [hl]; exact ercs_nat HP.out.2.2.2.2.2.2.2
            have hKW : ∀ w', Below H W1 w' → (w'.cell? ⟨q, 0, none⟩ = some (.int .i64 (N : Int)) ∧ w'.cell? ⟨q, 1, none⟩ = some (.slice A es.length c)) ∧ SlV w' 2 (.slice A es.length c) es.length (edcs l) ∧ Tab w' ∧ w'.cell? ⟨gk, 0, none⟩ = some (.int .i64 (k : Int)) ∧ Below w3.heap.size w3 w' := fun w' hb => by
              rw [hH] at hb
              have hb' := hb0k.trans (hb.mono hb0k.size)
              obtain ⟨h1, h2, h3⟩ := HK.out w' hb'
              exact ⟨h1, hec ▸ h2, h3, ((pk.below hb).cell 0).trans rfl, hb'⟩
            have HKW := Lib.hid (And.intro hKW (And.intro hgH (And.intro hl (And.intro hll (And.intro hbok hH)))))
            generalize (W1.alloc (.cells #[.int .i64 (M : Int), .slice none 0 0] 24)) = W2 at ph hbh ⊢
            have hle6 : es.length ≤ 1048576 := hle
            clear hKW hgH hl hll hec hH pk c0 c1 ga gt hbok hb0k hM1
            obtain ⟨⟨c0, c1⟩, ga, gt, kk, -⟩ := HKW.out.1 W2 hbh
            go_wp2_with fail
            clear c0 c1 ga gt kk
            go_loopw [58] (fun i wr => ∃ (j : Nat) (u : Value), j ≤ es.length ∧ i = .int .i64 (j : Int) ∧ Blk wr H 24 [.int .i64 (M : Int), u] ∧ wr.ownsRow (H + 1) 39 2 u (Cn.part k (l.take j)).length (edcs (Cn.part k (l.take j))) ∧ Below H W1 wr) (fun i _ => es.length - (intOf i).toNat)
            case atStart => exact ⟨0, _, Nat.zero_le _, rfl, ph, by simpa [Cn.part, edcs] using World.ownsRow_nil _ _ _ _, hbh⟩
            case round =>
              obtain ⟨j, u, hj, rfl, bh, ru, hbr⟩ := hrel
              by_cases hjl : j < es.length
              · obtain ⟨⟨c0, c1⟩, ga, gt, kk, -⟩ := HKW.out.1 wr hbr
                clear c0 c1 gt kk
                obtain ⟨⟨a, b⟩, hx⟩ : ∃ x, l[j]? = some x := ⟨_, List.getElem?_eq_getElem (by rw [HKW.out.2.2.2.1]; exact hjl)⟩
                have gx := flat_get edc 2 (fun _ => rfl) l j
                have g1 := gx 0 _ hx (by omega)
                have g2 := gx 1 _ hx (by omega)
                obtain ⟨A', c', he, -, -, -, hcc⟩ := ga
                injection he with e1 e2 e3
                subst e1 e3
                obtain ⟨g, o, rfl, hgl, hcell⟩ := hcc.at_ (fun e => by rw [show List.flatMap edc l = edcs l from rfl, e] at g1; simp [edc] at g1)
                have d0 : wr.cell? ⟨g, o + j * 2, none⟩ = some (.int .i64 (a : Int)) := (hcell _ _ g1).trans rfl
                have d1 : wr.cell? ⟨g, o + j * 2 + 1, none⟩ = some (.int .i64 (b : Int)) := by rw [Nat.add_assoc]; exact hcell _ _ g2
                have hps := Cn.part_snoc k (l.take j) a b
                rw [← Gr.take_snoc hx] at hps
                obtain ⟨ha, hb⟩ : a ≤ 200 ∧ b ≤ 200 := by
                  have h1 := HP.out.2.2.1 (a, b) (by rw [← HKW.out.2.2.1]; exact List.mem_of_getElem? hx)
                  have h2 : N ≤ 14 := hN14
                  simp only at h1
                  omega
                obtain ⟨PL, hPL⟩ : ∃ x, x = Cn.part k (l.take j) := ⟨_, rfl⟩
                rw [← hPL] at ru hps
                have hpl : PL.length ≤ 1048576 := by rw [hPL]; exact Nat.le_trans (Cn.part_length _ _) (by rw [List.length_take]; omega)
                have HPS := Lib.hid hps
                have hbA : Below wr.heap.size wr (wr.alloc (.cells #[.int .i64 (a : Int), .int .i64 (b : Int)] 39)) := below_alloc (Below.refl _ _) _
                have hE := Blk.new wr 39 [.int .i64 (a : Int), .int .i64 (b : Int)]
                have bh5 := bh.alloc (.cells #[.int .i64 (a : Int), .int .i64 (b : Int)] 39)
                have ru5 := own_keeps ru (Keeps.of_below hbA (fun _ => False)) (fun _ _ => id)
                have hb5 := hbr.trans (hbA.mono (Nat.le_of_lt bh.lt))
                have hue : u.ownBlock ≠ some wr.heap.size := fun e => by
                  have := (ru.lt _ e).2
                  omega
                have hugk : u.ownBlock ≠ some gk := fun e => by
                  have := (ru.lt _ e).1
                  have := HKW.out.2.1
                  omega
                have huh : u.ownBlock ≠ some H := own_blk_ne ru bh (by decide)
                clear hx gx g1 g2 hcc hcell e2 hps hPL hbA ru bh hbr
                go_upto_region 17 with (fail)
                clear d0 d1
                obtain ⟨eg, heg⟩ : ∃ x, x = wr.heap.size := ⟨_, rfl⟩
                rw [← heg] at hE hue ⊢
                generalize (wr.alloc (.cells #[.int .i64 (a : Int), .int .i64 (b : Int)] 39)) = W5 at hE bh5 ru5 hb5 ⊢
                have e0 : W5.cell? ⟨eg, 0, none⟩ = some (.int .i64 (a : Int)) := (hE.cell 0).trans rfl
                have e1 : W5.cell? ⟨eg, 1, none⟩ = some (.int .i64 (b : Int)) := (hE.cell 1).trans rfl
                obtain ⟨-, -, -, kk, -⟩ := HKW.out.1 W5 hb5
                clear heg
                rcases hak : ((a : Int) != (k : Int)) with _ | _
                · have hj1 : a = k := by have h9 := hak; rw [bne_eq_false_iff_eq] at h9; omega
                  have HR := Lib.hid (And.intro bh5 (And.intro ru5 hb5))
                  clear bh5 ru5 hb5 hE
                  go_wp2_with fail
                  go_roundw
                  case rel => exact ⟨j + 1, u, by omega, by go_num, HR.out.1, by rw [HPS.out, if_neg (fun h => h.1 hj1), List.append_nil]; exact HR.out.2.1, HR.out.2.2⟩
                  case measure => simp [intOf]; omega
                · rcases hbk : ((b : Int) != (k : Int)) with _ | _
                  · have hj1 : b = k := by have h9 := hbk; rw [bne_eq_false_iff_eq] at h9; omega
                    have HR := Lib.hid (And.intro bh5 (And.intro ru5 hb5))
                    clear bh5 ru5 hb5 hE
                    go_wp2_with fail
                    go_roundw
                    case rel => exact ⟨j + 1, u, by omega, by go_num, HR.out.1, by rw [HPS.out, if_neg (fun h => h.2 hj1), List.append_nil]; exact HR.out.2.1, HR.out.2.2⟩
                    case measure => simp [intOf]; omega
                  · have hps := HPS.out
                    rw [if_pos ⟨by have h9 := hak; rw [bne_iff_ne] at h9; omega, by have h9 := hbk; rw [bne_iff_ne] at h9; omega⟩] at hps
                    have HPS2 := Lib.hid hps
                    clear hps
                    have hR : ∀ w', Below W5.heap.size W5 w' → w'.ownsRow (H + 1) 39 2 u PL.length (edcs PL) ∧ H + 1 ≤ w'.heap.size := fun w' hb => ⟨own_keeps ru5 (Keeps.of_below hb (fun _ => False)) (fun _ _ => id), Nat.le_trans bh5.lt hb.size⟩
                    have keepS : ∀ w', Keeps (fun i => u.ownBlock = some i) W5 w' → Keeps (fun i => u.ownBlock = some i) W5 w' ∧ w'.cell? ⟨H, 1, none⟩ = some u ∧ w'.cell? ⟨eg, 0, none⟩ = some (.int .i64 (a : Int)) ∧ w'.cell? ⟨eg, 1, none⟩ = some (.int .i64 (b : Int)) ∧ w'.cell? ⟨gk, 0, none⟩ = some (.int .i64 (k : Int)) := fun w' kp =>
                      ⟨kp, ((bh5.keeps kp huh).cell 1).trans rfl, ((hE.keeps kp hue).cell 0).trans rfl, ((hE.keeps kp hue).cell 1).trans rfl, (World.cell?_of_block (a := ⟨gk, 0, none⟩) (kp.block gk (Nat.lt_of_lt_of_le HKW.out.2.1 (Nat.le_of_lt bh5.lt)) hugk)).trans kk⟩
                    have hS1 := keepS _ ((Keeps.refl _ W5).drewN 1)
                    have n63 : PL.length + 1 ≤ maxLen := by unfold maxLen; omega
                    have n47 : (PL.length + 1) * 16 ≤ 140737488355328 := by omega
                    have hk2 : k ≤ 200 := by omega
                    have HT := Lib.hid (And.intro bh5 (And.intro ru5 (And.intro hb5 huh)))
                    obtain ⟨VB, cb, rfl, -, -⟩ := own_slice ru5
                    clear bh5 ru5 hb5 hE hue huh hugk
                    go_wp2_with fail
                    clear e0 e1 kk hak hbk
                    refine wp_walk_mt 14 (fun i => ([12] : List Nat).contains i) (fun i => ([13] : List Nat).contains i) [12] (by intro m h; simpa using h) (by kernel_rfl) (by kernel_rfl) (by kernel_rfl) (fun w w' => Below w.heap.size w w')  (fun w' => Keeps (fun i => (Value.slice VB PL.length cb).ownBlock = some i) W5 w' ∧ w'.cell? ⟨H, 1, none⟩ = some (.slice VB PL.length cb) ∧ w'.cell? ⟨eg, 0, none⟩ = some (.int .i64 (a : Int)) ∧ w'.cell? ⟨eg, 1, none⟩ = some (.int .i64 (b : Int)) ∧ w'.cell? ⟨gk, 0, none⟩ = some (.int .i64 (k : Int))) (fun w' => Below W5.heap.size W5 w') hS1 (below_drew (Below.refl _ _)) (fun _ _ h h' => below_next h' h) ?_
                    simp only [List.length_cons, List.length_nil, Nat.reduceAdd, Nat.reduceSub, List.take_succ_cons, List.take_zero, List.drop_succ_cons, List.drop_zero]
                    repeat (first | (refine nsettle_skip (by rfl) (fun _ => by rfl) ?_; (simp only [Act.put, List.setIfInBounds_toArray, List.set_cons_zero, List.set_cons_succ])) | (refine' nsettle_run (by rfl) (fun _ _ => Below.refl _ _) (fun _ => by rfl) ?_ ?_; rotate_left; (focus (intro ρ w hS hF hP; (try dsimp only at hS); go_split_ands; go_simp; try with_reducible rfl)); (simp only [Act.put, List.setIfInBounds_toArray, List.set_cons_zero, List.set_cons_succ])))
                    (refine' nsettle_step (by rfl) (fun _ => by rfl) ?_ ?_; rotate_left; (focus (intro ρ w hS hF hP K hK; (simp only [Act.put, List.setIfInBounds_toArray, List.set_cons_zero, List.set_cons_succ] at hK); go_simp; go_at_call 16; refine (ofless_any _ gk a k hS.2.2.2.2 ha hk2).mono ?_; rintro e w6 ⟨rfl, rfl⟩; have hS' := hS; have hE' := Below.refl w6.heap.size w6; exact hK _ hS' hE')); (simp only [Act.put, List.setIfInBounds_toArray, List.set_cons_zero, List.set_cons_succ]))
                    repeat (first | (refine nsettle_skip (by rfl) (fun _ => by rfl) ?_; (simp only [Act.put, List.setIfInBounds_toArray, List.set_cons_zero, List.set_cons_succ])) | (refine' nsettle_run (by rfl) (fun _ _ => Below.refl _ _) (fun _ => by rfl) ?_ ?_; rotate_left; (focus (intro ρ w hS hF hP; (try dsimp only at hS); go_split_ands; go_simp; try with_reducible rfl)); (simp only [Act.put, List.setIfInBounds_toArray, List.set_cons_zero, List.set_cons_succ])))
                    (refine' nsettle_step (by rfl) (fun _ => by rfl) ?_ ?_; rotate_left; (focus (intro ρ w hS hF hP K hK; (simp only [Act.put, List.setIfInBounds_toArray, List.set_cons_zero, List.set_cons_succ] at hK); go_simp; go_at_call 16; refine (ofless_any _ gk b k hS.2.2.2.2 hb hk2).mono ?_; rintro e w6 ⟨rfl, rfl⟩; have hS' := hS; have hE' := Below.refl w6.heap.size w6; exact hK _ hS' hE')); (simp only [Act.put, List.setIfInBounds_toArray, List.set_cons_zero, List.set_cons_succ]))
                    repeat (first | (refine nsettle_skip (by rfl) (fun _ => by rfl) ?_; (simp only [Act.put, List.setIfInBounds_toArray, List.set_cons_zero, List.set_cons_succ])) | (refine' nsettle_run (by rfl) (fun _ _ => Below.refl _ _) (fun _ => by rfl) ?_ ?_; rotate_left; (focus (intro ρ w hS hF hP; (try dsimp only at hS); go_split_ands; go_simp; try with_reducible rfl)); (simp only [Act.put, List.setIfInBounds_toArray, List.set_cons_zero, List.set_cons_succ])))
                    (refine nsettle_known (FSl 2 1 [.int .i64 (Cn.less k a : Nat), .int .i64 (Cn.less k b : Nat)]) (by rfl) (by rfl) (by rfl) (fun _ => by rfl)  ?_ ?_; (focus (intro ρ w hS hF hP K hK; (simp only [Act.put, List.setIfInBounds_toArray, List.set_cons_zero, List.set_cons_succ] at hK); go_simp; exact hK _ _ (SlV.lit w [.int .i64 (Cn.less k a : Nat), .int .i64 (Cn.less k b : Nat)] 39 2 1 rfl (by decide)) (keepS _ (hS.1.alloc _)) (below_alloc (Below.refl _ _) _))); (simp only [Act.put, List.setIfInBounds_toArray, List.set_cons_zero, List.set_cons_succ]))
                    (refine nsettle_mark (FPush W5 (H + 1) 39 2 (.slice VB PL.length cb) (PL.length + 1) (edcs PL ++ [.int .i64 (Cn.less k a : Nat), .int .i64 (Cn.less k b : Nat)])) (by rfl) (by rfl) (by rfl) (fun _ => by rfl) ?_ ?_; (focus (intro ρ w hS hF hP K hK; refine oper_append (.tmp 73) (.tmp 83) (H + 1) _ _ _ _ _ Tryd.underlying22 info_edge_of rfl (by decide) (hR w (hP (by rfl))).1 (hF.1 (by rfl)) (by intro u hu; simp at hu; rcases hu with rfl | rfl <;> rfl) n63 n47 (hR w (hP (by rfl))).2 rfl rfl rfl ?_; intro v' w' hown hg hv _; exact hK v' w' ⟨w, hP (by rfl), hg, hown, hv.imp id fun e => ⟨_, Nat.le_refl _, e⟩⟩ (keepS _ (hS.1.trans ((Keeps.of_grown hg).mono fun i hi => hi.symm))))); (simp only [Act.put, List.setIfInBounds_toArray, List.set_cons_zero, List.set_cons_succ]))
                    repeat (first | (refine nsettle_skip (by rfl) (fun _ => by rfl) ?_; (simp only [Act.put, List.setIfInBounds_toArray, List.set_cons_zero, List.set_cons_succ])) | (refine' nsettle_run (by rfl) (fun _ _ => Below.refl _ _) (fun _ => by rfl) ?_ ?_; rotate_left; (focus (intro ρ w hS hF hP; (try dsimp only at hS); go_split_ands; go_simp; try with_reducible rfl)); (simp only [Act.put, List.setIfInBounds_toArray, List.set_cons_zero, List.set_cons_succ])))
                    refine nsettle_nil ?_
                    intro ρ w7 hS hF
                    obtain ⟨-, -, -, ha3, -⟩ := hF 84 (FPush W5 (H + 1) 39 2 (.slice VB PL.length cb) (PL.length + 1) (edcs PL ++ [.int .i64 (Cn.less k a : Nat), .int .i64 (Cn.less k b : Nat)])) (by repeat (first | exact List.mem_cons_self | apply List.mem_cons_of_mem))
                    clear hF keepS hR
                    dsimp only
                    generalize ρ 83 = v83
                    generalize ρ 84 = v84 at ha3 ⊢
                    obtain ⟨bh5, ru5, hb5, huh⟩ := HT.out
                    have hb57 := hS.1.below bh5.lt (fun i hi => (ru5.lt i hi).1)
                    have bh7 := bh5.keeps hS.1 huh
                    obtain ⟨V4, c4, rfl, -, -⟩ := own_slice ha3
                    refine wpl_set_blk bh7 1 _ (by kernel_rfl) (Nat.lt_succ_self 1) rfl rfl rfl rfl rfl rfl ?_
                    intro w8 hB8 hg8
                    have ru8 := own_keeps ha3 (Keeps.of_grown hg8) (fun i hi e => own_blk_ne ha3 bh7 (by decide) (by rw [hi]; exact e))
                    have hb8 := (hb5.trans (hb57.mono (by omega))).trans (below_of_grown hg8 (Nat.le_of_lt bh7.lt) (Nat.le_refl _))
                    have hB8' : Blk w8 H 24 [.int .i64 (M : Int), .slice V4 (PL.length + 1) c4] := hB8
                    have HR := Lib.hid (And.intro hB8' (And.intro ru8 hb8))
                    clear hS bh5 ru5 hb5 huh hb57 bh7 ha3 hB8 hB8' hg8 ru8 hb8 hS1 HT
                    go_wp2_with fail
                    go_roundw
                    case rel => exact ⟨j + 1, _, by omega, by go_num, HR.out.1, by rw [HPS2.out, List.length_append, edcs_app]; exact HR.out.2.1, HR.out.2.2⟩
                    case measure => simp [intOf]; omega
              · have hje : j = l.length := by rw [HKW.out.2.2.2.1]; omega
                rw [hje, List.take_length] at ru
                obtain ⟨VB, cb, rfl, -, -⟩ := own_slice ru
                obtain ⟨-, ga, gt, -, -⟩ := HKW.out.1 wr hbr
                have hes2 : ∀ e ∈ l, e.1 < M + 1 ∧ e.2 < M + 1 := by
                  have h1 := HP.out.2.2.1
                  rw [← HKW.out.2.2.1, HP.out.2.1] at h1
                  exact h1
                have hful2 : (Gr.take (M + 1) l).length = M + 1 := by
                  have h1 := HP.out.2.2.2.1
                  rw [← HKW.out.2.2.1, HP.out.2.1] at h1
                  exact h1
                have hkM : k ≤ M := by have := HP.out.2.1; omega
                have hplen : (Cn.part k l).length ≤ 1099511627776 := Nat.le_trans (Cn.part_length _ _) (by rw [HKW.out.2.2.2.1]; omega)
                have gC := ocount_full M (Cn.part k l) wr VB cb (by have := HP.out.2.1; omega) (Cn.part_lt hkM hes2) (Cn.part_full hkM hes2 hful2) (SlV.of_own ru) hplen gt
                have hf2 : fst M (Gr.nat es) k = Cn.ord M (Cn.okE (Cn.part k l)) (2 ^ M - 1) := by
                  unfold fst
                  rw [if_pos (HX.out.1.2 (by simpa using hx0)), HKW.out.2.2.1]
                obtain ⟨X, hX⟩ : ∃ x, x = Cn.ord M (Cn.okE (Cn.part k l)) (2 ^ M - 1) := ⟨_, rfl⟩
                rw [← hX] at gC hf2
                have hSX : Cn.sg (k + 1) (fst M (Gr.nat es)) = S + X := by rw [HX.out.2.1, hf2]
                have hSV : S + X ≤ 11112006825558016 := by
                  rw [← hSX]
                  refine Nat.le_trans (Cn.sg_up (by have := HP.out.2.1; omega : k + 1 ≤ M + 1) _) ?_
                  rw [← HP.out.1.1]
                  exact HP.out.2.2.2.2.2.1
                have h0 := (bh.cell 0).trans rfl
                have h1 := (bh.cell 1).trans rfl
                have hwrp : IntKind.u64.wrap ((S : Int) + (X : Int)) = ((S + X : Nat) : Int) := by rw [IntKind.wrap_u64]; omega
                have HSX := Lib.hid hSX
                clear ga gt hes2 hful2 hplen hf2 hX hSX ru bh
                go_wp2_with fail
                refine gC.mono ?_
                rintro _ w9 ⟨rfl, hb9⟩
                have hbf : Below w5.heap.size w5 w9 := by
                  rw [HKW.out.2.2.2.2.2] at hbr
                  have h2 := HKW.out.2.2.2.2.1
                  have h3 := h2.trans (hbr.mono h2.size)
                  exact h3.trans (hb9.mono h3.size)
                go_wp2_with fail
                go_roundw
                case rel => exact ⟨k + 1, by omega, by go_num, by first | (rw [HSX.out]; exact congrArg _ hwrp) | (rw [HSX.out]; exact congrArg _ (by omega)), hbf⟩
                case measure => simp [intOf]; omega
          · go_wp2_with fail
            have hb' := hb.trans (hbk.mono hb.size)
            go_roundw
            case rel => exact ⟨k + 1, by omega, by go_num, by rw [HX.out.2.1, HX.out.1.1 (of_decide_eq_true hx0), Nat.add_zero], hb'⟩
            case measure => simp [intOf]; omega
        · have hke : k = N := by omega
          subst hke
          obtain ⟨⟨h1, h2⟩, hM, -⟩ := HP.out
          rw [← hM] at h1
          rw [← h1]
          have g3 : decide (0 < V) = true := decide_eq_true h2
          have HF := Lib.hid (below_next (HL.out.2.2.trans (hb.mono HL.out.2.2.size)) HB.out.1)
          clear h1 h2 hM
          go_wp2_with fail
          go_ret
          exact ⟨by simp, HF.out⟩
    · have hN0 : N = 0 := by rw [beq_iff_eq] at hz; omega
      subst hN0
      have hV1 : V = 1 := by
        rw [hV]
        unfold Cn.res
        rw [← hE, if_pos rfl]
        exact Cn.ord_zero
      subst hV1
      have HF := Lib.hid (below_next hb4 HB.out.1)
      clear HE hE hV hw hn14 hok hes hln hful hb4 ga gt
      go_wp2_with fail
      go_ret
      exact ⟨rfl, HF.out⟩
  · have g0 : (E != 0) = true := by simpa using h0
    have HF := Lib.hid (below_next hb4 HB.out.1)
    clear HE h0
    go_wp2_with fail
    go_ret
    exact ⟨by simp, HF.out⟩
end Go.Proofs.YtfjmhmfkhgjnhaaDoor
