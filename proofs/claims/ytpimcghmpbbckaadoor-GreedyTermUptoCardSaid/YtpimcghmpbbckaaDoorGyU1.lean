/-
  The height of what is left: GreedyIdle's inner function, walked.
-/
import Derived.Test.YtpimcghmpbbckaaDoorGyP4
import Derived.Lib.AppendZeros
import Derived.Test.YtpimcghmpbbckaaDoorGyP2
import Derived.Test.YtpimcghmpbbckaaDoorGyP3
import Derived.Test.YtpimcghmpbbckaaDoorGyR1

namespace Go.Proofs.YtpimcghmpbbckaaDoor
set_option linter.unusedVariables false
set_option linter.unusedSimpArgs false
set_option maxRecDepth 100000
open Go.RowKit

theorem info_int3 : (Tryd.prog.info? 3).map (fun i => (i.zero, i.size, i.bytes)) = some (some (.int .i64 0), 1, 8) := by kernel_rfl
theorem info_parts1 {P : Program} {t : TypeId} {z : Value} {s b : Nat} (h : (P.info? t).map (fun i => (i.zero, i.size, i.bytes)) = some (some z, s, b)) : ∃ i, P.info? t = some i ∧ i.zero = some z ∧ i.size = s ∧ i.bytes = b := by
  obtain ⟨i, hi, he⟩ := Option.map_eq_some_iff.1 h
  injection he with h1 h2
  injection h2 with h2 h3
  exact ⟨i, hi, h1, h2, h3⟩

theorem grow_ints (n : Nat) (w : World) (hn : n ≤ 137438953472) :
    Calls Tryd.prog 46 #[.slice none 0 0, .int .i64 n] w fun e w' => ∃ v, e = .returned v ∧ w'.ownsRow w.heap.size 3 1 v 0 [] ∧ Below w.heap.size w w' := by
  rcases Nat.eq_zero_or_pos n with rfl | hpos
  · go_enter Tryd.func46, Tryd.ntmps46
    go_wp2
    go_ret
    exact ⟨_, rfl, World.ownsRow_nil _ _ _ _, Below.refl _ _⟩
  · obtain ⟨i, hi, hz0, hz1, hz2⟩ := info_parts1 info_int3
    have hcap := grownCap_ge w n 0 3
    have hcm := grownCap_le_maxLen w n 0 3 (by unfold maxLen; omega)
    have hr := fun ty kq => Lib.run_append_nil_zeros (P := Tryd.prog) w 32 3 ty 3 i _ kq .i64 Tryd.underlying32 Tryd.underlying3 hi hz0 n hpos (by omega) (by omega) (by rw [hz2]; omega)
    obtain ⟨cap, hc⟩ : ∃ cap, cap = grownCap w n 0 3 := ⟨_, rfl⟩
    rw [← hc] at hcap hcm hr
    have hcz : (Builtin.zeroCells (Value.int IntKind.i64 0).cells n ++ Builtin.zeroCells (Value.int IntKind.i64 0).cells (cap - n)).size = cap * 1 := by
      simp only [Array.size_append, size_zeroCells, Value.cells, List.size_toArray, List.length_cons, List.length_nil]
      omega
    generalize (Builtin.zeroCells (Value.int IntKind.i64 0).cells n ++ Builtin.zeroCells (Value.int IntKind.i64 0).cells (cap - n)) = cur at hr hcz
    have hcm' := hcm
    unfold maxLen at hcm
    have hend : (w.drew.alloc (.cells cur 3)).ownsRow w.heap.size 3 1 (.slice (some ⟨w.heap.size, 0, none⟩) 0 cap) 0 [] ∧ Below w.heap.size w (w.drew.alloc (.cells cur 3)) :=
      ⟨⟨rfl, .inr ⟨w.heap.size, cap, cur, rfl, Nat.le_refl _, heap_alloc_new w.drew _, Nat.zero_le _, hcm', hcz, by simp⟩⟩, below_alloc (below_drew (Below.refl _ _)) _⟩
    have HR := Lib.hid hr
    have HE := Lib.hid hend
    clear hr hend hc hcz hz0 hz1 hz2 hi hcm'
    go_enter Tryd.func46, Tryd.ntmps46
    go_wp2_with (at_builtin; refine Lib.wpList_append_run _ rfl _ _ _ _ rfl _ _ rfl rfl _ _ (HR.out _ _) ?_)
    go_ret
    exact ⟨_, rfl, HE.out.1, HE.out.2⟩

theorem flat_take_le (ls : List (List Nat)) (k : Nat) : (ls.take k).flatten.length ≤ ls.flatten.length := by
  conv => rhs; rw [← List.take_append_drop k ls, List.flatten_append, List.length_append]
  omega
/-- how many the first k hold -/
def flen (ls : List (List Nat)) (k : Nat) : Nat := (ls.take k).flatten.length
theorem flat_snoc {ls : List (List Nat)} {k : Nat} {a : List Nat} (h : ls[k]? = some a) : (ls.take (k + 1)).flatten = (ls.take k).flatten ++ a := by
  rw [Gr.take_snoc h, List.flatten_append, List.flatten_singleton]

theorem flen_le (ls : List (List Nat)) (k : Nat) : flen ls k ≤ ls.flatten.length := flat_take_le ls k
theorem flen_snoc {ls : List (List Nat)} {k : Nat} {a : List Nat} (h : ls[k]? = some a) : flen ls (k + 1) = flen ls k + a.length := by
  unfold flen
  rw [flat_snoc h, List.length_append]
theorem flen_all (ls : List (List Nat)) : flen ls ls.length = ls.flatten.length := by unfold flen; rw [List.take_length]

set_option maxHeartbeats 2000000 in
theorem concat_ints (os : List Value) (ls : List (List Nat)) (v : Value) (w : World) (h : SlV w 1 v os.length os) (hp : Gy.Rs w os ls) (hsz : ls.flatten.length ≤ 1099511627) :
    Calls Tryd.prog 21 #[v] w fun e w' => ∃ u, e = .returned u ∧ w'.ownsRow w.heap.size 3 1 u ls.flatten.length (ilist ls.flatten) ∧ Below w.heap.size w w' := by
  obtain ⟨A, c, rfl, hle, hm, hlen, hc⟩ := h
  unfold maxLen at hm
  have hone : ∀ k, k < os.length → ∃ (A' : Option Addr) (c' : Nat) (a : List Nat), os[k]? = some (.slice A' a.length c') ∧ ls[k]? = some a ∧ a.length ≤ c' ∧ c' ≤ maxLen ∧ SlN w (.slice A' a.length c') a := fun k hk => by
    obtain ⟨a, ha⟩ : ∃ a, ls[k]? = some a := ⟨_, List.getElem?_eq_getElem (by rw [← hp.1]; exact hk)⟩
    obtain ⟨u, hu, hs⟩ := hp.get ha
    obtain ⟨A', c', rfl, h1, h2⟩ := hs.form
    exact ⟨A', c', a, hu, ha, h1, h2, hs⟩
  have HL := Lib.hid hp.1
  have HO := Lib.hid (And.intro hone hsz)
  clear hone hsz hp hlen
  go_enter Tryd.func21, Tryd.ntmps21
  go_wp2
  go_loop [3, 11] (fun s i => ∃ k : Nat, k ≤ os.length ∧ i = .int .i64 k ∧ s = .int .i64 (flen ls k : Nat)) (fun s i => os.length - (intOf i).toNat)
  case atStart => exact ⟨0, Nat.zero_le _, rfl, rfl⟩
  case round =>
    obtain ⟨k, hk, rfl, rfl⟩ := hrel
    have hb := flen_le ls k
    have hb2 := HO.out.2
    by_cases hlt : k < os.length
    · obtain ⟨A', c', a, hu, hpk, hle', hm', -⟩ := HO.out.1 k hlt
      obtain ⟨b, o, rfl, hbb, hcc⟩ := hc.at_ (fun e => by rw [e] at hu; simp at hu)
      have c1 := hcc _ _ hu
      have hln := flen_snoc hpk
      have hb3 := flen_le ls (k + 1)
      rw [hln] at hb3
      have HN := Lib.hid hln
      obtain ⟨l, hl⟩ : ∃ l, l = flen ls k := ⟨_, rfl⟩
      rw [← hl] at hb hb3 ⊢
      have HK := Lib.hid hl
      clear hc hcc hu hpk hln hl
      go_wp2
      go_round
      case rel => exact ⟨k + 1, by omega, by go_num, by rw [HN.out, ← HK.out]; go_num⟩
      case measure => simp [intOf]; omega
    · have HK := Lib.hid (show k = ls.length by have := HL.out; omega)
      clear hb
      go_wp2_with fail
      refine (grow_ints _ _ (by rw [HK.out, flen_all]; omega)).mono ?_
      rintro e w1 ⟨v1, rfl, hown1, hb1⟩
      go_wp2_with fail
      go_loopw [6, 27] (fun s i wr => ∃ k : Nat, k ≤ os.length ∧ i = .int .i64 k ∧ wr.ownsRow w.heap.size 3 1 s (flen ls k) (ilist (ls.take k).flatten) ∧ Below w.heap.size w wr) (fun s i _ => os.length - (intOf i).toNat)
      case atStart => exact ⟨0, Nat.zero_le _, rfl, hown1, hb1⟩
      case round =>
        clear hb1 hown1
        obtain ⟨k, hk, rfl, hown, hbw⟩ := hrel
        have hb := flen_le ls k
        by_cases hlt : k < os.length
        · obtain ⟨A', c', a, hu, hpk, hle', hm', hpr⟩ := HO.out.1 k hlt
          obtain ⟨b, o, rfl, hbb, hcc⟩ := hc.at_ (fun e => by rw [e] at hu; simp at hu)
          have c1 := (hbw.cell (p := ⟨b, o + k, none⟩) hbb).trans (hcc _ _ hu)
          have hln : (ls.take (k + 1)).flatten = (ls.take k).flatten ++ a := flat_snoc hpk
          have hfl := flen_snoc hpk
          have hb3 := flen_le ls (k + 1)
          rw [hfl] at hb3
          obtain ⟨A'', c'', he, -, -, hil, hcd⟩ := hpr.below hbw
          injection he with e1 e2 e3
          subst e1
          have HN := Lib.hid (And.intro hln hfl)
          have n63 : flen ls k + a.length ≤ maxLen := by unfold maxLen; omega
          have n47 : (flen ls k + a.length) * 8 ≤ 140737488355328 := by omega
          have hle0 := hbw.size
          have hone : ∀ u ∈ ilist a, u.oneCell' = true := ints_one1 .i64 _
          clear hc hcc hu hpk hln hfl e2 e3
          go_wp2_with (at_builtin; refine wp_append wr _ _ _ _ _ _ _ _ Tryd.underlying32 info_int3 rfl (by decide) hown hcd hil hone n63 n47 hle0 rfl rfl rfl rfl ?_; intro v' w4 hown4 _ _ hb4)
          have hbw4 := hbw.trans hb4
          clear hown hcd hb4 hbw hpr
          go_roundw
          case rel => exact ⟨k + 1, by omega, by go_num, by rw [HN.out.1, HN.out.2]; simpa [ilist, ints] using hown4, hbw4⟩
          case measure => simp [intOf]; omega
        · have HK2 := Lib.hid (show k = ls.length by have := HL.out; omega)
          clear hc
          go_wp2
          go_ret
          exact ⟨_, rfl, by rw [HK2.out, List.take_length, flen_all] at hown; exact hown, hbw⟩
end Go.Proofs.YtpimcghmpbbckaaDoor


namespace Go.Proofs.YtpimcghmpbbckaaDoor.Gr
set_option linter.unusedVariables false
set_option linter.unusedSimpArgs false
set_option maxRecDepth 100000
open Bs

/-- has j: the set of j alone is within -/
theorem win_one {N : Nat} {s : List Nat} (h : Gs N s) {j : Nat} (hj : j ≤ 65535) : win (of_ [(j : Int)]) s = bit s j := by
  have ho := of_facts [(j : Int)]
  have key : win (of_ [(j : Int)]) s = true ↔ bit s j = true := by
    rw [win_iff ho.1 h.ws]
    constructor
    · intro hs
      have hb : bit (of_ [(j : Int)]) j = true := by rw [of_one hj, bit_put]; simp
      exact hs _ _ hb
    · intro hb i k hik
      by_cases hk : k < 64
      · have h1 : bit (of_ [(j : Int)]) (64 * i + k) = true := by
          unfold bit
          rw [show (64 * i + k) / 64 = i by omega, show (64 * i + k) % 64 = k by omega]
          exact hik
        rw [of_one hj, bit_put, bit_nil, Bool.false_or, beq_iff_eq] at h1
        rw [← h1] at hb
        unfold bit at hb
        rw [show (64 * i + k) / 64 = i by omega, show (64 * i + k) % 64 = k by omega] at hb
        exact hb
      · rw [Nat.testBit_lt_two_pow (Nat.lt_of_lt_of_le (show Bs.at_ (of_ [(j : Int)]) i < 2 ^ 64 from ho.1.at_ i) (Nat.pow_le_pow_right (by decide) (by omega)))] at hik
        cases hik
  cases h1 : win (of_ [(j : Int)]) s <;> cases h2 : bit s j <;> simp_all
theorem win_sub {N : Nat} {s t : List Nat} (h : Gs N s) (k : Gs N t) (e : ∀ m, bit s m = true → bit t m = true) : win s t = true := by
  rw [win_iff h.ws k.ws]
  intro i j hij
  by_cases hj : j < 64
  · have := e (64 * i + j)
    unfold bit at this
    rw [show (64 * i + j) / 64 = i by omega, show (64 * i + j) % 64 = j by omega] at this
    exact this hij
  · rw [Nat.testBit_lt_two_pow (Nat.lt_of_lt_of_le (show Bs.at_ s i < 2 ^ 64 from h.ws.at_ i) (Nat.pow_le_pow_right (by decide) (by omega)))] at hij
    cases hij
theorem behW_at {N : Nat} {es : List Ed} (hes : ∀ e ∈ es, e.2 < N) (n : Nat) : Gs N ((behW N es).getD n []) := by
  by_cases hn : n < (behW N es).length
  · rw [List.getD_eq_getElem?_getD, List.getElem?_eq_getElem hn, Option.getD_some]
    exact behW_gs hes _ (List.getElem_mem hn)
  · rw [List.getD_eq_getElem?_getD, List.getElem?_eq_none (by omega), Option.getD_none]
    exact Gs.nil N
/-- what the law says -/
theorem behind_law {N : Nat} {es : List Ed} (hN : N ≤ 200) (hl : (take N es).length = N) (hes : ∀ e ∈ es, e.2 < N) {i j : Nat} (hi : i < N) (hj : j < N) :
    win (of_ [(i : Int)]) ((behW N es).getD i []) = false ∧ (win (of_ [(j : Int)]) ((behW N es).getD i []) = true → win ((behW N es).getD j []) ((behW N es).getD i []) = true ∧ win (of_ [(i : Int)]) ((behW N es).getD j []) = false) := by
  have hr := (good_take N es).not_round hl hes
  have key : ∀ a b, a < N → b < N → (win (of_ [(b : Int)]) ((behW N es).getD a []) = true ↔ Way es a b) := fun a b ha hb => by
    rw [win_one (behW_at hes a) (by omega), behW_is hl hes a ha]
  refine ⟨?_, fun h => ⟨?_, ?_⟩⟩
  · cases hc : win (of_ [(i : Int)]) ((behW N es).getD i []) with
    | false => rfl
    | true => exact absurd ((key i i hi hi).1 hc) (hr i)
  · exact win_sub (behW_at hes j) (behW_at hes i) fun m hm => (behW_is hl hes i hi m).2 (((key i j hi hj).1 h).trans ((behW_is hl hes j hj m).1 hm))
  · cases hc : win (of_ [(i : Int)]) ((behW N es).getD j []) with
    | false => rfl
    | true => exact absurd (((key i j hi hj).1 h).trans ((key j i hj hi).1 hc)) (hr i)
end Go.Proofs.YtpimcghmpbbckaaDoor.Gr


namespace Go.Proofs.YtpimcghmpbbckaaDoor.Gr
set_option linter.unusedVariables false
set_option linter.unusedSimpArgs false
set_option maxRecDepth 100000
open Bs
/-- the pairs of the first k -/
def edk (L : List (List Nat)) (k : Nat) : List Ed := (List.range k).flatMap fun i => (ls 0 (L.getD i [])).map fun j => (i, j)
def edW (L : List (List Nat)) : List Ed := edk L L.length
theorem edk_zero (L : List (List Nat)) : edk L 0 = [] := rfl
theorem edk_succ (L : List (List Nat)) (k : Nat) : edk L (k + 1) = edk L k ++ (ls 0 (L.getD k [])).map fun j => (k, j) := by
  unfold edk
  rw [List.range_succ, List.flatMap_append]
  simp
theorem getD_gs {N : Nat} {L : List (List Nat)} (h : ∀ s ∈ L, Gs N s) (k : Nat) : Gs N (L.getD k []) := by
  by_cases hk : k < L.length
  · rw [List.getD_eq_getElem?_getD, List.getElem?_eq_getElem hk, Option.getD_some]
    exact h _ (List.getElem_mem hk)
  · rw [List.getD_eq_getElem?_getD, List.getElem?_eq_none (by omega), Option.getD_none]
    exact Gs.nil N
theorem edk_mem {N : Nat} {L : List (List Nat)} (h : ∀ s ∈ L, Gs N s) (k : Nat) (e : Ed) : e ∈ edk L k ↔ e.1 < k ∧ bit (L.getD e.1 []) e.2 = true := by
  unfold edk
  rw [List.mem_flatMap]
  constructor
  · rintro ⟨i, hi, he⟩
    obtain ⟨j, hj, rfl⟩ := List.mem_map.1 he
    exact ⟨List.mem_range.1 hi, (mem_list (getD_gs h i).ws j).1 hj⟩
  · rintro ⟨h1, h2⟩
    exact ⟨e.1, List.mem_range.2 h1, List.mem_map.2 ⟨e.2, (mem_list (getD_gs h e.1).ws e.2).2 h2, rfl⟩⟩
theorem edW_mem {N : Nat} {L : List (List Nat)} (h : ∀ s ∈ L, Gs N s) (e : Ed) : e ∈ edW L ↔ e.1 < L.length ∧ bit (L.getD e.1 []) e.2 = true := edk_mem h _ e
theorem edW_lt {N : Nat} {L : List (List Nat)} (h : ∀ s ∈ L, Gs N s) (hL : L.length = N) : ∀ e ∈ edW L, e.1 < N ∧ e.2 < N := fun e he => by
  obtain ⟨h1, h2⟩ := (edW_mem h e).1 he
  exact ⟨by omega, (getD_gs h e.1).lt e.2 h2⟩
theorem ls_len {N : Nat} {s : List Nat} (h : Gs N s) : (ls 0 s).length ≤ N := by
  have hn : (ls 0 s).Nodup := (ls_rise s 0 h.ws).imp fun h => by omega
  have := hn.length_le_of_subset (l₂ := List.range N) (fun m hm => List.mem_range.2 (h.lt m ((mem_list h.ws m).1 hm)))
  simpa using this
theorem edk_len {N : Nat} {L : List (List Nat)} (h : ∀ s ∈ L, Gs N s) : ∀ k, (edk L k).length ≤ k * N
  | 0 => by simp [edk]
  | k + 1 => by
    rw [edk_succ, List.length_append, List.length_map, Nat.add_mul, Nat.one_mul]
    exact Nat.add_le_add (edk_len h k) (ls_len (getD_gs h k))
end Go.Proofs.YtpimcghmpbbckaaDoor.Gr


namespace Go.Proofs.YtpimcghmpbbckaaDoor.Gr
set_option linter.unusedVariables false
set_option linter.unusedSimpArgs false
set_option maxRecDepth 100000
open Bs
/-- the set of one node without what is behind the first ones in it -/
def cj (B : List (List Nat)) (s : List Nat) (pre : List Nat) : List Nat := pre.foldl (fun a m => op fless a (B.getD m [])) s
theorem cj_nil (B : List (List Nat)) (s : List Nat) : cj B s [] = s := rfl
theorem cj_snoc (B : List (List Nat)) (s : List Nat) (pre : List Nat) (m : Nat) : cj B s (pre ++ [m]) = op fless (cj B s pre) (B.getD m []) := by
  unfold cj
  rw [List.foldl_append]
  rfl
def core1 (B : List (List Nat)) (i : Nat) : List Nat := cj B (B.getD i []) (ls 0 (B.getD i []))
/-- the first k are done -/
def ck (B : List (List Nat)) (N k : Nat) : List (List Nat) := (List.range N).map fun i => if i < k then core1 B i else []
def coreW (B : List (List Nat)) : List (List Nat) := (List.range B.length).map (core1 B)
theorem ck_zero (B : List (List Nat)) (N : Nat) : ck B N 0 = List.replicate N [] := by
  unfold ck
  apply List.ext_getElem
  · simp
  · intro i h h'; simp
theorem ck_all (B : List (List Nat)) : ck B B.length B.length = coreW B := by
  unfold ck coreW
  refine List.map_congr_left fun i hi => ?_
  rw [if_pos (List.mem_range.1 hi)]
theorem ck_length (B : List (List Nat)) (N k : Nat) : (ck B N k).length = N := by simp [ck]
theorem ck_step (B : List (List Nat)) (N k : Nat) : (ck B N k).set k (core1 B k) = ck B N (k + 1) := by
  unfold ck
  rw [map_set]
  refine List.map_congr_left fun i _ => ?_
  by_cases e : i = k
  · rw [if_pos e, if_pos (by omega), e]
  · rw [if_neg e]
    by_cases h : i < k
    · rw [if_pos h, if_pos (by omega)]
    · rw [if_neg h, if_neg (by omega)]
theorem coreW_length (B : List (List Nat)) : (coreW B).length = B.length := by simp [coreW]
theorem cj_gs {N : Nat} {B : List (List Nat)} (h : ∀ s ∈ B, Gs N s) {s : List Nat} (hs : Gs N s) (pre : List Nat) : Gs N (cj B s pre) := by
  unfold cj
  induction pre generalizing s with
  | nil => exact hs
  | cons m l ih => exact ih (hs.less (getD_gs h m).ws)
theorem cj_bit {N : Nat} {B : List (List Nat)} (h : ∀ s ∈ B, Gs N s) (x : Nat) : ∀ (pre : List Nat) {s : List Nat}, Gs N s → (bit (cj B s pre) x = true ↔ bit s x = true ∧ ∀ m ∈ pre, bit (B.getD m []) x = false)
  | [], s, _ => by simp [cj]
  | m :: l, s, hs => by
    show bit (cj B (op fless s (B.getD m [])) l) x = true ↔ _
    rw [cj_bit h x l (hs.less (getD_gs h m).ws), bit_less hs.ws (getD_gs h m).ws, Bool.and_eq_true, Bool.not_eq_true']
    constructor
    · rintro ⟨⟨a, b⟩, c⟩
      exact ⟨a, fun m' hm => (List.mem_cons.1 hm).elim (fun e => e ▸ b) (c m')⟩
    · rintro ⟨a, b⟩
      exact ⟨⟨a, b m List.mem_cons_self⟩, fun m' hm => b m' (List.mem_cons_of_mem _ hm)⟩
theorem core1_gs {N : Nat} {B : List (List Nat)} (h : ∀ s ∈ B, Gs N s) (i : Nat) : Gs N (core1 B i) := cj_gs h (getD_gs h i) _
theorem coreW_gs {N : Nat} {B : List (List Nat)} (h : ∀ s ∈ B, Gs N s) : ∀ s ∈ coreW B, Gs N s := fun s hs => by
  obtain ⟨i, -, rfl⟩ := List.mem_map.1 hs
  exact core1_gs h i
theorem core1_bit {N : Nat} {B : List (List Nat)} (h : ∀ s ∈ B, Gs N s) (i x : Nat) : bit (core1 B i) x = true ↔ bit (B.getD i []) x = true ∧ ∀ m, bit (B.getD i []) m = true → bit (B.getD m []) x = false := by
  unfold core1
  rw [cj_bit h x _ (getD_gs h i)]
  refine and_congr Iff.rfl ⟨fun H m hm => H m ((mem_list (getD_gs h i).ws m).2 hm), fun H m hm => H m ((mem_list (getD_gs h i).ws m).1 hm)⟩
theorem coreW_getD (B : List (List Nat)) {i : Nat} (hi : i < B.length) : (coreW B).getD i [] = core1 B i := by
  unfold coreW
  rw [List.getD_eq_getElem?_getD, List.getElem?_map, List.getElem?_range hi]
  rfl
end Go.Proofs.YtpimcghmpbbckaaDoor.Gr


namespace Go.Proofs.YtpimcghmpbbckaaDoor.Gr
set_option linter.unusedVariables false
set_option linter.unusedSimpArgs false
set_option maxRecDepth 100000
open Bs

/-- where every edge goes along a way of a graph without rounds, all can be taken -/
theorem full_of_sub {N : Nat} {es es' : List Ed} (hl : (take N es).length = N) (hsub : ∀ e ∈ es', Way es e.1 e.2) (hlt : ∀ e ∈ es', e.1 < N ∧ e.2 < N) : (take N es').length = N := by
  have hg := good_take N es
  have hg' := good_take N es'
  have hst := take_stop N es'
  have key : ∀ (i m : Nat), (take N es)[i]? = some m → m ∈ take N es' := by
    intro i
    induction i using Nat.strongRecOn with
    | _ i ih =>
      intro m hm
      by_cases hc : m ∈ take N es'
      · exact hc
      · exfalso
        have hmN := hg.lt m (List.mem_of_getElem? hm)
        have hr := nxt_none hst m hmN
        have : ¬ rdy es' (take N es') m = true := by rw [hr]; simp
        rw [rdy_iff] at this
        apply this
        refine ⟨hc, fun e he em => ?_⟩
        have hw := hsub e he
        rw [em] at hw
        obtain ⟨j, hj, hje⟩ := hg.up hw i hm
        exact ih j hj _ hje
  have hall : ∀ m, m < N → m ∈ take N es' := fun m hm => by
    obtain ⟨i, hi⟩ := List.getElem?_of_mem (hg.full hl m hm)
    exact key i m hi
  have h1 := (List.nodup_range (n := N)).length_le_of_subset (l₂ := take N es') (fun m hm => hall m (List.mem_range.1 hm))
  have h2 := hg'.length
  rw [List.length_range] at h1
  omega
theorem way_sub {es es' : List Ed} (h : ∀ e ∈ es', Way es e.1 e.2) {a b : Nat} (hw : Way es' a b) : Way es a b := by
  induction hw with
  | one he => exact h _ he
  | on he _ ih => exact (h _ he).trans ih

set_option linter.unusedSectionVars false
section
variable {N : Nat} {es : List Ed} (hl : (take N es).length = N) (hes : ∀ e ∈ es, e.1 < N ∧ e.2 < N)
include hl hes
theorem way_lt {a b : Nat} (h : Way es a b) : a < N ∧ b < N := by
  constructor
  · obtain ⟨m, hm, -⟩ := h.head; exact (hes _ hm).1
  · obtain ⟨m, hm⟩ := h.last; exact (hes _ hm).2
theorem beh_bit {a b : Nat} (ha : a < N) : bit ((behW N es).getD a []) b = true ↔ Way es a b := behW_is hl (fun e he => (hes e he).2) a ha b
theorem beh_gs : ∀ s ∈ behW N es, Gs N s := behW_gs fun e he => (hes e he).2
/-- an edge of the closure is a way -/
theorem clo_edge (e : Ed) : e ∈ edW (behW N es) ↔ Way es e.1 e.2 := by
  rw [edW_mem (beh_gs hl hes), behW_length]
  constructor
  · rintro ⟨h1, h2⟩
    exact (beh_bit hl hes h1).1 h2
  · intro h
    have h1 := (way_lt hl hes h).1
    exact ⟨h1, (beh_bit hl hes h1).2 h⟩
/-- an edge of the core is a way that no two ways make -/
theorem core_edge (e : Ed) : e ∈ edW (coreW (behW N es)) ↔ Way es e.1 e.2 ∧ ∀ m, Way es e.1 m → ¬ Way es m e.2 := by
  rw [edW_mem (coreW_gs (beh_gs hl hes)), coreW_length, behW_length]
  constructor
  · rintro ⟨h1, h2⟩
    rw [coreW_getD _ (by rw [behW_length]; exact h1), core1_bit (beh_gs hl hes), beh_bit hl hes h1] at h2
    refine ⟨h2.1, fun m hm hc => ?_⟩
    have := h2.2 m ((beh_bit hl hes h1).2 hm)
    rw [(beh_bit hl hes (way_lt hl hes hc).1).2 hc] at this
    cases this
  · rintro ⟨h1, h2⟩
    have h0 := (way_lt hl hes h1).1
    refine ⟨h0, ?_⟩
    rw [coreW_getD _ (by rw [behW_length]; exact h0), core1_bit (beh_gs hl hes), beh_bit hl hes h0]
    refine ⟨h1, fun m hm => ?_⟩
    have hw := (beh_bit hl hes h0).1 hm
    cases hc : bit ((behW N es).getD m []) e.2 with
    | false => rfl
    | true => exact absurd ((beh_bit hl hes (way_lt hl hes hw).2).1 hc) (h2 m hw)
theorem core_way {a b : Nat} (h : Way es a b) : Way (edW (coreW (behW N es))) a b := by
  have hg := good_take N es
  obtain ⟨j, hj⟩ := List.getElem?_of_mem (hg.full hl b (way_lt hl hes h).2)
  obtain ⟨i, hi, hia⟩ := hg.up h j hj
  have key : ∀ (d i j a b : Nat), j - i = d → (take N es)[i]? = some a → (take N es)[j]? = some b → Way es a b → Way (edW (coreW (behW N es))) a b := by
    intro d
    induction d using Nat.strongRecOn with
    | _ d ih =>
      intro i j a b hd hia hjb hw
      by_cases hc : ∀ m, Way es a m → ¬ Way es m b
      · exact .one ((core_edge hl hes (a, b)).2 ⟨hw, hc⟩)
      · have : ∃ m, Way es a m ∧ Way es m b := by
          apply Classical.byContradiction
          intro h
          exact hc fun m h1 h2 => h ⟨m, h1, h2⟩
        obtain ⟨m, h1, h2⟩ := this
        obtain ⟨k, hk, hkm⟩ := hg.up h2 j hjb
        obtain ⟨i', hi', hia'⟩ := hg.up h1 k hkm
        have := hg.inj hia hia'
        subst this
        exact (ih (k - i) (by omega) i k a m rfl hia hkm h1).trans (ih (j - k) (by omega) k j m b rfl hkm hjb h2)
  exact key _ i j a b rfl hia hj h
/-- graphs with the same ways have the same sets -/
theorem beh_same {es' : List Ed} (hl' : (take N es').length = N) (hes' : ∀ e ∈ es', e.1 < N ∧ e.2 < N) (h : ∀ a b, Way es' a b ↔ Way es a b) : behW N es' = behW N es := by
  apply List.ext_getElem
  · rw [behW_length, behW_length]
  · intro i h1 h2
    rw [behW_length] at h1
    refine (beh_gs hl' hes' _ (List.getElem_mem (by rw [behW_length]; exact h1))).ext (beh_gs hl hes _ (List.getElem_mem h2)) fun m => ?_
    have e1 : bit ((behW N es').getD i []) m = bit ((behW N es).getD i []) m := by
      rw [Bool.eq_iff_iff, beh_bit hl' hes' h1, beh_bit hl hes h1, h]
    rw [List.getD_eq_getElem?_getD, List.getD_eq_getElem?_getD, List.getElem?_eq_getElem (by rw [behW_length]; exact h1), List.getElem?_eq_getElem h2] at e1
    exact e1
theorem clo_lt : ∀ e ∈ edW (behW N es), e.1 < N ∧ e.2 < N := edW_lt (beh_gs hl hes) (behW_length _ _)
theorem core_lt : ∀ e ∈ edW (coreW (behW N es)), e.1 < N ∧ e.2 < N := edW_lt (coreW_gs (beh_gs hl hes)) (by rw [coreW_length, behW_length])
theorem clo_full : (take N (edW (behW N es))).length = N := full_of_sub hl (fun e he => (clo_edge hl hes e).1 he) (clo_lt hl hes)
theorem core_full : (take N (edW (coreW (behW N es)))).length = N := full_of_sub hl (fun e he => ((core_edge hl hes e).1 he).1) (core_lt hl hes)
theorem clo_same : behW N (edW (behW N es)) = behW N es := beh_same hl hes (clo_full hl hes) (clo_lt hl hes) fun a b => ⟨way_sub fun e he => (clo_edge hl hes e).1 he, fun h => .one ((clo_edge hl hes (a, b)).2 h)⟩
theorem core_same : behW N (edW (coreW (behW N es))) = behW N es := beh_same hl hes (core_full hl hes) (core_lt hl hes) fun a b => ⟨way_sub fun e he => ((core_edge hl hes e).1 he).1, core_way hl hes⟩
theorem clo_has : ∀ e ∈ es, e ∈ edW (behW N es) := fun e he => (clo_edge hl hes e).2 (.one he)
/-- an edge of the core is one of the graph's -/
theorem core_in (e : Ed) (h : e ∈ edW (coreW (behW N es))) : e ∈ es := by
  obtain ⟨h1, h2⟩ := (core_edge hl hes e).1 h
  obtain ⟨m, hm, rfl | hw⟩ := h1.head
  · exact hm
  · exact absurd hw (h2 m (.one hm))
end
theorem ls_nodup {N : Nat} {s : List Nat} (h : Gs N s) : (ls 0 s).Nodup := (ls_rise s 0 h.ws).imp fun h => by omega
theorem edk_nodup {N : Nat} {L : List (List Nat)} (h : ∀ s ∈ L, Gs N s) : ∀ k, (edk L k).Nodup
  | 0 => by rw [edk_zero]; exact List.nodup_nil
  | k + 1 => by
    rw [edk_succ]
    refine List.nodup_append.2 ⟨edk_nodup h k, ?_, fun e he f hf heq => ?_⟩
    · exact List.pairwise_map.2 ((ls_nodup (getD_gs h k)).imp fun hab hc => hab (by injection hc))
    · obtain ⟨j, -, rfl⟩ := List.mem_map.1 hf
      have := ((edk_mem h k e).1 he).1
      rw [heq] at this
      exact absurd this (by simp)
/-- one edge of the core is left out: what it led to is not behind any more -/
theorem least_law {N : Nat} {es : List Ed} (hl : (take N es).length = N) (hes : ∀ e ∈ es, e.1 < N ∧ e.2 < N) {k : Nat} {e : Ed} (hk : (edW (coreW (behW N es)))[k]? = some e) :
    let less := (edW (coreW (behW N es))).take k ++ (edW (coreW (behW N es))).drop (k + 1)
    (take N less).length = N ∧ (∀ x ∈ less, x.1 < N ∧ x.2 < N) ∧ e.2 ∉ ls 0 ((behW N less).getD e.1 []) ∧ e.1 < N ∧ e ∈ es := by
  intro less
  have hsub : ∀ x ∈ less, x ∈ edW (coreW (behW N es)) := fun x hx => (List.mem_append.1 hx).elim (fun h => List.mem_of_mem_take h) (fun h => List.mem_of_mem_drop h)
  have hlt : ∀ x ∈ less, x.1 < N ∧ x.2 < N := fun x hx => core_lt hl hes x (hsub x hx)
  have hw : ∀ x ∈ less, Way es x.1 x.2 := fun x hx => ((core_edge hl hes x).1 (hsub x hx)).1
  have hf := full_of_sub hl hw hlt
  have he := List.mem_of_getElem? hk
  have hnd : (edW (coreW (behW N es))).Nodup := edk_nodup (coreW_gs (beh_gs hl hes)) _
  have hno : e ∉ less := fun hc => by
    rcases List.mem_append.1 hc with h | h
    · obtain ⟨i, hi⟩ := List.getElem?_of_mem h
      rw [List.getElem?_take] at hi
      split at hi
      · have := (List.getElem_inj hnd).1 ((List.getElem?_eq_some_iff.1 hi).2.trans (List.getElem?_eq_some_iff.1 hk).2.symm)
        omega
      · cases hi
    · obtain ⟨i, hi⟩ := List.getElem?_of_mem h
      rw [List.getElem?_drop] at hi
      have := (List.getElem_inj hnd).1 ((List.getElem?_eq_some_iff.1 hi).2.trans (List.getElem?_eq_some_iff.1 hk).2.symm)
      omega
  refine ⟨hf, hlt, fun hc => ?_, (core_lt hl hes e he).1, core_in hl hes e he⟩
  have h1 := (mem_list (getD_gs (beh_gs hf hlt) e.1).ws e.2).1 hc
  have h2 := (beh_bit hf hlt (core_lt hl hes e he).1).1 h1
  have h3 := ((core_edge hl hes e).1 he).2
  obtain ⟨m, hm, rfl | hmw⟩ := h2.head
  · exact hno hm
  · exact h3 m (hw _ hm) (way_sub hw hmw)
end Go.Proofs.YtpimcghmpbbckaaDoor.Gr


namespace Go.Proofs.YtpimcghmpbbckaaDoor
set_option linter.unusedVariables false
set_option linter.unusedSimpArgs false
set_option maxRecDepth 100000
open Go.RowKit

namespace Gr
def zed (es : List Ed) : List Er := es.map fun e => ((e.1 : Int), (e.2 : Int))
theorem nat_zed (es : List Ed) : nat (zed es) = es := by
  unfold nat zed
  rw [List.map_map]
  conv => rhs; rw [← List.map_id es]
  refine List.map_congr_left fun e _ => ?_
  simp
theorem zed_length (es : List Ed) : (zed es).length = es.length := by simp [zed]
theorem wrong_zed {N : Nat} {es : List Ed} (hN : N ≤ 200) (hes : ∀ e ∈ es, e.1 < N ∧ e.2 < N) (hful : (take N es).length = N) : wrong (N : Int) (zed es) = 0 := by
  have hok : okG (N : Int) (zed es) = true := okG_iff.2 ⟨by omega, by omega, fun e he => by
    obtain ⟨x, hx, rfl⟩ := List.mem_map.1 he
    have := hes x hx
    exact ⟨by show 0 ≤ (x.1 : Int); omega, by show 0 ≤ (x.2 : Int); omega, by show (x.1 : Int) < N; omega, by show (x.2 : Int) < N; omega⟩⟩
  unfold wrong
  rw [if_pos hok, Int.toNat_natCast, nat_zed, hful, if_neg (Nat.lt_irrefl _)]
theorem left_full {N : Nat} {es : List Ed} {D : List Nat} (hes : ∀ e ∈ es, e.1 < N ∧ e.2 < N) (hful : (take N es).length = N) : (take N (left es D)).length = N :=
  full_of_sub hful (fun e he => .one (mem_left.1 he).1) (fun e he => hes e (mem_left.1 he).1)
theorem left_snoc (es : List Ed) (D : List Nat) (k : Nat) (e : Ed) (h : es[k]? = some e) : left (es.take (k + 1)) D = left (es.take k) D ++ (if !D.contains e.1 && !D.contains e.2 then [e] else []) := by
  unfold left
  rw [take_snoc h, List.filter_append]
  congr 1
  simp only [List.filter_cons, List.filter_nil]
end Gr
theorem ercs_zed (es : List Gr.Ed) : ercs (Gr.zed es) = edcs es := by
  unfold ercs edcs Gr.zed
  rw [List.flatMap_map, List.flatMap_def, List.flatMap_def]
  congr 1

/-- the height of a graph that is right -/
theorem height_full (N : Nat) (es : List Gr.Ed) (w : World) (A : Option Addr) (c : Nat) (hN : N ≤ 200) (hes : ∀ e ∈ es, e.1 < N ∧ e.2 < N) (hful : (Gr.take N es).length = N) (hA : SlV w 2 (.slice A es.length c) es.length (edcs es)) (hle : es.length ≤ 1099511627776) (hT : Tab w) :
    Calls Tryd.prog 15 #[.agg #[.int .i64 (N : Int), .slice A es.length c]] w fun e w' => ∃ (h : Nat) (L : List Nat), e = .returned (.tuple #[.int .i64 (h : Int), .int .i64 0]) ∧ Gr.LvL N es L ∧ h = Gr.hgt L ∧ h ≤ 201 ∧ Below w.heap.size w w' := by
  have := height_any (N : Int) (Gr.zed es) w A c (by rw [Gr.zed_length, ercs_zed]; exact hA) (by rw [Gr.zed_length]; exact hle) hT
  rw [Gr.zed_length, Gr.wrong_zed hN hes hful, Gr.nat_zed, Int.toNat_natCast] at this
  refine this.mono ?_
  rintro e w' ⟨h, he, -, hL, hh, hb⟩
  obtain ⟨L, h1, h2⟩ := hL rfl
  exact ⟨h, L, he, h1, h2, hh, hb⟩
end Go.Proofs.YtpimcghmpbbckaaDoor


namespace Go.Proofs.YtpimcghmpbbckaaDoor
set_option linter.unusedVariables false
set_option linter.unusedSimpArgs false
set_option maxRecDepth 100000
open Go.RowKit

def Bs.has (x : Int) (xs : List Int) : Bool := xs.any (fun y => x == y)
theorem index_i64 (v : Value) (xs : List Int) (s : Int) (w : World) (h : SlV w 1 v xs.length (ints .i64 xs)) :
    Calls Tryd.prog 47 #[v, .int .i64 s] w fun e w' => (∃ z : Int, e = .returned (.int .i64 z) ∧ decide (0 ≤ z) = Bs.has s xs) ∧ ∃ m, w' = w.drewN m := by
  obtain ⟨A, c, rfl, hle, hm, hlen, hc⟩ := h
  clear hlen
  unfold maxLen at hm
  go_enter Tryd.func47, Tryd.ntmps47
  go_wp2
  go_loopw [8] (fun i wr => ∃ k : Nat, k ≤ xs.length ∧ i = .int .i64 k ∧ (∃ a, wr = w.drewN a) ∧ (xs.take k).any (fun x => s == x) = false) (fun i _ => xs.length - (intOf i).toNat)
  case atStart => exact ⟨0, Nat.zero_le _, rfl, ⟨0, rfl⟩, rfl⟩
  case round =>
    obtain ⟨k, hk, rfl, ⟨a, rfl⟩, ht⟩ := hrel
    have HT := Lib.hid ht
    clear ht
    by_cases hlt : k < xs.length
    · obtain ⟨b, o, x, rfl, hb, hx, hcc⟩ := hc.one hlt
      have HX := Lib.hid hx.out
      clear hc hx
      rcases hq : (s == x) with _ | _
      · go_wp2
        go_roundw
        case rel => exact ⟨k + 1, by omega, by go_num, ⟨_, rfl⟩, by
          obtain ⟨h', hx'⟩ := List.getElem?_eq_some_iff.1 HX.out
          rw [List.take_succ_eq_append_getElem h', List.any_append, HT.out, hx']
          simp [hq]⟩
        case measure => simp [intOf]; omega
      · go_wp2
        go_ret
        exact ⟨⟨_, rfl, by
          have : Bs.has s xs = true := List.any_eq_true.2 ⟨x, List.mem_of_getElem? HX.out, hq⟩
          rw [this]
          simp⟩, ⟨_, rfl⟩⟩
    · have HK := Lib.hid (show k = xs.length by omega)
      clear hc
      go_wp2
      go_ret
      exact ⟨⟨_, rfl, by
        have := HT.out
        rw [HK.out, List.take_length] at this
        show _ = Bs.has s xs
        unfold Bs.has
        rw [this]
        rfl⟩, ⟨_, rfl⟩⟩

theorem contains_i64 (v : Value) (xs : List Int) (s : Int) (w : World) (h : SlV w 1 v xs.length (ints .i64 xs)) :
    Calls Tryd.prog 22 #[v, .int .i64 s] w fun e w' => e = .returned (.bool (Bs.has s xs)) ∧ ∃ m, w' = w.drewN m := by
  have hi := index_i64 v xs s w h
  obtain ⟨A, c, rfl, hle, hm, hlen, hc⟩ := h
  clear hlen hc hm hle
  go_enter Tryd.func22, Tryd.ntmps22
  go_wp2_with fail
  refine hi.mono ?_
  rintro e w1 ⟨⟨z, rfl, hz⟩, m, rfl⟩
  have HZ := Lib.hid hz
  clear hz hi
  go_wp2
  go_ret
  exact ⟨ret_bool HZ.out, m, rfl⟩

end Go.Proofs.YtpimcghmpbbckaaDoor


namespace Go.Proofs.YtpimcghmpbbckaaDoor
set_option linter.unusedVariables false
set_option linter.unusedSimpArgs false
set_option maxRecDepth 100000
open Go.RowKit

theorem info_edge4 : (Tryd.prog.info? 34).map (fun i => (i.zero, i.size, i.bytes)) = some (some (.agg #[.int .i64 0, .int .i64 0]), 2, 16) := by kernel_rfl
theorem has_nat (D : List Nat) (a : Nat) : Bs.has (a : Int) (D.map fun (x : Nat) => (x : Int)) = D.contains a := by
  unfold Bs.has
  rw [List.any_map, List.contains_eq_any_beq]
  congr 1
  funext y
  simp only [Function.comp]
  rw [Bool.eq_iff_iff]
  simp only [beq_iff_eq]
  omega

/-- what is known of the height of what is left -/
def LeftIs (N : Nat) (es : List Gr.Ed) (D : List Nat) (h : Nat) : Prop := (D.length = N → h = 0) ∧ (D.length ≠ N → ∃ L, Gr.LvL N (Gr.left es D) L ∧ h = Gr.hgt L) ∧ h ≤ 201


set_option maxHeartbeats 4000000 in
theorem left_walk (N : Nat) (es : List Gr.Ed) (w : World) (A : Option Addr) (c : Nat) (g : Nat) (v : Value) (os : List Value) (ls : List (List Nat)) (hN : N ≤ 200) (hes : ∀ e ∈ es, e.1 < N ∧ e.2 < N) (hful : (Gr.take N es).length = N) (hA : SlV w 2 (.slice A es.length c) es.length (edcs es)) (hle : es.length ≤ 1099511627) (hT : Tab w)
    (hG : Blk w g 24 [.int .i64 (N : Int), .slice A es.length c]) (hv : SlV w 1 v os.length os) (hR : Gy.Rs w os ls) (hfl : ls.flatten.length ≤ N) :
    Calls Tryd.prog 20 #[v, .pointer (some ⟨g, 0, none⟩)] w fun e w' => ∃ h : Nat, e = .returned (.int .i64 (h : Int)) ∧ LeftIs N es ls.flatten h ∧ Below w.heap.size w w' := by
  have hcc := concat_ints os ls v w hv hR (by omega)
  have HES := Lib.hid hes
  have HT := Lib.hid hT
  clear hes hT hv hR
  obtain ⟨D, hD⟩ : ∃ D, D = ls.flatten := ⟨_, rfl⟩
  rw [← hD] at hcc hfl ⊢
  clear hD
  go_enter Tryd.func20, Tryd.ntmps20
  go_wp2_with fail
  refine hcc.mono ?_
  rintro _ w1 ⟨u, rfl, hown, hb1⟩
  obtain ⟨Au, cu, rfl, -, -⟩ := own_slice hown
  have x1 := hG.below hb1
  have c0 : w1.cell? ⟨g, 0, none⟩ = some (.int .i64 (N : Int)) := (x1.cell 0).trans rfl
  have hX := Blk.new w1 24 [.int .i64 (N : Int), .slice none 0 0]
  have hb2 := below_alloc (Below.refl w1.heap.size w1) (.cells #[.int .i64 (N : Int), .slice none 0 0] 24)
  have x2 := x1.below hb2
  obtain ⟨q, hq⟩ : ∃ q, q = w1.heap.size := ⟨_, rfl⟩
  have hsz2 : (w1.alloc (.cells #[.int .i64 (N : Int), .slice none 0 0] 24)).heap.size = q + 1 := by rw [hq]; simp
  have HQ := Lib.hid (And.intro hq hsz2)
  clear hcc hq hsz2
  go_upto_region 3 with (fail)
  rw [← HQ.out.1] at hX ⊢
  have hsz2 := HQ.out.2
  generalize (w1.alloc (.cells #[.int .i64 (N : Int), .slice none 0 0] 24)) = w2 at hX hb2 x2 hsz2 ⊢
  have HQ' := Lib.hid (And.intro HQ.out.1 hsz2)
  clear HQ hsz2
  have d1 : w2.cell? ⟨g, 1, none⟩ = some (.slice A es.length c) := (x2.cell 1).trans rfl
  have hSD : SlN w1 (.slice Au D.length cu) D := SlN.of_own hown
  have hK : ∀ w', Below w1.heap.size w1 w' → SlN w' (.slice Au D.length cu) D ∧ SlV w' 2 (.slice A es.length c) es.length (edcs es) ∧ w'.cell? ⟨g, 0, none⟩ = some (.int .i64 (N : Int)) ∧ Tab w' ∧ Below w.heap.size w w' := fun w' hb =>
    ⟨hSD.below hb, hA.below (below_next hb hb1), ((x1.below hb).cell 0).trans rfl, HT.out.later HT.out.lt (below_next hb hb1), below_next hb hb1⟩
  have HK := Lib.hid hK
  have HB2 := Lib.hid hb2
  clear hK hb1 hSD hown x1 x2 c0 hA hG hb2
  go_wp2_with fail
  clear d1
  go_loopw [18] (fun i wr => ∃ (j : Nat) (e : Value), j ≤ es.length ∧ i = .int .i64 (j : Int) ∧ Blk wr q 24 [.int .i64 (N : Int), e] ∧ wr.ownsRow (q + 1) 34 2 e (Gr.left (es.take j) D).length (edcs (Gr.left (es.take j) D)) ∧ Below w1.heap.size w1 wr ∧ q + 1 ≤ wr.heap.size) (fun i _ => es.length - (intOf i).toNat)
  case atStart => exact ⟨0, _, Nat.zero_le _, rfl, hX, by rw [List.take_zero]; exact World.ownsRow_nil _ _ _ _, HB2.out, by rw [HQ'.out.2]; exact Nat.le_refl _⟩
  case round =>
    clear hX
    obtain ⟨j, e, hj, rfl, hB, hrow, hb, hbase⟩ := hrel
    obtain ⟨hSN, hAr, c0, -, -⟩ := HK.out wr hb
    by_cases hlt : j < es.length
    · obtain ⟨⟨a, b⟩, hx⟩ : ∃ x, es[j]? = some x := ⟨_, List.getElem?_eq_getElem hlt⟩
      have gx := flat_get edc 2 (fun _ => rfl) es j
      have g1 := gx 0 _ hx (by omega)
      have g2 := gx 1 _ hx (by omega)
      obtain ⟨A', c', he, -, -, -, hcc⟩ := hAr
      injection he with e1 e2 e3
      subst e1 e3
      obtain ⟨ge, o, rfl, hgl, hcell⟩ := hcc.at_ (fun e => by rw [show List.flatMap edc es = edcs es from rfl, e] at g1; simp [edc] at g1)
      have d0 : wr.cell? ⟨ge, o + j * 2, none⟩ = some (.int .i64 (a : Int)) := (hcell _ _ g1).trans rfl
      have d1 : wr.cell? ⟨ge, o + j * 2 + 1, none⟩ = some (.int .i64 (b : Int)) := by rw [Nat.add_assoc]; exact hcell _ _ g2
      have hE := Blk.new wr 34 [.int .i64 (a : Int), .int .i64 (b : Int)]
      have hb5 := below_alloc (Below.refl wr.heap.size wr) (.cells #[.int .i64 (a : Int), .int .i64 (b : Int)] 34)
      have hB5 := hB.below hb5
      have hrow5 := own_keeps hrow (Keeps.of_below hb5 (fun _ => False)) (fun _ _ => id)
      have hSN5 := hSN.below hb5
      have hbx := below_next hb5 hb
      have hbase5 := Nat.le_trans hbase hb5.size
      have hsn := Gr.left_snoc es D j _ hx
      have hql : q < wr.heap.size := hB.lt
      obtain ⟨sE, hsE⟩ : ∃ s, s = wr.heap.size := ⟨_, rfl⟩
      have HS := Lib.hid (And.intro hsn hsE)
      obtain ⟨m, hm⟩ : ∃ m, m = (Gr.left (es.take j) D).length := ⟨_, rfl⟩
      have hml : m ≤ es.length := by
        rw [hm]
        unfold Gr.left
        exact Nat.le_trans (List.length_filter_le _ _) (by rw [List.length_take]; omega)
      rw [← hm] at hrow5
      have HM := Lib.hid hm
      have HB := Lib.hid (And.intro hB (And.intro hrow (And.intro hb hbase)))
      clear hx gx g1 g2 hcc hcell e2 hB hrow hb hSN hb5 hsn hsE hm hbase
      go_upto_region 6 with (fail)
      rw [← HS.out.2] at hE ⊢
      generalize (wr.alloc (.cells #[.int .i64 (a : Int), .int .i64 (b : Int)] 34)) = W5 at hE hB5 hrow5 hSN5 hbx hbase5 ⊢
      have b0 : W5.cell? ⟨sE, 0, none⟩ = some (.int .i64 (a : Int)) := (hE.cell 0).trans rfl
      have b1 : W5.cell? ⟨sE, 1, none⟩ = some (.int .i64 (b : Int)) := (hE.cell 1).trans rfl
      have hcon : ∀ (x : Nat) (t : Bool), D.contains x = t → ∀ w', Below W5.heap.size W5 w' → Calls Tryd.prog 22 #[.slice Au D.length cu, .int .i64 (x : Int)] w' fun e w'' => e = .returned (.bool t) ∧ Below W5.heap.size W5 w'' := fun x t ht w' hb' => by
        have := contains_i64 _ _ (x : Int) w' (hSN5.below hb').ints
        rw [has_nat, ht] at this
        exact this.mono fun e w'' ⟨h1, k, h2⟩ => ⟨h1, by rw [h2]; exact below_drewN hb' k⟩
      have keepE : ∀ w', Below W5.heap.size W5 w' → w'.cell? ⟨sE, 0, none⟩ = some (.int .i64 (a : Int)) ∧ w'.cell? ⟨sE, 1, none⟩ = some (.int .i64 (b : Int)) := fun w' hb' => ⟨((hE.below hb').cell 0).trans rfl, ((hE.below hb').cell 1).trans rfl⟩
      have HK5 := Lib.hid (And.intro hcon (And.intro keepE (And.intro hB5 (And.intro hrow5 (And.intro hbx hbase5)))))
      clear hcon keepE hE hSN5 hB5 hrow5 hbx hbase5
      rcases h1 : D.contains a with _ | _
      · have hca := HK5.out.1 a false h1 W5 (Below.refl _ _)
        go_wp2_with fail
        refine hca.mono ?_
        rintro _ w6 ⟨rfl, hb6⟩
        obtain ⟨f0, f1⟩ := HK5.out.2.1 w6 hb6
        rcases h2 : D.contains b with _ | _
        · have hcb := HK5.out.1 b false h2 w6 hb6
          clear hca b0 b1
          go_wp2_with fail
          refine hcb.mono ?_
          rintro _ w7 ⟨rfl, hb7⟩
          obtain ⟨i0, i1⟩ := HK5.out.2.1 w7 hb7
          have hB7 := HK5.out.2.2.1.below hb7
          have hrow7 := own_keeps HK5.out.2.2.2.1 (Keeps.of_below hb7 (fun _ => False)) (fun _ _ => id)
          have hbase7 := Nat.le_trans HK5.out.2.2.2.2.2 hb7.size
          obtain ⟨Ae, ce, rfl, -, -⟩ := own_slice hrow7
          have q1 : w7.cell? ⟨q, 1, none⟩ = some (.slice Ae m ce) := (hB7.cell 1).trans rfl
          have hlen1 : (Gr.left (es.take (j + 1)) D) = Gr.left (es.take j) D ++ [(a, b)] := by
            rw [HS.out.1]
            simp only [h1, h2]
            rfl
          have n63 : m + 1 ≤ maxLen := by unfold maxLen; omega
          have n47 : (m + 1) * 16 ≤ 140737488355328 := by omega
          have hq7 : q < w7.heap.size := hB7.lt
          have hb17 := below_next hb7 HK5.out.2.2.2.2.1
          have H7 := Lib.hid (And.intro hlen1 hb17)
          clear hcb hlen1 f0 f1 hb6 h1 h2 hb7 hb17
          go_wp2_with (first | (at_builtin; refine wp_push_at _ _ _ _ (by first | rfl | simp) _ _ _ _ _ _ Tryd.underlying22 info_edge4 rfl (by decide) hrow7 [.int .i64 (a : Int), .int .i64 (b : Int)] rfl (by simp [Value.oneCell']) n63 n47 hbase7 rfl rfl rfl rfl ?_; intro v8 w8 hr8 hg8 hv8 hb8; obtain ⟨A8, c8, rfl, _, _⟩ := own_slice hr8; have hB8 := hB7.grown hg8 (fun e => by have := own_ge hrow7 q e.symm; omega)) | (refine wpl_set_blk hB8 1 (.slice A8 (m + 1) c8) (by kernel_rfl) (by simp) (by rfl) (by rfl) (by rfl) (by rfl) (by rfl) (by rfl) ?_; intro w9 hB9 hg9) | fail)
          have hr9 := own_keeps hr8 (Keeps.of_grown hg9) (fun k hk e => by have h1 := own_ge hr8 k hk; have h2 : k = q := (by injection e); omega)
          have hqe := HQ'.out.1
          have hb19 : Below w1.heap.size w1 w9 := H7.out.2.trans ((hb8.mono (by omega)).trans (below_of_grown hg9 (by have := H7.out.2.size; have := hg8.size; omega) (by omega)))
          have hbase9 := Nat.le_trans (Nat.le_trans hbase7 hg8.size) hg9.size
          have hlm : (Gr.left (es.take (j + 1)) D).length = m + 1 := by rw [H7.out.1, List.length_append, ← HM.out]; rfl
          have hed : edcs (Gr.left (es.take (j + 1)) D) = edcs (Gr.left (es.take j) D) ++ [.int .i64 (a : Int), .int .i64 (b : Int)] := by rw [H7.out.1]; simp [edcs, edc]
          have HF := Lib.hid (And.intro (show Blk w9 q 24 [.int .i64 (N : Int), .slice A8 (m + 1) c8] from hB9) (And.intro (show w9.ownsRow (q + 1) 34 2 (.slice A8 (m + 1) c8) (Gr.left (es.take (j + 1)) D).length (edcs (Gr.left (es.take (j + 1)) D)) from (by rw [hlm, hed]; exact hr9)) (And.intro hb19 hbase9)))
          clear hr8 hg8 hv8 hb8 hB8 hB9 hg9 hr9 hqe hb19 hbase9 hlm hed hB7 hrow7 hbase7
          go_roundw
          case rel => exact ⟨j + 1, _, by omega, by go_num, HF.out.1, HF.out.2.1, HF.out.2.2.1, HF.out.2.2.2⟩
          case measure => simp [intOf]; omega
        · have hcb := HK5.out.1 b true h2 w6 hb6
          clear hca b0 b1
          go_wp2_with fail
          refine hcb.mono ?_
          rintro _ w7 ⟨rfl, hb7⟩
          have hlen1 : (Gr.left (es.take (j + 1)) D) = Gr.left (es.take j) D := by
            rw [HS.out.1]
            simp only [h1, h2]
            simp
          have HF := Lib.hid (And.intro (HK5.out.2.2.1.below hb7) (And.intro (show w7.ownsRow (q + 1) 34 2 e (Gr.left (es.take (j + 1)) D).length (edcs (Gr.left (es.take (j + 1)) D)) from (by rw [hlen1, ← HM.out]; exact own_keeps HK5.out.2.2.2.1 (Keeps.of_below hb7 (fun _ => False)) (fun _ _ => id))) (And.intro (below_next hb7 HK5.out.2.2.2.2.1) (Nat.le_trans HK5.out.2.2.2.2.2 hb7.size))))
          clear hlen1 hb7
          go_wp2_with fail
          go_roundw
          case rel => exact ⟨j + 1, _, by omega, by go_num, HF.out.1, HF.out.2.1, HF.out.2.2.1, HF.out.2.2.2⟩
          case measure => simp [intOf]; omega
      · have hca := HK5.out.1 a true h1 W5 (Below.refl _ _)
        go_wp2_with fail
        refine hca.mono ?_
        rintro _ w7 ⟨rfl, hb7⟩
        have hlen1 : (Gr.left (es.take (j + 1)) D) = Gr.left (es.take j) D := by
          rw [HS.out.1]
          simp only [h1]
          simp
        have HF := Lib.hid (And.intro (HK5.out.2.2.1.below hb7) (And.intro (show w7.ownsRow (q + 1) 34 2 e (Gr.left (es.take (j + 1)) D).length (edcs (Gr.left (es.take (j + 1)) D)) from (by rw [hlen1, ← HM.out]; exact own_keeps HK5.out.2.2.2.1 (Keeps.of_below hb7 (fun _ => False)) (fun _ _ => id))) (And.intro (below_next hb7 HK5.out.2.2.2.2.1) (Nat.le_trans HK5.out.2.2.2.2.2 hb7.size))))
        clear hlen1 hb7
        go_wp2_with fail
        go_roundw
        case rel => exact ⟨j + 1, _, by omega, by go_num, HF.out.1, HF.out.2.1, HF.out.2.2.1, HF.out.2.2.2⟩
        case measure => simp [intOf]; omega
    · obtain rfl : j = es.length := by omega
      rw [List.take_length] at hrow
      obtain ⟨-, -, c0, hTr, hbr⟩ := HK.out wr hb
      obtain ⟨m, hm⟩ : ∃ m, m = (Gr.left es D).length := ⟨_, rfl⟩
      have hml : m ≤ es.length := by
        rw [hm]
        unfold Gr.left
        exact List.length_filter_le _ _
      obtain ⟨Ae, ce, rfl, -, -⟩ := own_slice hrow
      have hh := height_full N (Gr.left es D) wr Ae ce hN (fun e he => HES.out e (Gr.mem_left.1 he).1) (Gr.left_full HES.out hful) (SlV.of_own hrow) (by omega) hTr
      rw [← hm] at hh
      have e0 : wr.cell? ⟨q, 0, none⟩ = some (.int .i64 (N : Int)) := (hB.cell 0).trans rfl
      have e1 : wr.cell? ⟨q, 1, none⟩ = some (.slice Ae m ce) := by rw [hm]; exact (hB.cell 1).trans rfl
      have HF := Lib.hid (And.intro hbr hb)
      clear hrow hB hb hSN hAr hTr hbr hm hful c0 hlt
      go_wp2_with fail
      refine hh.mono ?_
      rintro _ w6 ⟨h, L, rfl, hL, hhL, h201, hb6⟩
      have hbf := below_next hb6 HF.out.1
      obtain ⟨-, -, c0, -, -⟩ := HK.out w6 (below_next hb6 HF.out.2)
      by_cases hz : D.length = N
      · have gz : ((D.length : Int) == (N : Int)) = true := by simp [hz]
        have HZ := Lib.hid (And.intro hz hbf)
        clear hh hL hhL hb6 hbf hz
        go_wp2_with fail
        go_ret
        exact ⟨0, rfl, ⟨fun _ => rfl, fun h => absurd HZ.out.1 h, by omega⟩, HZ.out.2⟩
      · have gz : ((D.length : Int) == (N : Int)) = false := by simp; omega
        have HZ := Lib.hid (And.intro hz (And.intro hbf (And.intro hL hhL)))
        clear hh hL hhL hb6 hbf hz
        go_wp2_with fail
        go_ret
        exact ⟨h, rfl, ⟨fun e => absurd e HZ.out.1, fun _ => ⟨L, HZ.out.2.2.1, HZ.out.2.2.2⟩, h201⟩, HZ.out.2.1⟩
end Go.Proofs.YtpimcghmpbbckaaDoor
