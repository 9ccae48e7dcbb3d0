/-
  Sets of nodes, as words, and what is behind what in them: in plain Lean.
-/
import Derived.Test.YtcpoglchjkpbpaaDoorBsBit
import Derived.Test.YtcpoglchjkpbpaaDoorGrRun
namespace Go.Proofs.YtcpoglchjkpbpaaDoor.Bs
set_option linter.unusedVariables false
set_option linter.unusedSimpArgs false
set_option maxRecDepth 100000

theorem bit_or (s t : List Nat) (m : Nat) : bit (op for_ s t) m = (bit s m || bit t m) := by
  unfold bit
  rw [aor, Nat.testBit_or]
theorem bit_less {s t : List Nat} (hs : Ws s) (ht : Ws t) (m : Nat) : bit (op fless s t) m = (bit s m && !bit t m) := by
  unfold bit
  rw [aless, fless_bit _ _ _ (hs.at_ _) (ht.at_ _)]
theorem bit_nil (m : Nat) : bit [] m = false := by simp [bit, at_nil]
theorem bit_far {s : List Nat} {m : Nat} (h : 64 * s.length ≤ m) : bit s m = false := by
  unfold bit
  rw [at_far (by omega)]
  simp
/-- words without noughts at the end -/
structure Gs (N : Nat) (s : List Nat) : Prop where
  ws : Ws s
  tr : Tr s
  lt : ∀ m, bit s m = true → m < N
theorem Gs.nil (N : Nat) : Gs N [] := ⟨ws_nil, rfl, fun m h => by rw [bit_nil] at h; cases h⟩
theorem Gs.put {N : Nat} {s : List Nat} (h : Gs N s) {n : Nat} (hn : n < N) : Gs N (put s n) := ⟨ws_put h.ws n, tr_put h.tr n, fun m hm => by
  rw [bit_put, Bool.or_eq_true, beq_iff_eq] at hm
  rcases hm with hm | rfl
  · exact h.lt m hm
  · exact hn⟩
theorem Gs.or {N : Nat} {s t : List Nat} (h : Gs N s) (k : Gs N t) : Gs N (op for_ s t) := ⟨wor h.ws k.ws, tr_op _ _ _, fun m hm => by
  rw [bit_or, Bool.or_eq_true] at hm
  exact hm.elim (h.lt m) (k.lt m)⟩
theorem Gs.less {N : Nat} {s t : List Nat} (h : Gs N s) (k : Ws t) : Gs N (op fless s t) := ⟨wless h.ws k, tr_op _ _ _, fun m hm => by
  rw [bit_less h.ws k, Bool.and_eq_true] at hm
  exact h.lt m hm.1⟩
theorem Gs.empty {N : Nat} {s : List Nat} (h : Gs N s) : s = [] ↔ ∀ m, bit s m = false := by
  constructor
  · rintro rfl m
    exact bit_nil m
  · intro h0
    refine tr_all_zero h.tr fun i => word_ext fun j => ?_
    rw [Nat.zero_testBit]
    by_cases hj : j < 64
    · have := h0 (64 * i + j)
      unfold bit at this
      rw [show (64 * i + j) / 64 = i by omega, show (64 * i + j) % 64 = j by omega] at this
      exact this
    · exact Nat.testBit_lt_two_pow (Nat.lt_of_lt_of_le (show at_ s i < 2 ^ 64 from h.ws.at_ i) (Nat.pow_le_pow_right (by decide) (by omega)))
theorem Gs.ext {N : Nat} {s t : List Nat} (h : Gs N s) (k : Gs N t) (e : ∀ m, bit s m = bit t m) : s = t := by
  refine tr_ext h.tr k.tr fun i => word_ext fun j => ?_
  by_cases hj : j < 64
  · have := e (64 * i + j)
    unfold bit at this
    rw [show (64 * i + j) / 64 = i by omega, show (64 * i + j) % 64 = j by omega] at this
    exact this
  · rw [Nat.testBit_lt_two_pow (Nat.lt_of_lt_of_le (show at_ s i < 2 ^ 64 from h.ws.at_ i) (Nat.pow_le_pow_right (by decide) (by omega))), Nat.testBit_lt_two_pow (Nat.lt_of_lt_of_le (show at_ t i < 2 ^ 64 from k.ws.at_ i) (Nat.pow_le_pow_right (by decide) (by omega)))]
theorem Gs.length {N : Nat} {s : List Nat} (h : Gs N s) : s.length ≤ N := by
  rcases (tr_iff s).1 h.tr with rfl | h0
  · exact Nat.zero_le _
  · by_cases hl : s.length = 0
    · omega
    · by_cases hc : ∃ j, (at_ s (s.length - 1)).testBit j = true
      · obtain ⟨j, hj⟩ := hc
        have hj64 : j < 64 := by
          by_cases hj' : j < 64
          · exact hj'
          · rw [Nat.testBit_lt_two_pow (Nat.lt_of_lt_of_le (show at_ s _ < 2 ^ 64 from h.ws.at_ _) (Nat.pow_le_pow_right (by decide) (by omega)))] at hj
            cases hj
        have := h.lt (64 * (s.length - 1) + j) (by
          unfold bit
          rw [show (64 * (s.length - 1) + j) / 64 = s.length - 1 by omega, show (64 * (s.length - 1) + j) % 64 = j by omega]
          exact hj)
        omega
      · exfalso
        refine h0 (word_ext fun j => ?_)
        rw [Nat.zero_testBit]
        cases hb : (at_ s (s.length - 1)).testBit j with
        | false => rfl
        | true => exact absurd ⟨j, hb⟩ hc
theorem add_nat {s : List Nat} {n : Nat} (h : n ≤ 65535) : add s (n : Int) = put s n := by
  unfold add
  rw [if_neg (by omega)]
  simp
theorem of_one {n : Nat} (h : n ≤ 65535) : of_ [(n : Int)] = put [] n := by
  show add [] (n : Int) = _
  exact add_nat h
/-- the least -/
theorem least {N : Nat} {s : List Nat} (h : Gs N s) {n : Nat} {r : List Nat} (e : ls 0 s = n :: r) : bit s n = true ∧ ∀ m, m < n → bit s m = false := by
  have hr := ls_rise s 0 h.ws
  rw [e] at hr
  refine ⟨(mem_list h.ws n).1 (by rw [e]; exact List.mem_cons_self), fun m hm => ?_⟩
  cases hb : bit s m with
  | false => rfl
  | true =>
    have := (mem_list h.ws m).2 hb
    rw [e] at this
    rcases List.mem_cons.1 this with rfl | hmr
    · omega
    · have := (List.pairwise_cons.1 hr).1 m hmr
      omega
theorem ls_none {N : Nat} {s : List Nat} (h : Gs N s) (e : ls 0 s = []) : s = [] := h.empty.2 fun m => by
  cases hb : bit s m with
  | false => rfl
  | true =>
    have := (mem_list h.ws m).2 hb
    rw [e] at this
    cases this
end Go.Proofs.YtcpoglchjkpbpaaDoor.Bs

namespace Go.Proofs.YtcpoglchjkpbpaaDoor.Gr
open Bs
/-- those that wait no longer, as a set -/
structure Rs (N : Nat) (es : List Ed) (out : List Nat) (s : List Nat) : Prop extends Gs N s where
  is : ∀ m, bit s m = true ↔ m < N ∧ rdy es out m = true
structure Rj (N : Nat) (es : List Ed) (out : List Nat) (n j : Nat) (s : List Nat) : Prop extends Gs N s where
  is : ∀ m, bit s m = true ↔ rj N es out n j m
theorem Rs.none {N : Nat} {es : List Ed} {out : List Nat} {s : List Nat} (h : Rs N es out s) (e : s = []) : nxt N es out = none := by
  subst e
  cases hn : nxt N es out with
  | none => rfl
  | some n =>
    obtain ⟨a, b, c, -⟩ := nxt_some hn
    have := (h.is n).2 ⟨a, rdy_iff.2 ⟨b, c⟩⟩
    rw [bit_nil] at this
    cases this
theorem Rs.some {N : Nat} {es : List Ed} {out : List Nat} {s : List Nat} (h : Rs N es out s) {n : Nat} {r : List Nat} (e : ls 0 s = n :: r) : nxt N es out = Option.some n := by
  obtain ⟨h1, h2⟩ := least h.toGs e
  refine nxt_least ((h.is n).1 h1) fun m hm hc => ?_
  have := (h.is m).2 hc
  rw [h2 m hm] at this
  cases this
theorem Rs.without {N : Nat} {es : List Ed} {out : List Nat} {s : List Nat} (h : Rs N es out s) {n : Nat} (hN : N ≤ 200) (hn : nxt N es out = Option.some n) : Rj N es out n 0 (op fless s (of_ [(n : Int)])) := by
  have hlt := (nxt_some hn).1
  have ho := of_facts [(n : Int)]
  refine ⟨h.toGs.less ho.1, fun m => ?_⟩
  rw [bit_less h.ws ho.1, Bool.and_eq_true, rj_zero, h.is]
  refine and_congr Iff.rfl ?_
  rw [of_one (by omega), bit_put, bit_nil]
  simp
theorem Rj.full {N : Nat} {es : List Ed} {out : List Nat} {n : Nat} {s : List Nat} (h : Rj N es out n (next es n).length s) (hn : n ∉ out) : Rs N es (out ++ [n]) s := ⟨h.toGs, fun m => by rw [h.is, rj_full hn]⟩
theorem Rj.stay {N : Nat} {es : List Ed} {out : List Nat} {n j m : Nat} {s : List Nat} (h : Rj N es out n j s) (hg : Good N es out) (hes : ∀ e ∈ es, e.2 < N) (hn : nxt N es out = Option.some n) (hj : (next es n)[j]? = Option.some m) (h0 : wt es out m ≠ ((next es n).take j).count m + 1) : Rj N es out n (j + 1) s := ⟨h.toGs, fun x => by
  rw [h.is, rj_step hg hes hn hj]
  exact ⟨.inl, fun h => h.elim id fun h => absurd h.2 h0⟩⟩
theorem Rj.add {N : Nat} {es : List Ed} {out : List Nat} {n j m : Nat} {s : List Nat} (h : Rj N es out n j s) (hg : Good N es out) (hes : ∀ e ∈ es, e.2 < N) (hn : nxt N es out = Option.some n) (hj : (next es n)[j]? = Option.some m) (h0 : wt es out m = ((next es n).take j).count m + 1) : Rj N es out n (j + 1) (put s m) := ⟨h.toGs.put (hes _ (mem_next.1 (List.mem_of_getElem? hj))), fun x => by
  rw [bit_put, Bool.or_eq_true, beq_iff_eq, h.is, rj_step hg hes hn hj]
  exact or_congr Iff.rfl ⟨fun e => ⟨e, h0⟩, fun e => e.1⟩⟩

/-- the first k have been looked at -/
structure R0 (N : Nat) (es : List Ed) (k : Nat) (s : List Nat) : Prop extends Gs N s where
  is : ∀ m, bit s m = true ↔ m < k ∧ wt es [] m = 0
theorem R0.zero (N : Nat) (es : List Ed) : R0 N es 0 [] := ⟨Gs.nil N, fun m => by rw [bit_nil]; simp⟩
theorem R0.stay {N : Nat} {es : List Ed} {k : Nat} {s : List Nat} (h : R0 N es k s) (hk : wt es [] k ≠ 0) : R0 N es (k + 1) s := ⟨h.toGs, fun m => by
  rw [h.is]
  constructor
  · rintro ⟨a, b⟩; exact ⟨by omega, b⟩
  · rintro ⟨a, b⟩
    by_cases e : m = k
    · subst e; exact absurd b hk
    · exact ⟨by omega, b⟩⟩
theorem R0.add {N : Nat} {es : List Ed} {k : Nat} {s : List Nat} (h : R0 N es k s) (hN : k < N) (hk : wt es [] k = 0) : R0 N es (k + 1) (put s k) := ⟨h.toGs.put hN, fun m => by
  rw [bit_put, Bool.or_eq_true, beq_iff_eq, h.is]
  constructor
  · rintro (⟨a, b⟩ | rfl)
    · exact ⟨by omega, b⟩
    · exact ⟨by omega, hk⟩
  · rintro ⟨a, b⟩
    by_cases e : m = k
    · exact .inr e
    · exact .inl ⟨by omega, b⟩⟩
theorem R0.rs {N : Nat} {es : List Ed} {s : List Nat} (h : R0 N es N s) : Rs N es [] s := ⟨h.toGs, fun m => by
  rw [h.is, rdy_wt]
  simp⟩

/-! ### what is behind each node -/
def un (s : List Nat) (m : Nat) (t : List Nat) : List Nat := op for_ (put s m) t
def behW (N : Nat) (es : List Ed) : List (List Nat) := behL [] un es (take N es).reverse (List.replicate N [])
theorem behW_is {N : Nat} {es : List Ed} (hl : (take N es).length = N) (hes : ∀ e ∈ es, e.2 < N) (n : Nat) (hn : n < N) (x : Nat) : bit ((behW N es).getD n []) x = true ↔ Way es n x :=
  beh_right (fun s x => bit s x = true) [] un (fun x => by rw [bit_nil]; simp) (fun s m t x => by
    unfold un
    rw [bit_or, bit_put, Bool.or_eq_true, Bool.or_eq_true, beq_iff_eq, or_assoc]) (good_take N es) hl hes n hn x
theorem behL_gs {N : Nat} {es : List Ed} (hes : ∀ e ∈ es, e.2 < N) : ∀ (l : List Nat) (B : List (List Nat)), (∀ s ∈ B, Gs N s) → ∀ s ∈ behL [] un es l B, Gs N s
  | [], B, h => h
  | n :: l, B, h => by
    unfold behL
    refine behL_gs hes l _ fun s hs => ?_
    rcases List.mem_or_eq_of_mem_set hs with hs | rfl
    · exact h s hs
    · have key : ∀ (k : List Nat) (s : List Nat), (∀ m ∈ k, m < N) → Gs N s → Gs N (k.foldl (fun s m => un s m (B.getD m [])) s) := by
        intro k
        induction k with
        | nil => exact fun s _ h => h
        | cons m k ih =>
          intro s hk hs
          refine ih _ (fun m hm => hk m (List.mem_cons_of_mem _ hm)) ((hs.put (hk m List.mem_cons_self)).or ?_)
          by_cases hm : m < B.length
          · rw [List.getD_eq_getElem?_getD, List.getElem?_eq_getElem hm, Option.getD_some]
            exact h _ (List.getElem_mem hm)
          · rw [List.getD_eq_getElem?_getD, List.getElem?_eq_none (by omega), Option.getD_none]
            exact Gs.nil N
      exact key _ _ (fun m hm => hes _ (mem_next.1 hm)) (Gs.nil N)
theorem behW_gs {N : Nat} {es : List Ed} (hes : ∀ e ∈ es, e.2 < N) : ∀ s ∈ behW N es, Gs N s := behL_gs hes _ _ fun s hs => by
  rw [(List.mem_replicate.1 hs).2]
  exact Gs.nil N
theorem behW_length (N : Nat) (es : List Ed) : (behW N es).length = N := by unfold behW; rw [behL_length]; simp
end Go.Proofs.YtcpoglchjkpbpaaDoor.Gr
