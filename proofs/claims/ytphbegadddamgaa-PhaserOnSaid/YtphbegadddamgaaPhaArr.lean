/-
  Nobody goes on alone: the law, walked.
-/
import Derived.Test.YtphbegadddamgaaPhaLive
import Derived.Test.YtphbegadddamgaaBase2
import Derived.Test.YtphbegadddamgaaStill
namespace Go.Proofs.Ytphbegadddamgaa
set_option linter.unusedVariables false
set_option linter.unusedSimpArgs false
open Go.RowKit

namespace Pha
def mx (xs : List Int) : Int := xs.foldl max (xs.getD 0 0)
def mn (xs : List Int) : Int := xs.foldl min (xs.getD 0 0)
theorem foldl_max_bound (f : Int) (xs : List Int) (h : ∀ x ∈ xs, f ≤ x ∧ x ≤ f + 1) : ∀ a : Int, f ≤ a → a ≤ f + 1 → f ≤ xs.foldl max a ∧ xs.foldl max a ≤ f + 1 := by
  induction xs with
  | nil => intro a h1 h2; exact ⟨h1, h2⟩
  | cons x xs ih =>
    intro a h1 h2
    have := h x (by simp)
    exact ih (fun y hy => h y (by simp [hy])) _ (by omega) (by omega)
theorem foldl_min_bound (f : Int) (xs : List Int) (h : ∀ x ∈ xs, f ≤ x ∧ x ≤ f + 1) : ∀ a : Int, f ≤ a → a ≤ f + 1 → f ≤ xs.foldl min a ∧ xs.foldl min a ≤ f + 1 := by
  induction xs with
  | nil => intro a h1 h2; exact ⟨h1, h2⟩
  | cons x xs ih =>
    intro a h1 h2
    have := h x (by simp)
    exact ih (fun y hy => h y (by simp [hy])) _ (by omega) (by omega)
theorem getD0_mem (xs : List Int) (h : 1 ≤ xs.length) : xs.getD 0 0 ∈ xs := by
  rw [List.getD, List.getElem?_eq_getElem (by omega)]
  exact List.getElem_mem (by omega)
theorem mx_mn (f : Int) (xs : List Int) (hl : 1 ≤ xs.length) (h : ∀ x ∈ xs, f ≤ x ∧ x ≤ f + 1) : f ≤ mx xs ∧ mx xs ≤ f + 1 ∧ f ≤ mn xs ∧ mn xs ≤ f + 1 := by
  have h0 := h _ (getD0_mem xs hl)
  have h1 := foldl_max_bound f xs h _ h0.1 h0.2
  have h2 := foldl_min_bound f xs h _ h0.1 h0.2
  exact ⟨h1.1, h1.2, h2.1, h2.2⟩
theorem many_bound (k : Nat) (p : St) (ops : List Op) : ∀ (m : List Int) (c : Int), (∀ x ∈ m, 0 ≤ x ∧ x ≤ c) → 0 ≤ c → ∀ x ∈ many k p m ops, 0 ≤ x ∧ x ≤ c + ops.length := by
  induction ops generalizing p with
  | nil => intro m c h _ x hx; have := h x hx; simp; omega
  | cons o ops ih =>
    intro m c h hc x hx
    have := ih (next p o) (upd k m o (ans p o)) (c + 1) (fun y hy => by
      unfold upd at hy
      split at hy
      · rcases List.mem_or_eq_of_mem_set hy with hy | rfl
        · have := h y hy; omega
        · rw [List.getD]
          rcases hg : m[o.who.toNat]? with _ | z
          · simp; omega
          · have := h z (List.mem_of_getElem? hg)
            simp; omega
      · have := h y hy; omega) (by omega) x hx
    simp only [List.length_cons]
    omega
/-- what is left when nobody leaves -/
def stay (ops : List Op) : List Op := ops.filter fun o => o.kind != 3
theorem stay_succ (ops : List Op) (i : Nat) (h : i < ops.length) : stay (ops.take (i + 1)) = stay (ops.take i) ++ if ops[i].kind != 3 then [ops[i]] else [] := by
  rw [List.take_succ_eq_append_getElem h]
  unfold stay
  rw [List.filter_append, List.filter_cons, List.filter_nil]
theorem stay_le (ops : List Op) (i : Nat) (h : i ≤ ops.length) : (stay (ops.take i)).length ≤ i := by
  have := List.length_filter_le (fun o : Op => o.kind != 3) (ops.take i)
  rw [List.length_take, Nat.min_eq_left h] at this
  exact this
theorem stay_kind (ops : List Op) : ∀ o ∈ stay ops, o.kind ≠ 3 := fun o ho => by
  have := (List.mem_filter.1 ho).2
  simpa using this
end Pha

theorem max_ints (v : Value) (xs : List Int) (w : World) (h : SlV w 1 v xs.length (ints .i64 xs)) (hne : 1 ≤ xs.length) :
    Calls Try.prog 34 #[v] w fun e w' => e = .returned (.int .i64 (Pha.mx xs)) ∧ w' = w := by
  obtain ⟨A, c, rfl, hle, hm, hlen, hc⟩ := h
  unfold maxLen at hm
  obtain ⟨b, o, x0, rfl, hb, hx0, hc0⟩ := hc.one (j := 0) (by omega)
  rw [Nat.add_zero] at hc0
  have e0 : xs.getD 0 0 = x0 := by rw [List.getD, hx0.out]; rfl
  have h1 : (xs.take 1).foldl max x0 = x0 := by
    have := hx0.out
    cases xs with
    | nil => simp at this
    | cons a l => simp at this; subst this; simp
  have E0 := Lib.hid e0
  have H1 := Lib.hid h1
  clear e0 h1 hlen
  have n1 : decide ((xs.length : Int) < 1) = false := by simp; omega
  go_enter Try.func34, Try.ntmps34
  go_wp2
  go_loop [3, 4] (fun m i => ∃ k : Nat, 1 ≤ k ∧ k ≤ xs.length ∧ i = .int .i64 k ∧ m = .int .i64 ((xs.take k).foldl max x0)) (fun _ i => xs.length - (intOf i).toNat)
  case atStart => exact ⟨1, by omega, hne, rfl, by rw [H1.out]⟩
  case round =>
    obtain ⟨k, hk1, hk, rfl, rfl⟩ := hrel
    by_cases hlt : k < xs.length
    · obtain ⟨b', o', x, he, -, hx, hcx⟩ := hc.one hlt
      cases he
      have es : (xs.take (k + 1)).foldl max x0 = max ((xs.take k).foldl max x0) x := by
        obtain ⟨h', rfl⟩ := List.getElem?_eq_some_iff.1 hx.out
        rw [List.take_succ_eq_append_getElem h', List.foldl_append]
        rfl
      have ES := Lib.hid es
      clear es hc hx hx0
      go_wp2
      go_round
      case rel => exact ⟨k + 1, by omega, by omega, by go_num, by rw [ES.out]⟩
      case measure => simp [intOf]; omega
    · have hk' : k = xs.length := by omega
      have HK := Lib.hid hk'
      clear hk' hc hx0
      go_wp2
      go_ret
      exact ⟨ret_int (by rw [HK.out, List.take_length]; unfold Pha.mx; rw [E0.out]), rfl⟩

theorem min_ints (v : Value) (xs : List Int) (w : World) (h : SlV w 1 v xs.length (ints .i64 xs)) (hne : 1 ≤ xs.length) :
    Calls Try.prog 35 #[v] w fun e w' => e = .returned (.int .i64 (Pha.mn xs)) ∧ w' = w := by
  obtain ⟨A, c, rfl, hle, hm, hlen, hc⟩ := h
  unfold maxLen at hm
  obtain ⟨b, o, x0, rfl, hb, hx0, hc0⟩ := hc.one (j := 0) (by omega)
  rw [Nat.add_zero] at hc0
  have e0 : xs.getD 0 0 = x0 := by rw [List.getD, hx0.out]; rfl
  have h1 : (xs.take 1).foldl min x0 = x0 := by
    have := hx0.out
    cases xs with
    | nil => simp at this
    | cons a l => simp at this; subst this; simp
  have E0 := Lib.hid e0
  have H1 := Lib.hid h1
  clear e0 h1 hlen
  have n1 : decide ((xs.length : Int) < 1) = false := by simp; omega
  go_enter Try.func35, Try.ntmps35
  go_wp2
  go_loop [3, 4] (fun m i => ∃ k : Nat, 1 ≤ k ∧ k ≤ xs.length ∧ i = .int .i64 k ∧ m = .int .i64 ((xs.take k).foldl min x0)) (fun _ i => xs.length - (intOf i).toNat)
  case atStart => exact ⟨1, by omega, hne, rfl, by rw [H1.out]⟩
  case round =>
    obtain ⟨k, hk1, hk, rfl, rfl⟩ := hrel
    by_cases hlt : k < xs.length
    · obtain ⟨b', o', x, he, -, hx, hcx⟩ := hc.one hlt
      cases he
      have es : (xs.take (k + 1)).foldl min x0 = min ((xs.take k).foldl min x0) x := by
        obtain ⟨h', rfl⟩ := List.getElem?_eq_some_iff.1 hx.out
        rw [List.take_succ_eq_append_getElem h', List.foldl_append]
        rfl
      have ES := Lib.hid es
      clear es hc hx hx0
      go_wp2
      go_round
      case rel => exact ⟨k + 1, by omega, by omega, by go_num, by rw [ES.out]⟩
      case measure => simp [intOf]; omega
    · have hk' : k = xs.length := by omega
      have HK := Lib.hid hk'
      clear hk' hc hx0
      go_wp2
      go_ret
      exact ⟨ret_int (by rw [HK.out, List.take_length]; unfold Pha.mn; rw [E0.out]), rfl⟩
end Go.Proofs.Ytphbegadddamgaa
