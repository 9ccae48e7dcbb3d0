/-
  An argument that is an expression, opened.
-/
import Derived.Test.YtdhjfckckghicaaDoorScP1
import Derived.Test.YtdhjfckckghicaaDoorScR1

namespace Go.Proofs.YtdhjfckckghicaaDoor
set_option linter.unusedVariables false
set_option linter.unusedSimpArgs false
set_option maxRecDepth 100000
open Go.RowKit

/-- a store into a block that is too short to hold two expressions -/
theorem XRN.spare {N : Bool} {B B' : Nat} {w w' : World} {cs : List Value} {e : Ex.X} {S : Nat → Prop} (h : XRN N B w cs e) (hS : ∀ g, S g → ∀ o, 4 ≤ o → w.cell? ⟨g, o, none⟩ = none) (hB : B ≤ B') (hk : ∀ p : Addr, p.block < B → ¬ S p.block → w'.cell? p = w.cell? p) : XRN N B' w' cs e := by
  induction h with
  | num n s A len cap h1 h2 h3 hN => exact .num n s A len cap h1 h2 h3 hN
  | name n s A len cap h1 h2 hN => exact .name n s A len cap h1 h2 hN
  | bad k n s A len cap h1 h2 h3 h4 h5 hN => exact .bad k n s A len cap h1 h2 h3 h4 h5 hN
  | two k n s g o len cap cs0 cs1 e0 e1 h1 h2 h3 h4 h5 h6 h7 h8 r0 r1 hN i0 i1 =>
    have hg : ¬ S g := fun hg => by
      obtain ⟨b0, b1, b2, B3, b4, b5, rfl, -, -⟩ := r1.form
      have := hS g hg (o + 4 + 0) (by omega)
      rw [h8 0 _ rfl] at this
      cases this
    exact .two k n s g o len cap cs0 cs1 e0 e1 h1 h2 h3 h4 h5 (Nat.lt_of_lt_of_le h6 hB) (fun j u hu => (hk ⟨g, o + j, none⟩ h6 hg).trans (h7 j u hu)) (fun j u hu => (hk ⟨g, o + 4 + j, none⟩ h6 hg).trans (h8 j u hu)) i0 i1 hN
theorem XRN.put {N : Bool} {w w' : World} {g : Nat} {t : TypeId} {a b c d : Value} {cs : List Value} {e : Ex.X} (h : XRN N w.heap.size w cs e) (hb : Blk w g t [a, b, c, d]) (hg : w.grownBy w' (some g)) : XRN N w'.heap.size w' cs e :=
  h.spare (S := fun k => some k = some g) (fun k hk o ho => by cases hk; rw [hb.cell]; exact List.getElem?_eq_none ho) hg.size (fun p hp hn => World.cell?_of_block (w := w) (hg.block p.block hp hn))

/-- a value that is an expression -/
def IsX (x : Ex.X) (v : Value) (w : World) : Prop := ∃ cs, v = .agg cs.toArray ∧ XN w.heap.size w cs x
theorem IsX.later {x : Ex.X} {v : Value} {w w' : World} (h : IsX x v w) (hb : Below w.heap.size w w') : IsX x v w' := by
  obtain ⟨cs, h1, h2⟩ := h
  exact ⟨cs, h1, (h2.later hb).up hb.size⟩
def FX (x : Ex.X) : Fact (fun w w' => Below w.heap.size w w') := ⟨IsX x, fun _ _ _ h k => h.later k⟩

end Go.Proofs.YtdhjfckckghicaaDoor


namespace Go.Proofs.YtdhjfckckghicaaDoor
set_option linter.unusedVariables false
set_option linter.unusedSimpArgs false
set_option maxRecDepth 100000
open Go.RowKit

theorem etwo_any (w : World) (k n : Int) (s : ByteArray) (A : Option Addr) (len cap : Nat) (hle : len ≤ cap) (hm : cap ≤ maxLen) (b : Bool) (hb : b = true ↔ ((3 ≤ k ∧ k ≤ 9) ∧ 2 ≤ len)) :
    Calls Tryd.prog 25 #[.agg (xcells k n s A len cap).toArray] w fun e w' => e = .returned (.bool b) ∧ Below w.heap.size w w' := by
  have hbw : Below w.heap.size w (w.alloc (.cells (xcells k n s A len cap).toArray 33)) := below_alloc (Below.refl _ _) _
  unfold xcells at hbw ⊢
  unfold maxLen at hm
  by_cases h3 : 3 ≤ k
  · have g1 : decide (3 ≤ k) = true := by simpa using h3
    by_cases h9 : k ≤ 9
    · have g2 : decide (k ≤ 9) = true := by simpa using h9
      by_cases h2 : 2 ≤ len
      · have g3 : decide ((2 : Int) ≤ (len : Int)) = true := by simp; omega
        obtain rfl : b = true := hb.2 ⟨⟨h3, h9⟩, h2⟩
        clear hb h3 h9 h2
        go_enter Tryd.func25, Tryd.ntmps25
        go_wp2_with fail
        go_ret
        exact ⟨rfl, hbw⟩
      · have g3 : decide ((2 : Int) ≤ (len : Int)) = false := by simp; omega
        obtain rfl : b = false := by rw [Bool.eq_false_iff]; intro h; exact h2 (hb.1 h).2
        clear hb h3 h9 h2
        go_enter Tryd.func25, Tryd.ntmps25
        go_wp2_with fail
        go_ret
        exact ⟨rfl, hbw⟩
    · have g2 : decide (k ≤ 9) = false := by simpa using h9
      obtain rfl : b = false := by rw [Bool.eq_false_iff]; intro h; exact h9 (hb.1 h).1.2
      clear hb h3 h9
      go_enter Tryd.func25, Tryd.ntmps25
      go_wp2_with fail
      go_ret
      exact ⟨rfl, hbw⟩
  · have g1 : decide (3 ≤ k) = false := by simpa using h3
    obtain rfl : b = false := by rw [Bool.eq_false_iff]; intro h; exact h3 (hb.1 h).1.1
    clear hb h3
    go_enter Tryd.func25, Tryd.ntmps25
    go_wp2_with fail
    go_ret
    exact ⟨rfl, hbw⟩

namespace Sr
open Ex St
/-- with what means something alone -/
def cln : X → X
  | .bad => .num 0
  | e => e
theorem two_iff {B : Nat} {w : World} {k n : Int} {s : ByteArray} {A : Option Addr} {len cap : Nat} {e : X} (h : XR B w (xcells k n s A len cap) e) (hn : ∀ k a b, e ≠ .two k a b) : (false = true ↔ ((3 ≤ k ∧ k ≤ 9) ∧ 2 ≤ len)) := by
  simp only [Bool.false_eq_true, false_iff]
  generalize hc : xcells k n s A len cap = cs at h
  cases h with
  | num => simp only [xcells, List.cons.injEq, Value.int.injEq, true_and] at hc; omega
  | name => simp only [xcells, List.cons.injEq, Value.int.injEq, true_and] at hc; omega
  | bad k' n' s' A' len' cap' h1 h2 h3 h4 h5 =>
    simp only [xcells, List.cons.injEq, Value.int.injEq, Value.slice.injEq, true_and, and_true] at hc
    obtain ⟨rfl, -, -, -, rfl, -⟩ := hc
    exact h5
  | two k' => exact absurd rfl (hn _ _ _)
end Sr

set_option maxHeartbeats 2000000 in
/-- EClean of what has no arguments -/
theorem eclean_leaf (e : Ex.X) (hn : ∀ k a b, e ≠ .two k a b) (w : World) (cs : List Value) (hx : XR w.heap.size w cs e) :
    Calls Tryd.prog 26 #[.agg cs.toArray] w fun r w' => ∃ v, r = .returned v ∧ IsX (Sr.cln e) v w' ∧ Below w.heap.size w w' := by
  obtain ⟨k, n, s, A, len, cap, rfl, hle, hm⟩ := hx.form
  have h2 := fun w' => etwo_any w' k n s A len cap hle hm false (Sr.two_iff hx hn)
  obtain ⟨p0, p1, hz, hbw⟩ := allocs2 w (xcells k n s A len cap) Ex.zeros 33 33
  have HX := Lib.hid hx
  unfold xcells Ex.zeros at p0 p1 hz hbw
  unfold xcells at h2 ⊢
  obtain ⟨q, hq⟩ : ∃ q, q = w.heap.size := ⟨_, rfl⟩
  have HQ := Lib.hid hq
  clear hx
  go_enter Tryd.func26, Tryd.ntmps26
  go_wp2_with fail
  rw [← hq] at p0 p1 ⊢
  clear hq
  generalize ((w.alloc (.cells #[.int .i64 k, .int .i64 n, .string s, .slice A len cap] 33)).alloc (.cells #[.int .i64 0, .int .i64 0, .string ⟨#[]⟩, .slice none 0 0] 33)) = W at p0 p1 hz hbw ⊢
  refine (h2 W).mono ?_
  rintro r w1 ⟨rfl, hb1⟩
  have r0 := p0.below hb1
  have r1 := p1.below hb1
  have hb2 := below_next hb1 hbw
  have s0 := (r0.cell 0).trans rfl
  have s1 := (r0.cell 1).trans rfl
  have s2 := (r0.cell 2).trans rfl
  simp only [List.getElem?_cons_zero, List.getElem?_cons_succ] at s0 s1 s2
  have HB := Lib.hid hb2
  clear p0 p1 hz hbw h2 hb1 r0 hb2
  have hfin : ∀ (x : Ex.X) (w3 : World) (cs3 : List Value), XN w3.heap.size w3 cs3 x → Blk w3 (q + 1) 33 cs3 → w1.grownBy w3 (some (q + 1)) → IsX x (.agg cs3.toArray) w3 ∧ Below w.heap.size w w3 := fun x w3 cs3 h1 h2 h3 => ⟨⟨_, rfl, h1⟩, HB.out.trans (below_of_grown h3 HB.out.size (by rw [HQ.out]; omega))⟩
  by_cases hk2 : k = 2
  · subst hk2
    go_wp2_with (refine wpl_put_blk r1 [.int .i64 2, .int .i64 0, .string s, .slice none 0 0] (by kernel_rfl) rfl (xcells_one 2 0 s none 0 0) rfl rfl rfl rfl ?_; intro w3 hB3 hg3)
    refine ret_blk hB3 rfl rfl Tryd.underlying33 rfl (by kernel_rfl) rfl ⟨_, rfl, ?_⟩
    have he : Sr.cln e = .name s.data.toList := by
      have hx := HX.out
      generalize hc : xcells 2 n s A len cap = cs at hx
      cases hx with
      | num => simp [xcells] at hc
      | name => simp [xcells] at hc; obtain ⟨-, rfl, -⟩ := hc; rfl
      | bad k' n' s' A' len' cap' h1 h2 h3 h4 h5 => simp [xcells] at hc; exact absurd hc.1.symm h4
      | two k' => exact absurd rfl (hn _ _ _)
    rw [he]
    exact hfin _ w3 _ (.name 0 s none 0 0 (Nat.le_refl _) (Nat.zero_le _)) hB3 hg3
  · have g1 : (k == 2) = false := by simpa using hk2
    by_cases hk1 : k = 1
    · subst hk1
      go_wp2_with (refine wpl_put_blk r1 [.int .i64 1, .int .i64 n, .string ⟨#[]⟩, .slice none 0 0] (by kernel_rfl) rfl (xcells_one 1 n ⟨#[]⟩ none 0 0) rfl rfl rfl rfl ?_; intro w3 hB3 hg3)
      refine ret_blk hB3 rfl rfl Tryd.underlying33 rfl (by kernel_rfl) rfl ⟨_, rfl, ?_⟩
      obtain ⟨he, hr⟩ : Sr.cln e = .num n ∧ Ex.rng n := by
        have hx := HX.out
        generalize hc : xcells 1 n s A len cap = cs at hx
        cases hx with
        | num n' s' A' len' cap' h1 h2 h3 => simp [xcells] at hc; obtain ⟨rfl, -⟩ := hc; exact ⟨rfl, h3⟩
        | name => simp [xcells] at hc
        | bad k' n' s' A' len' cap' h1 h2 h3 h4 h5 => simp [xcells] at hc; exact absurd hc.1.symm h3
        | two k' => exact absurd rfl (hn _ _ _)
      rw [he]
      exact hfin _ w3 _ (.num n ⟨#[]⟩ none 0 0 (Nat.le_refl _) (Nat.zero_le _) hr) hB3 hg3
    · have g2 : (k == 1) = false := by simpa using hk1
      go_wp2_with (refine wpl_put_blk r1 [.int .i64 1, .int .i64 0, .string ⟨#[]⟩, .slice none 0 0] (by kernel_rfl) rfl (xcells_one 1 0 ⟨#[]⟩ none 0 0) rfl rfl rfl rfl ?_; intro w3 hB3 hg3)
      refine ret_blk hB3 rfl rfl Tryd.underlying33 rfl (by kernel_rfl) rfl ⟨_, rfl, ?_⟩
      have he : Sr.cln e = .num 0 := by
        have hx := HX.out
        generalize hc : xcells k n s A len cap = cs at hx
        cases hx with
        | num => simp [xcells] at hc; exact absurd hc.1 hk1
        | name => simp [xcells] at hc; exact absurd hc.1 hk2
        | bad k' n' s' A' len' cap' h1 h2 h3 h4 h5 => rfl
        | two k' => exact absurd rfl (hn _ _ _)
      rw [he]
      exact hfin _ w3 _ (.num 0 ⟨#[]⟩ none 0 0 (Nat.le_refl _) (Nat.zero_le _) (by unfold Ex.rng; omega)) hB3 hg3
end Go.Proofs.YtdhjfckckghicaaDoor


namespace Go.Proofs.YtdhjfckckghicaaDoor
set_option linter.unusedVariables false
set_option linter.unusedSimpArgs false
set_option maxRecDepth 100000
open Go.RowKit

def EPutOK (t n : ByteArray) (e : Ex.X) : Prop := ∀ (w : World) (cs : List Value), XR w.heap.size w cs e →
  Calls Tryd.prog 18 #[.agg cs.toArray, .string t, .agg #[.int .i64 2, .int .i64 0, .string n, .slice none 0 0]] w fun r w' => ∃ v, r = .returned v ∧ IsX (Sr.eput t.data.toList (.name n.data.toList) e) v w' ∧ Below w.heap.size w w'

namespace Sr
open Ex St
/-- what stands in a leaf's place -/
theorem eput_same (t : Bs) (by_ : X) : eput t by_ (.name t) = by_ := by simp [eput]
theorem eput_other (t : Bs) (by_ : X) (e : X) (hn : ∀ k a b, e ≠ .two k a b) (h : e ≠ .name t) : eput t by_ e = cln e := by
  cases e with
  | num n => rfl
  | bad => rfl
  | name s =>
    have : (s == t) = false := by simpa using fun e => h (by rw [e])
    simp [eput, this, cln]
  | two k a b => exact absurd rfl (hn k a b)
end Sr

set_option maxHeartbeats 2000000 in
theorem eput_leaf (t n : ByteArray) (e : Ex.X) (hn : ∀ k a b, e ≠ .two k a b) : EPutOK t n e := by
  intro w cs hx
  obtain ⟨k, m, s, A, len, cap, rfl, hle, hm⟩ := hx.form
  have h2 := fun w' => etwo_any w' k m s A len cap hle hm false (Sr.two_iff hx hn)
  obtain ⟨p0, p1, p2, hz, hbw⟩ := allocs3 w (xcells k m s A len cap) (xcells 2 0 n none 0 0) Ex.zeros 33 33 33
  have HX := Lib.hid hx
  have hc1 : ∀ w', Below w.heap.size w w' → Calls Tryd.prog 26 #[.agg #[.int .i64 k, .int .i64 m, .string s, .slice A len cap]] w' fun r w'' => ∃ v, r = .returned v ∧ IsX (Sr.cln e) v w'' ∧ Below w'.heap.size w' w'' := fun w' hb => eclean_leaf e hn w' (xcells k m s A len cap) ((hx.later hb).up hb.size)
  have hc2 : ∀ w', Calls Tryd.prog 26 #[.agg #[.int .i64 2, .int .i64 0, .string n, .slice none 0 0]] w' fun r w'' => ∃ v, r = .returned v ∧ IsX (.name n.data.toList) v w'' ∧ Below w'.heap.size w' w'' := fun w' => eclean_leaf (.name n.data.toList) (fun _ _ _ h => by cases h) w' (xcells 2 0 n none 0 0) (.name 0 n none 0 0 (Nat.le_refl _) (Nat.zero_le _))
  unfold xcells Ex.zeros at p0 p1 p2 hz hbw
  unfold xcells at h2 ⊢
  obtain ⟨q, hq⟩ : ∃ q, q = w.heap.size := ⟨_, rfl⟩
  have HQ := Lib.hid hq
  clear hx
  go_enter Tryd.func18, Tryd.ntmps18
  go_wp2_with fail
  rw [← hq] at p0 p1 p2 ⊢
  clear hq
  generalize (((w.alloc (.cells #[.int .i64 k, .int .i64 m, .string s, .slice A len cap] 33)).alloc (.cells #[.int .i64 2, .int .i64 0, .string n, .slice none 0 0] 33)).alloc (.cells #[.int .i64 0, .int .i64 0, .string ⟨#[]⟩, .slice none 0 0] 33)) = W at p0 p1 p2 hz hbw ⊢
  refine (h2 W).mono ?_
  rintro r w1 ⟨rfl, hb1⟩
  have r0 := p0.below hb1
  have rb := p1.below hb1
  have r1 := p2.below hb1
  have hb2 := below_next hb1 hbw
  have s0 := (r0.cell 0).trans rfl
  have s1 := (r0.cell 1).trans rfl
  have s2 := (r0.cell 2).trans rfl
  have s3 := (r0.cell 3).trans rfl
  have b0 := (rb.cell 0).trans rfl
  have b1 := (rb.cell 1).trans rfl
  have b2 := (rb.cell 2).trans rfl
  have b3 := (rb.cell 3).trans rfl
  simp only [List.getElem?_cons_zero, List.getElem?_cons_succ] at s0 s1 s2 s3 b0 b1 b2 b3
  have HB := Lib.hid hb2
  have hcl1 := hc1 w1 hb2
  have hcl2 := hc2 w1
  clear p0 p1 p2 hz hbw h2 hb1 r0 rb hb2 hc1 hc2
  have HR := Lib.hid r1
  clear r1
  have hsame : (k == 2) = true → (s.toList == t.toList) = true → Sr.eput t.data.toList (.name n.data.toList) e = .name n.data.toList := fun hk hs => by
    have hx := HX.out
    obtain rfl : k = 2 := by simpa using hk
    obtain rfl : s = t := Ex.bytes_eq hs
    have he : e = .name s.data.toList := by
      generalize hc : xcells 2 m s A len cap = cs at hx
      cases hx with
      | num => simp [xcells] at hc
      | name => simp [xcells] at hc; obtain ⟨-, rfl, -⟩ := hc; rfl
      | bad k' n' s' A' len' cap' h1 h2 h3 h4 h5 => simp [xcells] at hc; exact absurd hc.1.symm h4
      | two k' => exact absurd rfl (hn _ _ _)
    rw [he, Sr.eput_same]
  have hother : ((k == 2) = false ∨ (s.toList == t.toList) = false) → Sr.eput t.data.toList (.name n.data.toList) e = Sr.cln e := fun h => Sr.eput_other _ _ _ hn fun he => by
    have hx := HX.out
    rw [he] at hx
    generalize hc : xcells k m s A len cap = cs at hx
    generalize ht : Ex.X.name t.data.toList = y at hx
    cases hx with
    | name n' s' A' len' cap' h1 h2 =>
      simp [xcells] at hc
      obtain ⟨rfl, -, rfl, -⟩ := hc
      injection ht with ht
      obtain rfl : t = s := by
        have := congrArg Ex.ba ht
        rwa [Ex.ba_data, Ex.ba_data] at this
      rcases h with h | h
      · simp at h
      · simp at h
    | num => cases ht
    | bad => cases ht
    | two => cases ht
  have HS := Lib.hid (And.intro hsame hother)
  clear hsame hother
  rcases h1 : (k == 2) with _ | _
  · go_wp2_with fail
    refine hcl1.mono ?_
    rintro r w2 ⟨v, rfl, hN, hb3⟩
    obtain ⟨cs, rfl, hx⟩ := hN
    obtain ⟨y0, y1, y2, Y3, y4, y5, rfl, -, -⟩ := hx.form
    have r2 := HR.out.below hb3
    have hb4 := below_next hb3 HB.out
    have HN := Lib.hid (And.intro hx (And.intro hb4 r2))
    clear hx hb3 hb4
    unfold xcells
    go_wp2_with (refine wpl_put_blk r2 [.int .i64 y0, .int .i64 y1, .string y2, .slice Y3 y4 y5] (by kernel_rfl) rfl (xcells_one y0 y1 y2 Y3 y4 y5) rfl rfl rfl rfl ?_; intro w3 hB3 hg3)
    refine ret_blk hB3 rfl rfl Tryd.underlying33 rfl (by kernel_rfl) rfl ⟨_, rfl, ?_⟩
    rw [HS.out.2 (.inl h1)]
    exact ⟨⟨_, rfl, HN.out.1.put HN.out.2.2 hg3⟩, HN.out.2.1.trans (below_of_grown hg3 HN.out.2.1.size (by rw [HQ.out]; omega))⟩
  · obtain rfl : k = 2 := by simpa using h1
    rcases h2 : (s.toList == t.toList) with _ | _
    · go_wp2_with fail
      refine hcl1.mono ?_
      rintro r w2 ⟨v, rfl, hN, hb3⟩
      obtain ⟨cs, rfl, hx⟩ := hN
      obtain ⟨y0, y1, y2, Y3, y4, y5, rfl, -, -⟩ := hx.form
      have r2 := HR.out.below hb3
      have hb4 := below_next hb3 HB.out
      have HN := Lib.hid (And.intro hx (And.intro hb4 r2))
      clear hx hb3 hb4
      unfold xcells
      go_wp2_with (refine wpl_put_blk r2 [.int .i64 y0, .int .i64 y1, .string y2, .slice Y3 y4 y5] (by kernel_rfl) rfl (xcells_one y0 y1 y2 Y3 y4 y5) rfl rfl rfl rfl ?_; intro w3 hB3 hg3)
      refine ret_blk hB3 rfl rfl Tryd.underlying33 rfl (by kernel_rfl) rfl ⟨_, rfl, ?_⟩
      rw [HS.out.2 (.inr h2)]
      exact ⟨⟨_, rfl, HN.out.1.put HN.out.2.2 hg3⟩, HN.out.2.1.trans (below_of_grown hg3 HN.out.2.1.size (by rw [HQ.out]; omega))⟩
    · go_wp2_with fail
      refine hcl2.mono ?_
      rintro r w2 ⟨v, rfl, hN, hb3⟩
      obtain ⟨cs, rfl, hx⟩ := hN
      obtain ⟨y0, y1, y2, Y3, y4, y5, rfl, -, -⟩ := hx.form
      have r2 := HR.out.below hb3
      have hb4 := below_next hb3 HB.out
      have HN := Lib.hid (And.intro hx (And.intro hb4 r2))
      clear hx hb3 hb4
      unfold xcells
      go_wp2_with (refine wpl_put_blk r2 [.int .i64 y0, .int .i64 y1, .string y2, .slice Y3 y4 y5] (by kernel_rfl) rfl (xcells_one y0 y1 y2 Y3 y4 y5) rfl rfl rfl rfl ?_; intro w3 hB3 hg3)
      refine ret_blk hB3 rfl rfl Tryd.underlying33 rfl (by kernel_rfl) rfl ⟨_, rfl, ?_⟩
      rw [HS.out.1 rfl h2]
      exact ⟨⟨_, rfl, HN.out.1.put HN.out.2.2 hg3⟩, HN.out.2.1.trans (below_of_grown hg3 HN.out.2.1.size (by rw [HQ.out]; omega))⟩
end Go.Proofs.YtdhjfckckghicaaDoor


namespace Go.Proofs.YtdhjfckckghicaaDoor
set_option linter.unusedVariables false
set_option linter.unusedSimpArgs false
set_option maxRecDepth 100000
open Go.RowKit

theorem ns_all {w : World} {cs : List Value} {e : Ex.X} (h : XN w.heap.size w cs e) : NS (fun _ => True) w cs e := XRN.mono h (Nat.le_refl _) fun p v hp hv => only_some.2 ⟨trivial, hv⟩

set_option maxHeartbeats 4000000 in
theorem eput_two (t n : ByteArray) (k : Int) (e0 e1 : Ex.X) (ih0 : EPutOK t n e0) (ih1 : EPutOK t n e1) : EPutOK t n (.two k e0 e1) := by
  intro w cs h
  cases h with
  | two k m s gg o len cap d0 d1 e0 e1 hle hm hk3 hk9 hl2 hg h5 h6 r0 r1 =>
  obtain ⟨a0, a1, a2, A3, a4, a5, rfl, -, -⟩ := r0.form
  obtain ⟨b0, b1, b2, B3, b4, b5, rfl, -, -⟩ := r1.form
  have h2 := fun w' => etwo_any w' k m s (some ⟨gg, o, none⟩) len cap hle hm true (by simp; omega)
  obtain ⟨q0, q1, q2, hz, hbw⟩ := allocs3 w (xcells k m s (some ⟨gg, o, none⟩) len cap) (xcells 2 0 n none 0 0) Ex.zeros 33 33 33
  unfold xcells Ex.zeros at q0 q1 q2 hz hbw
  have l0 : 0 < len := by omega
  have l1 : 1 < len := by omega
  have l1' : (1 : Int) < (len : Int) := by omega
  have l0' : (0 : Int) < (len : Int) := by omega
  have hH := hbw.size
  have a0' := h5 0 _ rfl
  have a1' := h5 1 _ rfl
  have a2' := h5 2 _ rfl
  have a3' := h5 3 _ rfl
  have b0' := h6 0 _ rfl
  have b1' := h6 1 _ rfl
  have b2' := h6 2 _ rfl
  have b3' := h6 3 _ rfl
  unfold maxLen at hm
  have HK := Lib.hid (And.intro hk3 hk9)
  clear h5 h6 hk3 hk9
  unfold xcells at h2 ⊢
  go_enter Tryd.func18, Tryd.ntmps18
  go_wp2_with fail
  simp only [Nat.add_zero] at a0' b0'
  have hlt : ∀ {p : Addr} {v : Value}, w.cell? p = some v → ∀ W', Below w.heap.size w W' → W'.cell? p = some v := fun h W' hb => (hb.cell (World.block_lt_of_cell? w _ h)).trans h
  generalize (((w.alloc (.cells #[.int .i64 k, .int .i64 m, .string s, .slice (some ⟨gg, o, none⟩) len cap] 33)).alloc (.cells #[.int .i64 2, .int .i64 0, .string n, .slice none 0 0] 33)).alloc (.cells #[.int .i64 0, .int .i64 0, .string ⟨#[]⟩, .slice none 0 0] 33)) = W0 at q0 q1 q2 hz hbw hH ⊢
  refine (h2 W0).mono ?_
  rintro r W ⟨rfl, hb1⟩
  obtain ⟨p, hp⟩ : ∃ p, p = w.heap.size := ⟨_, rfl⟩
  have q0' := q0.below hb1
  have q1' := q1.below hb1
  have q2' := q2.below hb1
  have hbW := below_next hb1 hbw
  clear q0 q1 q2 hbw hb1 h2
  rw [← hp] at q0' q1' q2' ⊢
  have keepS : ∀ w', Below W.heap.size W w' → (Below W.heap.size W w' ∧ w'.cell? ⟨p, 0, none⟩ = some (.int .i64 k) ∧ w'.cell? ⟨p, 3, none⟩ = some (.slice (some ⟨gg, o, none⟩) len cap) ∧
      w'.cell? ⟨p + 1, 0, none⟩ = some (.int .i64 2) ∧ w'.cell? ⟨p + 1, 1, none⟩ = some (.int .i64 0) ∧ w'.cell? ⟨p + 1, 2, none⟩ = some (.string n) ∧ w'.cell? ⟨p + 1, 3, none⟩ = some (.slice none 0 0) ∧
      w'.cell? ⟨gg, o, none⟩ = some (.int .i64 a0) ∧ w'.cell? ⟨gg, o + 1, none⟩ = some (.int .i64 a1) ∧ w'.cell? ⟨gg, o + 2, none⟩ = some (.string a2) ∧ w'.cell? ⟨gg, o + 3, none⟩ = some (.slice A3 a4 a5) ∧
      w'.cell? ⟨gg, o + 4, none⟩ = some (.int .i64 b0) ∧ w'.cell? ⟨gg, o + 4 + 1, none⟩ = some (.int .i64 b1) ∧ w'.cell? ⟨gg, o + 4 + 2, none⟩ = some (.string b2) ∧ w'.cell? ⟨gg, o + 4 + 3, none⟩ = some (.slice B3 b4 b5)) := fun w' hb => by
    have hb' := below_next hb hbW
    exact ⟨hb, ((q0'.below hb).cell 0).trans rfl, ((q0'.below hb).cell 3).trans rfl, ((q1'.below hb).cell 0).trans rfl, ((q1'.below hb).cell 1).trans rfl, ((q1'.below hb).cell 2).trans rfl, ((q1'.below hb).cell 3).trans rfl, hlt a0' _ hb', hlt a1' _ hb', hlt a2' _ hb', hlt a3' _ hb', hlt b0' _ hb', hlt b1' _ hb', hlt b2' _ hb', hlt b3' _ hb'⟩
  have gE : ∀ (w' : World) (cs : List Value) (e : Ex.X), Below W.heap.size W w' → EPutOK t n e → XR w.heap.size w cs e → Calls Tryd.prog 18 #[.agg cs.toArray, .string t, .agg #[.int .i64 2, .int .i64 0, .string n, .slice none 0 0]] w' fun r w'' => ∃ v, r = .returned v ∧ (FNS (fun _ => True) (Sr.eput t.data.toList (.name n.data.toList) e)).holds v w'' ∧ Below w'.heap.size w' w'' := fun w' cs e hb ih hx => by
    have hb' := below_next hb hbW
    refine (ih w' cs ((hx.later hb').up hb'.size)).mono ?_
    rintro r w'' ⟨v, rfl, ⟨cs', rfl, h1⟩, h2⟩
    exact ⟨_, rfl, ⟨cs', rfl, ns_all h1⟩, h2⟩
  have g0 := fun w' hb => gE w' _ e0 hb ih0 r0
  have g1' := fun w' hb => gE w' _ e1 hb ih1 r1
  have hS0 := keepS _ (below_drew (Below.refl _ _))
  have HB := Lib.hid (And.intro hbW (And.intro hp (And.intro hz hH)))
  clear a0' a1' a2' a3' b0' b1' b2' b3' q0' q1' hlt r0 r1 ih0 ih1 gE hbW hp hz hH
  unfold xcells at g0 g1'
  go_wp2_with fail
  refine wp_walk_last (by kernel_rfl) (by kernel_rfl) (fun w w' => Below w.heap.size w w') (fun w' => (Below W.heap.size W w' ∧ w'.cell? ⟨p, 0, none⟩ = some (.int .i64 k) ∧ w'.cell? ⟨p, 3, none⟩ = some (.slice (some ⟨gg, o, none⟩) len cap) ∧ w'.cell? ⟨p + 1, 0, none⟩ = some (.int .i64 2) ∧ w'.cell? ⟨p + 1, 1, none⟩ = some (.int .i64 0) ∧ w'.cell? ⟨p + 1, 2, none⟩ = some (.string n) ∧ w'.cell? ⟨p + 1, 3, none⟩ = some (.slice none 0 0) ∧ w'.cell? ⟨gg, o, none⟩ = some (.int .i64 a0) ∧ w'.cell? ⟨gg, o + 1, none⟩ = some (.int .i64 a1) ∧ w'.cell? ⟨gg, o + 2, none⟩ = some (.string a2) ∧ w'.cell? ⟨gg, o + 3, none⟩ = some (.slice A3 a4 a5) ∧ w'.cell? ⟨gg, o + 4, none⟩ = some (.int .i64 b0) ∧ w'.cell? ⟨gg, o + 4 + 1, none⟩ = some (.int .i64 b1) ∧ w'.cell? ⟨gg, o + 4 + 2, none⟩ = some (.string b2) ∧ w'.cell? ⟨gg, o + 4 + 3, none⟩ = some (.slice B3 b4 b5))) hS0 ?_
  simp only [List.length_cons, List.length_nil, Nat.reduceAdd, Nat.reduceSub, List.take_succ_cons, List.take_zero, List.drop_succ_cons, List.drop_zero]
  repeat (first | (refine settle_skip (fun _ => by rfl) ?_; (simp only [Act.put, List.setIfInBounds_toArray, List.set_cons_zero, List.set_cons_succ])) | (refine' settle_run (fun _ _ => Below.refl _ _) (fun _ => by rfl) ?_ ?_; rotate_left; (focus (intro ρ w hS hF; (try dsimp only at hS); go_split_ands; go_simp; try with_reducible rfl)); (simp only [Act.put, List.setIfInBounds_toArray, List.set_cons_zero, List.set_cons_succ])))
  (refine settle_known (FNS (fun _ ↦ True) (Sr.eput t.data.toList (.name n.data.toList) e0)) (by rfl) (fun _ => by rfl)  ?_ ?_; (focus (intro ρ w hS hF K hK; (simp only [Act.put, List.setIfInBounds_toArray, List.set_cons_zero, List.set_cons_succ] at hK); go_simp; (refine (g0 _ hS.1).mono ?_; rintro e w' ⟨v, rfl, hF', hb'⟩; exact hK _ _ hF' (keepS _ (below_next hb' hS.1)) hb'))); (simp only [Act.put, List.setIfInBounds_toArray, List.set_cons_zero, List.set_cons_succ]))
  repeat (first | (refine settle_skip (fun _ => by rfl) ?_; (simp only [Act.put, List.setIfInBounds_toArray, List.set_cons_zero, List.set_cons_succ])) | (refine' settle_run (fun _ _ => Below.refl _ _) (fun _ => by rfl) ?_ ?_; rotate_left; (focus (intro ρ w hS hF; (try dsimp only at hS); go_split_ands; go_simp; try with_reducible rfl)); (simp only [Act.put, List.setIfInBounds_toArray, List.set_cons_zero, List.set_cons_succ])))
  (refine settle_known (FNS (fun _ ↦ True) (Sr.eput t.data.toList (.name n.data.toList) e1)) (by rfl) (fun _ => by rfl)  ?_ ?_; (focus (intro ρ w hS hF K hK; (simp only [Act.put, List.setIfInBounds_toArray, List.set_cons_zero, List.set_cons_succ] at hK); go_simp; (refine (g1' _ hS.1).mono ?_; rintro e w' ⟨v, rfl, hF', hb'⟩; exact hK _ _ hF' (keepS _ (below_next hb' hS.1)) hb'))); (simp only [Act.put, List.setIfInBounds_toArray, List.set_cons_zero, List.set_cons_succ]))
  repeat (first | (refine settle_skip (fun _ => by rfl) ?_; (simp only [Act.put, List.setIfInBounds_toArray, List.set_cons_zero, List.set_cons_succ])) | (refine' settle_run (fun _ _ => Below.refl _ _) (fun _ => by rfl) ?_ ?_; rotate_left; (focus (intro ρ w hS hF; (try dsimp only at hS); go_split_ands; go_simp; try with_reducible rfl)); (simp only [Act.put, List.setIfInBounds_toArray, List.set_cons_zero, List.set_cons_succ])))
  (refine settle_known (FTwo (fun _ ↦ True) (Sr.eput t.data.toList (.name n.data.toList) e0) (Sr.eput t.data.toList (.name n.data.toList) e1)) (by rfl) (fun _ => by rfl)  ?_ ?_; (focus (intro ρ w hS hF K hK; (simp only [Act.put, List.setIfInBounds_toArray, List.set_cons_zero, List.set_cons_succ] at hK); go_simp; (obtain ⟨c1, e34, r34⟩ := hF.1 (by rfl); obtain ⟨c0, e28, r28⟩ := hF.2.1 (by rfl); obtain ⟨x0, x1, x2, X3, x4, x5, rfl, -, -⟩ := XRN.form r28; obtain ⟨y0, y1, y2, Y3, y4, y5, rfl, -, -⟩ := XRN.form r34; unfold xcells at e28 e34; simp only [e28, e34]; go_simp; have hbl : Below w.heap.size w (w.alloc (.cells (xcells x0 x1 x2 X3 x4 x5 ++ xcells y0 y1 y2 Y3 y4 y5).toArray 33)) := below_alloc (Below.refl _ _) _; have hK2 := hK _ _ ⟨w.heap.size, _, _, rfl, trivial, Blk.new w 33 _, r28.later hbl, r34.later hbl⟩ (keepS _ (hS.1.alloc hS.1.size _)) hbl; simp only [e28, e34] at hK2; exact hK2))); (simp only [Act.put, List.setIfInBounds_toArray, List.set_cons_zero, List.set_cons_succ]))
  repeat (first | (refine settle_skip (fun _ => by rfl) ?_; (simp only [Act.put, List.setIfInBounds_toArray, List.set_cons_zero, List.set_cons_succ])) | (refine' settle_run (fun _ _ => Below.refl _ _) (fun _ => by rfl) ?_ ?_; rotate_left; (focus (intro ρ w hS hF; (try dsimp only at hS); go_split_ands; go_simp; try with_reducible rfl)); (simp only [Act.put, List.setIfInBounds_toArray, List.set_cons_zero, List.set_cons_succ])))
  (refine settle_known (FNS (fun _ ↦ True) (Sr.eput t.data.toList (.name n.data.toList) (.two k e0 e1))) (by rfl) (fun _ => by rfl)  ?_ ?_; (focus (intro ρ w hS hF K hK; (simp only [Act.put, List.setIfInBounds_toArray, List.set_cons_zero, List.set_cons_succ] at hK); go_simp; (obtain ⟨q, c0, c1, e35, hq, hB, r28, r34⟩ := hF.1 (by rfl); simp only [e35]; go_simp; have hK2 := hK _ _ ⟨xcells k 0 ⟨#[]⟩ (some ⟨q, 0, none⟩) 2 2, rfl, NS.two r28 r34 hB hq HK.out.1 HK.out.2⟩ hS (Below.refl _ _); simp only [e35] at hK2; exact hK2))); (simp only [Act.put, List.setIfInBounds_toArray, List.set_cons_zero, List.set_cons_succ]))
  refine settle_nil ?_
  intro ρ w4 hS hF
  obtain ⟨cs, e26, h26⟩ := hF 26 (FNS (fun _ => True) (Sr.eput t.data.toList (.name n.data.toList) (.two k e0 e1))) (by repeat (first | exact List.mem_cons_self | apply List.mem_cons_of_mem))
  have hb4 := hS.1
  clear hF hS hS0 keepS g0 g1'
  dsimp only
  rw [e26]
  have h26' := h26.xn
  obtain ⟨x0, x1, x2, X3, x4, x5, rfl, -, -⟩ := XRN.form h26'
  obtain ⟨hbw, hp, hz, hH⟩ := HB.out
  have hB4 := q2'.below hb4
  have hl4 := hb4.size
  have hbs := hbw.size
  have hend : ∀ w5, w4.grownBy w5 (some (p + 1 + 1)) → IsX (Sr.eput t.data.toList (.name n.data.toList) (.two k e0 e1)) (.agg (xcells x0 x1 x2 X3 x4 x5).toArray) w5 ∧ Below w.heap.size w w5 := fun w5 hg5 =>
    ⟨⟨_, rfl, h26'.put hB4 hg5⟩, (below_next hb4 hbw).trans (below_of_grown hg5 (by omega) (by omega))⟩
  refine wpl_put_blk hB4 [.int .i64 x0, .int .i64 x1, .string x2, .slice X3 x4 x5] (by kernel_rfl) rfl (xcells_one x0 x1 x2 X3 x4 x5) rfl rfl rfl rfl ?_
  intro w5 hB5 hg5
  have he5 := hend w5 hg5
  clear hend hg5 hB4 h26 h26' e26 hbw hp hz hH
  go_wp2
  exact ret_blk hB5 rfl rfl Tryd.underlying33 rfl (by kernel_rfl) rfl ⟨_, rfl, he5⟩

theorem eput_any (t n : ByteArray) (e : Ex.X) : EPutOK t n e := by
  induction e with
  | num m => exact eput_leaf t n _ (fun _ _ _ h => by cases h)
  | name s => exact eput_leaf t n _ (fun _ _ _ h => by cases h)
  | bad => exact eput_leaf t n _ (fun _ _ _ h => by cases h)
  | two k e0 e1 i0 i1 => exact eput_two t n k e0 e1 i0 i1
end Go.Proofs.YtdhjfckckghicaaDoor


namespace Go.Proofs.YtdhjfckckghicaaDoor
set_option linter.unusedVariables false
set_option linter.unusedSimpArgs false
set_option maxRecDepth 100000
open Go.RowKit

namespace Sr
open Ex St
/-- its names, each once, as the document has them -/
def mn : X → List ByteArray
  | .name s => [ba s]
  | .two _ a b => merge (mn a) (mn b)
  | _ => []
theorem mn_length : ∀ e : X, (mn e).length ≤ e.leaves
  | .num _ => Nat.zero_le _
  | .bad => Nat.zero_le _
  | .name _ => Nat.le_refl _
  | .two _ a b => by
    have h1 := mn_length a
    have h2 := mn_length b
    have h3 := merge_length (mn a) (mn b)
    rw [mn, X.leaves]
    omega
theorem mem_mn (s : Bs) : ∀ e : X, ba s ∈ mn e ↔ occ s e = true
  | .num _ => by simp [mn, occ]
  | .bad => by simp [mn, occ]
  | .name t => by
    simp only [mn, List.mem_singleton, occ, beq_iff_eq]
    exact ⟨fun h => (ba_inj h).symm, fun h => by rw [h]⟩
  | .two _ a b => by rw [mn, mem_merge, mem_mn s a, mem_mn s b, occ, Bool.or_eq_true]
end Sr

def ENmOK (e : Ex.X) : Prop := ∀ (w : World) (cs : List Value), XR w.heap.size w cs e → e.leaves ≤ 4398046511104 →
  Calls Tryd.prog 19 #[.agg cs.toArray] w fun r w' => ∃ u, r = .returned u ∧ SlV w' 1 u (Sr.mn e).length (strs (Sr.mn e)) ∧ Below w.heap.size w w'

set_option maxHeartbeats 2000000 in
theorem enames_leaf (e : Ex.X) (hn : ∀ k a b, e ≠ .two k a b) : ENmOK e := by
  intro w cs hx _
  obtain ⟨k, m, s, A, len, cap, rfl, hle, hm⟩ := hx.form
  have h2 := fun w' => etwo_any w' k m s A len cap hle hm false (Sr.two_iff hx hn)
  have p0 := Blk.new w 33 (xcells k m s A len cap)
  have hbw : Below w.heap.size w (w.alloc (.cells (xcells k m s A len cap).toArray 33)) := below_alloc (Below.refl _ _) _
  have HX := Lib.hid hx
  unfold xcells at p0 hbw h2 ⊢
  obtain ⟨q, hq⟩ : ∃ q, q = w.heap.size := ⟨_, rfl⟩
  clear hx
  go_enter Tryd.func19, Tryd.ntmps19
  go_wp2_with fail
  rw [← hq] at p0 ⊢
  clear hq
  generalize (w.alloc (.cells #[.int .i64 k, .int .i64 m, .string s, .slice A len cap] 33)) = W at p0 hbw ⊢
  refine (h2 W).mono ?_
  rintro r w1 ⟨rfl, hb1⟩
  have r0 := p0.below hb1
  have hb2 := below_next hb1 hbw
  have s0 := (r0.cell 0).trans rfl
  have s2 := (r0.cell 2).trans rfl
  simp only [List.getElem?_cons_zero, List.getElem?_cons_succ] at s0 s2
  clear p0 hbw h2 hb1 r0
  rcases h1 : (k == 2) with _ | _
  · have HE := Lib.hid (show Sr.mn e = [] by
      have hx := HX.out
      generalize hc : xcells k m s A len cap = cs at hx
      cases hx with
      | num => rfl
      | bad => rfl
      | name => simp [xcells] at hc; simp [hc.1] at h1
      | two k' => exact absurd rfl (hn _ _ _))
    go_wp2_with fail
    go_ret
    refine ⟨_, rfl, ?_, hb2⟩
    rw [HE.out]
    exact SlV.nil _ 1
  · obtain rfl : k = 2 := by simpa using h1
    have HE := Lib.hid (show Sr.mn e = [s] by
      have hx := HX.out
      generalize hc : xcells 2 m s A len cap = cs at hx
      cases hx with
      | num => simp [xcells] at hc
      | bad k' n' s' A' len' cap' h1 h2 h3 h4 h5 => simp [xcells] at hc; exact absurd hc.1.symm h4
      | name => simp [xcells] at hc; obtain ⟨-, rfl, -⟩ := hc; rw [Sr.mn, Ex.ba_data]
      | two k' => exact absurd rfl (hn _ _ _))
    have hl := SlV.lit w1 [.string s] 9 1 1 rfl (by decide)
    have HL := Lib.hid (And.intro hl (below_alloc hb2 (.cells #[.string s] 9)))
    clear hl hb2
    go_wp2_with fail
    go_ret
    refine ⟨_, rfl, ?_, HL.out.2⟩
    rw [HE.out]
    exact HL.out.1

set_option maxHeartbeats 4000000 in
theorem enames_two (k : Int) (e0 e1 : Ex.X) (ih0 : ENmOK e0) (ih1 : ENmOK e1) : ENmOK (.two k e0 e1) := by
  intro w cs h hlv
  cases h with
  | two k m s gg o len cap d0 d1 e0 e1 hle hm hk3 hk9 hl2 hg h5 h6 r0 r1 =>
  obtain ⟨a0, a1, a2, A3, a4, a5, rfl, -, -⟩ := r0.form
  obtain ⟨b0, b1, b2, B3, b4, b5, rfl, -, -⟩ := r1.form
  have h2 := fun w' => etwo_any w' k m s (some ⟨gg, o, none⟩) len cap hle hm true (by simp; omega)
  have q0 := Blk.new w 33 (xcells k m s (some ⟨gg, o, none⟩) len cap)
  have hbw : Below w.heap.size w (w.alloc (.cells (xcells k m s (some ⟨gg, o, none⟩) len cap).toArray 33)) := below_alloc (Below.refl _ _) _
  unfold xcells at q0 hbw
  have l0 : 0 < len := by omega
  have l1 : 1 < len := by omega
  have l1' : (1 : Int) < (len : Int) := by omega
  have l0' : (0 : Int) < (len : Int) := by omega
  have a0' := h5 0 _ rfl
  have a1' := h5 1 _ rfl
  have a2' := h5 2 _ rfl
  have a3' := h5 3 _ rfl
  have b0' := h6 0 _ rfl
  have b1' := h6 1 _ rfl
  have b2' := h6 2 _ rfl
  have b3' := h6 3 _ rfl
  unfold maxLen at hm
  have hv1 : e0.leaves + e1.leaves ≤ 4398046511104 := hlv
  have m0 := Sr.mn_length e0
  have m1 := Sr.mn_length e1
  clear h5 h6 hk3 hk9 hlv
  unfold xcells at h2 ⊢
  go_enter Tryd.func19, Tryd.ntmps19
  go_wp2_with fail
  simp only [Nat.add_zero] at a0' b0'
  have hlt : ∀ {p : Addr} {v : Value}, w.cell? p = some v → ∀ W', Below w.heap.size w W' → W'.cell? p = some v := fun h W' hb => (hb.cell (World.block_lt_of_cell? w _ h)).trans h
  generalize (w.alloc (.cells #[.int .i64 k, .int .i64 m, .string s, .slice (some ⟨gg, o, none⟩) len cap] 33)) = W0 at q0 hbw ⊢
  refine (h2 W0).mono ?_
  rintro r W ⟨rfl, hb1⟩
  obtain ⟨p, hp⟩ : ∃ p, p = w.heap.size := ⟨_, rfl⟩
  have q0' := q0.below hb1
  have hbW := below_next hb1 hbw
  clear q0 hbw hb1 h2
  rw [← hp] at q0' ⊢
  clear hp
  have keepS : ∀ w', Below W.heap.size W w' → (Below W.heap.size W w' ∧ w'.cell? ⟨p, 3, none⟩ = some (.slice (some ⟨gg, o, none⟩) len cap) ∧
      w'.cell? ⟨gg, o, none⟩ = some (.int .i64 a0) ∧ w'.cell? ⟨gg, o + 1, none⟩ = some (.int .i64 a1) ∧ w'.cell? ⟨gg, o + 2, none⟩ = some (.string a2) ∧ w'.cell? ⟨gg, o + 3, none⟩ = some (.slice A3 a4 a5) ∧
      w'.cell? ⟨gg, o + 4, none⟩ = some (.int .i64 b0) ∧ w'.cell? ⟨gg, o + 4 + 1, none⟩ = some (.int .i64 b1) ∧ w'.cell? ⟨gg, o + 4 + 2, none⟩ = some (.string b2) ∧ w'.cell? ⟨gg, o + 4 + 3, none⟩ = some (.slice B3 b4 b5)) := fun w' hb => by
    have hb' := below_next hb hbW
    exact ⟨hb, ((q0'.below hb).cell 3).trans rfl, hlt a0' _ hb', hlt a1' _ hb', hlt a2' _ hb', hlt a3' _ hb', hlt b0' _ hb', hlt b1' _ hb', hlt b2' _ hb', hlt b3' _ hb'⟩
  have gE : ∀ (w' : World) (cs : List Value) (e : Ex.X), Below W.heap.size W w' → ENmOK e → e.leaves ≤ 4398046511104 → XR w.heap.size w cs e → Calls Tryd.prog 19 #[.agg cs.toArray] w' fun r w'' => ∃ v, r = .returned v ∧ (FSl 1 (Sr.mn e).length (strs (Sr.mn e))).holds v w'' ∧ Below w'.heap.size w' w'' := fun w' cs e hb ih hl hx => by
    have hb' := below_next hb hbW
    exact ih w' cs ((hx.later hb').up hb'.size) hl
  have g0 := fun w' hb => gE w' _ e0 hb ih0 (by omega) r0
  have g1' := fun w' hb => gE w' _ e1 hb ih1 (by omega) r1
  have hS0 := keepS _ (below_drew (Below.refl _ _))
  have HB := Lib.hid hbW
  clear a0' a1' a2' a3' b0' b1' b2' b3' q0' hlt r0 r1 ih0 ih1 gE hbW
  unfold xcells at g0 g1'
  go_wp2_with fail
  refine wp_walk (by kernel_rfl) (by kernel_rfl) (fun w w' => Below w.heap.size w w') (fun w' => (Below W.heap.size W w' ∧ w'.cell? ⟨p, 3, none⟩ = some (.slice (some ⟨gg, o, none⟩) len cap) ∧ w'.cell? ⟨gg, o, none⟩ = some (.int .i64 a0) ∧ w'.cell? ⟨gg, o + 1, none⟩ = some (.int .i64 a1) ∧ w'.cell? ⟨gg, o + 2, none⟩ = some (.string a2) ∧ w'.cell? ⟨gg, o + 3, none⟩ = some (.slice A3 a4 a5) ∧ w'.cell? ⟨gg, o + 4, none⟩ = some (.int .i64 b0) ∧ w'.cell? ⟨gg, o + 4 + 1, none⟩ = some (.int .i64 b1) ∧ w'.cell? ⟨gg, o + 4 + 2, none⟩ = some (.string b2) ∧ w'.cell? ⟨gg, o + 4 + 3, none⟩ = some (.slice B3 b4 b5))) hS0 ?_
  repeat (first | (refine settle_skip (fun _ => by rfl) ?_; (simp only [Act.put, List.setIfInBounds_toArray, List.set_cons_zero, List.set_cons_succ])) | (refine' settle_run (fun _ _ => Below.refl _ _) (fun _ => by rfl) ?_ ?_; rotate_left; (focus (intro ρ w hS hF; (try dsimp only at hS); go_split_ands; go_simp; try with_reducible rfl)); (simp only [Act.put, List.setIfInBounds_toArray, List.set_cons_zero, List.set_cons_succ])))
  (refine settle_known (FSl 1 (Sr.mn e0).length (strs (Sr.mn e0))) (by rfl) (fun _ => by rfl)  ?_ ?_; (focus (intro ρ w hS hF K hK; (simp only [Act.put, List.setIfInBounds_toArray, List.set_cons_zero, List.set_cons_succ] at hK); go_simp; (refine (g0 _ hS.1).mono ?_; rintro e w' ⟨v, rfl, hF', hb'⟩; exact hK _ _ hF' (keepS _ (below_next hb' hS.1)) hb'))); (simp only [Act.put, List.setIfInBounds_toArray, List.set_cons_zero, List.set_cons_succ]))
  repeat (first | (refine settle_skip (fun _ => by rfl) ?_; (simp only [Act.put, List.setIfInBounds_toArray, List.set_cons_zero, List.set_cons_succ])) | (refine' settle_run (fun _ _ => Below.refl _ _) (fun _ => by rfl) ?_ ?_; rotate_left; (focus (intro ρ w hS hF; (try dsimp only at hS); go_split_ands; go_simp; try with_reducible rfl)); (simp only [Act.put, List.setIfInBounds_toArray, List.set_cons_zero, List.set_cons_succ])))
  (refine settle_known (FSl 1 (Sr.mn e1).length (strs (Sr.mn e1))) (by rfl) (fun _ => by rfl)  ?_ ?_; (focus (intro ρ w hS hF K hK; (simp only [Act.put, List.setIfInBounds_toArray, List.set_cons_zero, List.set_cons_succ] at hK); go_simp; (refine (g1' _ hS.1).mono ?_; rintro e w' ⟨v, rfl, hF', hb'⟩; exact hK _ _ hF' (keepS _ (below_next hb' hS.1)) hb'))); (simp only [Act.put, List.setIfInBounds_toArray, List.set_cons_zero, List.set_cons_succ]))
  repeat (first | (refine settle_skip (fun _ => by rfl) ?_; (simp only [Act.put, List.setIfInBounds_toArray, List.set_cons_zero, List.set_cons_succ])) | (refine' settle_run (fun _ _ => Below.refl _ _) (fun _ => by rfl) ?_ ?_; rotate_left; (focus (intro ρ w hS hF; (try dsimp only at hS); go_split_ands; go_simp; try with_reducible rfl)); (simp only [Act.put, List.setIfInBounds_toArray, List.set_cons_zero, List.set_cons_succ])))
  (refine settle_known (FSl 1 (Sr.merge (Sr.mn e0) (Sr.mn e1)).length (strs (Sr.merge (Sr.mn e0) (Sr.mn e1)))) (by rfl) (fun _ => by rfl)  ?_ ?_; (focus (intro ρ w hS hF K hK; (simp only [Act.put, List.setIfInBounds_toArray, List.set_cons_zero, List.set_cons_succ] at hK); go_simp; (refine (merge_any _ _ (Sr.mn e0) (Sr.mn e1) _ (hF.2.1 (by rfl)) (hF.1 (by rfl)) (by omega)).mono ?_; rintro e w' ⟨v, rfl, hF', hb'⟩; exact hK _ _ (SlV.of_own hF') (keepS _ (below_next hb' hS.1)) hb'))); (simp only [Act.put, List.setIfInBounds_toArray, List.set_cons_zero, List.set_cons_succ]))
  (refine settle_known (FSl 1 (Sr.merge (Sr.mn e0) (Sr.mn e1)).length (strs (Sr.merge (Sr.mn e0) (Sr.mn e1)))) (by rfl) (fun _ => by rfl)  ?_ ?_; (focus (intro ρ w hS hF K hK; (simp only [Act.put, List.setIfInBounds_toArray, List.set_cons_zero, List.set_cons_succ] at hK); go_simp; (exact hK _ _ (hF.1 (by rfl)) hS (Below.refl _ _)))); (simp only [Act.put, List.setIfInBounds_toArray, List.set_cons_zero, List.set_cons_succ]))
  refine settle_nil ?_
  intro ρ w4 hS hF
  have h2 := hF 2 (FSl 1 (Sr.merge (Sr.mn e0) (Sr.mn e1)).length (strs (Sr.merge (Sr.mn e0) (Sr.mn e1)))) (by repeat (first | exact List.mem_cons_self | apply List.mem_cons_of_mem))
  have HE := Lib.hid (below_next hS.1 HB.out)
  clear hF hS hS0 keepS g0 g1'
  dsimp only
  generalize ρ 2 = v2 at h2 ⊢
  obtain ⟨V, cv, rfl, h3⟩ := id h2
  have H2 := Lib.hid h2
  clear h2 h3
  go_wp2
  go_ret
  exact ⟨_, rfl, H2.out, HE.out⟩

theorem enames_any (e : Ex.X) : ENmOK e := by
  induction e with
  | num m => exact enames_leaf _ (fun _ _ _ h => by cases h)
  | name s => exact enames_leaf _ (fun _ _ _ h => by cases h)
  | bad => exact enames_leaf _ (fun _ _ _ h => by cases h)
  | two k e0 e1 i0 i1 => exact enames_two k e0 e1 i0 i1
end Go.Proofs.YtdhjfckckghicaaDoor


namespace Go.Proofs.YtdhjfckckghicaaDoor
set_option linter.unusedVariables false
set_option linter.unusedSimpArgs false
set_option maxRecDepth 100000
open Go.RowKit

theorem Sr.eput_leaves (t n : Ex.Bs) : ∀ e : Ex.X, (Sr.eput t (.name n) e).leaves = e.leaves
  | .num _ => rfl
  | .bad => rfl
  | .name s => by
    unfold Sr.eput
    split <;> rfl
  | .two _ a b => by rw [Sr.eput, Ex.X.leaves, Ex.X.leaves, Sr.eput_leaves t n a, Sr.eput_leaves t n b]

/-- a slice of statements -/
def FPs (p : St.P) : Fact (fun w w' => Below w.heap.size w w') := ⟨fun v w => ∃ D n c, v = .slice D n c ∧ IsP w (.slice D n c) p, fun v w w' ⟨D, n, c, h1, h2⟩ k => ⟨D, n, c, h1, h2.step k⟩⟩
/-- a store's cells, its second expression being made -/
def FSto (n : ByteArray) (e : Ex.X) : Fact (fun w w' => Below w.heap.size w w') := ⟨fun v w => ∃ y0 y1 y2 Y3 y4 y5, v = .agg #[.int .i64 3, .string ⟨#[]⟩, .int .i64 2, .int .i64 0, .string n, .slice none 0 0, .int .i64 y0, .int .i64 y1, .string y2, .slice Y3 y4 y5, .slice none 0 0, .slice none 0 0] ∧ XN w.heap.size w (xcells y0 y1 y2 Y3 y4 y5) e, fun v w w' ⟨y0, y1, y2, Y3, y4, y5, h1, h2⟩ k => ⟨y0, y1, y2, Y3, y4, y5, h1, (h2.later k).up k.size⟩⟩

set_option maxHeartbeats 4000000 in
theorem turn1_any (ea eb : Ex.X) (n t : ByteArray) (w : World) (qa qb qn : Nat) (a0 a1 : Int) (a2 : ByteArray) (A3 : Option Addr) (a4 a5 : Nat) (b0 b1 : Int) (b2 : ByteArray) (B3 : Option Addr) (b4 b5 : Nat)
    (ha : Blk w qa 33 [.int .i64 a0, .int .i64 a1, .string a2, .slice A3 a4 a5]) (hb : Blk w qb 33 [.int .i64 b0, .int .i64 b1, .string b2, .slice B3 b4 b5]) (hn : Blk w qn 9 [.string t])
    (xa : XR w.heap.size w (xcells a0 a1 a2 A3 a4 a5) ea) (xb : XR w.heap.size w (xcells b0 b1 b2 B3 b4 b5) eb) :
    Calls Tryd.prog 16 #[.string n, .pointer (some ⟨qa, 0, none⟩), .pointer (some ⟨qb, 0, none⟩), .pointer (some ⟨qn, 0, none⟩)] w fun e w' => ∃ A k c, e = .returned (.slice A k c) ∧ IsP w' (.slice A k c) (Sr.turnP ea n.data.toList t.data.toList eb) ∧ Below w.heap.size w w' := by
  have keepS : ∀ w', Below w.heap.size w w' → (Below w.heap.size w w' ∧ w'.cell? ⟨qa, 0, none⟩ = some (.int .i64 a0) ∧ w'.cell? ⟨qa, 1, none⟩ = some (.int .i64 a1) ∧ w'.cell? ⟨qa, 2, none⟩ = some (.string a2) ∧ w'.cell? ⟨qa, 3, none⟩ = some (.slice A3 a4 a5) ∧ w'.cell? ⟨qb, 0, none⟩ = some (.int .i64 b0) ∧ w'.cell? ⟨qb, 1, none⟩ = some (.int .i64 b1) ∧ w'.cell? ⟨qb, 2, none⟩ = some (.string b2) ∧ w'.cell? ⟨qb, 3, none⟩ = some (.slice B3 b4 b5) ∧ w'.cell? ⟨qn, 0, none⟩ = some (.string t)) := fun w' h =>
    ⟨h, ((ha.below h).cell 0).trans rfl, ((ha.below h).cell 1).trans rfl, ((ha.below h).cell 2).trans rfl, ((ha.below h).cell 3).trans rfl, ((hb.below h).cell 0).trans rfl, ((hb.below h).cell 1).trans rfl, ((hb.below h).cell 2).trans rfl, ((hb.below h).cell 3).trans rfl, ((hn.below h).cell 0).trans rfl⟩
  have gP : ∀ w', Below w.heap.size w w' → Calls Tryd.prog 18 #[.agg #[.int .i64 b0, .int .i64 b1, .string b2, .slice B3 b4 b5], .string t, .agg #[.int .i64 2, .int .i64 0, .string n, .slice none 0 0]] w' fun r w'' => ∃ v, r = .returned v ∧ (FX (Sr.eput t.data.toList (.name n.data.toList) eb)).holds v w'' ∧ Below w'.heap.size w' w'' := fun w' h => eput_any t n eb w' _ ((xb.later h).up h.size)
  have gM : ∀ w', Calls Tryd.prog 17 #[.string n] w' fun e w'' => e = .returned (.agg #[.int .i64 2, .int .i64 0, .string n, .slice none 0 0]) ∧ Below w'.heap.size w' w'' := fun w' => nam_any n w'
  have gS : ∀ (w' : World) (y0 y1 : Int) (y2 : ByteArray) (Y3 : Option Addr) (y4 y5 : Nat), Below w.heap.size w w' → XN w'.heap.size w' (xcells y0 y1 y2 Y3 y4 y5) (Sr.eput t.data.toList (.name n.data.toList) eb) →
      IsP (w'.alloc (.cells #[.int .i64 1, .string n, .int .i64 a0, .int .i64 a1, .string a2, .slice A3 a4 a5, .int .i64 0, .int .i64 0, .string ⟨#[]⟩, .slice none 0 0, .slice none 0 0, .slice none 0 0, .int .i64 3, .string ⟨#[]⟩, .int .i64 2, .int .i64 0, .string n, .slice none 0 0, .int .i64 y0, .int .i64 y1, .string y2, .slice Y3 y4 y5, .slice none 0 0, .slice none 0 0] 36)) (.slice (some ⟨w'.heap.size, 0, none⟩) 2 2) (Sr.turnP ea n.data.toList t.data.toList eb) := fun w' y0 y1 y2 Y3 y4 y5 h hx => by
    have hd0 : 0 ≤ 0 ∧ 0 ≤ maxLen ∧ 0 ≤ 0 ∧ 0 ≤ maxLen := ⟨Nat.le_refl _, Nat.zero_le _, Nat.le_refl _, Nat.zero_le _⟩
    have pc := (PC.one (w := w') (B := w'.heap.size) (k := 1) (nm := n) (ca := xcells a0 a1 a2 A3 a4 a5) (cb := xzeros) (D := none) (dl := 0) (dc := 0) (E := none) (el := 0) (ec := 0) hd0 ((xa.later h).up h.size) (xbad w') (.nil _) (.nil _)).append
      (PC.one (w := w') (B := w'.heap.size) (k := 3) (nm := ⟨#[]⟩) (ca := xcells 2 0 n none 0 0) (cb := xcells y0 y1 y2 Y3 y4 y5) (D := none) (dl := 0) (dc := 0) (E := none) (el := 0) (ec := 0) hd0 (.name 0 n none 0 0 (Nat.le_refl _) (Nat.zero_le _)) hx.read (.nil _) (.nil _))
    exact IsP.lit pc (by decide)
  have hS0 := keepS _ (below_drew (Below.refl _ _))
  clear ha hb hn xa xb
  go_enter Tryd.func16, Tryd.ntmps16
  go_wp2_with fail
  refine wp_walk (by kernel_rfl) (by kernel_rfl) (fun w w' => Below w.heap.size w w') (fun w' => (Below w.heap.size w w' ∧ w'.cell? ⟨qa, 0, none⟩ = some (.int .i64 a0) ∧ w'.cell? ⟨qa, 1, none⟩ = some (.int .i64 a1) ∧ w'.cell? ⟨qa, 2, none⟩ = some (.string a2) ∧ w'.cell? ⟨qa, 3, none⟩ = some (.slice A3 a4 a5) ∧ w'.cell? ⟨qb, 0, none⟩ = some (.int .i64 b0) ∧ w'.cell? ⟨qb, 1, none⟩ = some (.int .i64 b1) ∧ w'.cell? ⟨qb, 2, none⟩ = some (.string b2) ∧ w'.cell? ⟨qb, 3, none⟩ = some (.slice B3 b4 b5) ∧ w'.cell? ⟨qn, 0, none⟩ = some (.string t))) hS0 ?_
  repeat (first | (refine settle_skip (fun _ => by rfl) ?_; (simp only [Act.put, List.setIfInBounds_toArray, List.set_cons_zero, List.set_cons_succ])) | (refine' settle_run (fun _ _ => Below.refl _ _) (fun _ => by rfl) ?_ ?_; rotate_left; (focus (intro ρ w hS hF; (try dsimp only at hS); go_split_ands; go_simp; try with_reducible rfl)); (simp only [Act.put, List.setIfInBounds_toArray, List.set_cons_zero, List.set_cons_succ])))
  (refine' settle_step (fun _ => by rfl) ?_ ?_; rotate_left; (focus (intro ρ w hS hF K hK; (simp only [Act.put, List.setIfInBounds_toArray, List.set_cons_zero, List.set_cons_succ] at hK); go_simp; go_at_call 17; refine (gM _).mono ?_; rintro e w6 ⟨rfl, hb6⟩; have hS' := keepS _ (below_next hb6 hS.1); have hE' := hb6; exact hK _ hS' hE')); (simp only [Act.put, List.setIfInBounds_toArray, List.set_cons_zero, List.set_cons_succ]))
  repeat (first | (refine settle_skip (fun _ => by rfl) ?_; (simp only [Act.put, List.setIfInBounds_toArray, List.set_cons_zero, List.set_cons_succ])) | (refine' settle_run (fun _ _ => Below.refl _ _) (fun _ => by rfl) ?_ ?_; rotate_left; (focus (intro ρ w hS hF; (try dsimp only at hS); go_split_ands; go_simp; try with_reducible rfl)); (simp only [Act.put, List.setIfInBounds_toArray, List.set_cons_zero, List.set_cons_succ])))
  (refine' settle_step (fun _ => by rfl) ?_ ?_; rotate_left; (focus (intro ρ w hS hF K hK; (simp only [Act.put, List.setIfInBounds_toArray, List.set_cons_zero, List.set_cons_succ] at hK); go_simp; go_at_call 17; refine (gM _).mono ?_; rintro e w6 ⟨rfl, hb6⟩; have hS' := keepS _ (below_next hb6 hS.1); have hE' := hb6; exact hK _ hS' hE')); (simp only [Act.put, List.setIfInBounds_toArray, List.set_cons_zero, List.set_cons_succ]))
  (refine settle_known (FX (Sr.eput t.data.toList (.name n.data.toList) eb)) (by rfl) (fun _ => by rfl)  ?_ ?_; (focus (intro ρ w hS hF K hK; (simp only [Act.put, List.setIfInBounds_toArray, List.set_cons_zero, List.set_cons_succ] at hK); go_simp; (refine (gP _ hS.1).mono ?_; rintro e w' ⟨v, rfl, hF', hb'⟩; exact hK _ _ hF' (keepS _ (below_next hb' hS.1)) hb'))); (simp only [Act.put, List.setIfInBounds_toArray, List.set_cons_zero, List.set_cons_succ]))
  (refine settle_known (FSto n (Sr.eput t.data.toList (.name n.data.toList) eb)) (by rfl) (fun _ => by rfl)  ?_ ?_; (focus (intro ρ w hS hF K hK; (simp only [Act.put, List.setIfInBounds_toArray, List.set_cons_zero, List.set_cons_succ] at hK); go_simp; (obtain ⟨c1, e15, r15⟩ := hF.1 (by rfl); obtain ⟨y0, y1, y2, Y3, y4, y5, rfl, -, -⟩ := XRN.form r15; unfold xcells at e15; simp only [e15]; go_simp; have hK2 := hK _ _ ⟨y0, y1, y2, Y3, y4, y5, rfl, r15⟩ hS (Below.refl _ _); simp only [e15] at hK2; exact hK2))); (simp only [Act.put, List.setIfInBounds_toArray, List.set_cons_zero, List.set_cons_succ]))
  (refine settle_known (FPs (Sr.turnP ea n.data.toList t.data.toList eb)) (by rfl) (fun _ => by rfl)  ?_ ?_; (focus (intro ρ w hS hF K hK; (simp only [Act.put, List.setIfInBounds_toArray, List.set_cons_zero, List.set_cons_succ] at hK); go_simp; (obtain ⟨y0, y1, y2, Y3, y4, y5, e16, r16⟩ := hF.1 (by rfl); simp only [e16]; go_simp; have hK2 := hK _ _ ⟨_, _, _, rfl, gS _ _ _ _ _ _ _ hS.1 r16⟩ (keepS _ (below_alloc hS.1 _)) (below_alloc (Below.refl _ _) _); simp only [e16] at hK2; exact hK2))); (simp only [Act.put, List.setIfInBounds_toArray, List.set_cons_zero, List.set_cons_succ]))
  (refine settle_known (FPs (Sr.turnP ea n.data.toList t.data.toList eb)) (by rfl) (fun _ => by rfl)  ?_ ?_; (focus (intro ρ w hS hF K hK; (simp only [Act.put, List.setIfInBounds_toArray, List.set_cons_zero, List.set_cons_succ] at hK); go_simp; (exact hK _ _ (hF.1 (by rfl)) hS (Below.refl _ _)))); (simp only [Act.put, List.setIfInBounds_toArray, List.set_cons_zero, List.set_cons_succ]))
  refine settle_nil ?_
  intro ρ w4 hS hF
  obtain ⟨D, m, c, e5, h5⟩ := hF 5 (FPs (Sr.turnP ea n.data.toList t.data.toList eb)) (by repeat (first | exact List.mem_cons_self | apply List.mem_cons_of_mem))
  have HE := Lib.hid (And.intro h5 hS.1)
  clear hF hS hS0 keepS gP gM gS
  dsimp only
  rw [e5]
  clear e5 h5
  go_wp2
  go_ret
  exact ⟨_, _, _, rfl, HE.out.1, HE.out.2⟩
theorem mn_at {l : List ByteArray} {k : Nat} {x : ByteArray} (h : l[k]? = some x) : l.take (k + 1) = l.take k ++ [x] := by
  obtain ⟨h', rfl⟩ := List.getElem?_eq_some_iff.1 h
  exact List.take_succ_eq_append_getElem h'

set_option maxHeartbeats 4000000 in
theorem scopeTurn_walk (w : World) (ea eb : Ex.X) (name other : ByteArray) (ca cb : List Value) (xa : XR w.heap.size w ca ea) (xb : XR w.heap.size w cb eb) (hs : ea.leaves + eb.leaves ≤ 68719476736) (hP : Pow w.heap.size w) :
    Calls Tryd.prog 6 #[.agg ca.toArray, .string name, .string other, .agg cb.toArray] w fun e w' => e = .returned (.bool true) ∧ Below w.heap.size w w' := by
  obtain ⟨a0, a1, a2, A3, a4, a5, rfl, -, -⟩ := xa.form
  obtain ⟨b0, b1, b2, B3, b4, b5, rfl, -, -⟩ := xb.form
  obtain ⟨qa, qn, qb, hz, hbw⟩ := allocs3 w (xcells a0 a1 a2 A3 a4 a5) [.string name] (xcells b0 b1 b2 B3 b4 b5) 33 9 33
  obtain ⟨q, hq⟩ : ∃ q, q = w.heap.size := ⟨_, rfl⟩
  rw [← hq] at qa qn qb
  have HXa := Lib.hid xa
  have HXb := Lib.hid xb
  have HP := Lib.hid hP
  unfold xcells at qa qn qb hz hbw ⊢
  clear xa xb hP hz
  go_enter Tryd.func6, Tryd.ntmps6
  go_wp2_with fail
  rw [← hq]
  have HQ := Lib.hid hq
  clear hq
  generalize (((w.alloc (.cells #[.int .i64 a0, .int .i64 a1, .string a2, .slice A3 a4 a5] 33)).alloc (.cells #[.string name] 9)).alloc (.cells #[.int .i64 b0, .int .i64 b1, .string b2, .slice B3 b4 b5] 33)) = W0 at qa qn qb hbw ⊢
  refine (alive12_any W0 w.heap.size hbw.size (HP.out.later hbw)).mono ?_
  rintro e w1 ⟨rfl, hb1⟩
  have hbw1 := below_next hb1 hbw
  have ra := qa.below hb1
  have rn := qn.below hb1
  have rb := qb.below hb1
  clear qa qn qb hb1 hbw
  have hen := enames_any eb w1 (xcells b0 b1 b2 B3 b4 b5) ((HXb.out.later hbw1).up hbw1.size) (by omega)
  have y0 := (rb.cell 0).trans rfl
  have y1 := (rb.cell 1).trans rfl
  have y2 := (rb.cell 2).trans rfl
  have y3 := (rb.cell 3).trans rfl
  simp only [List.getElem?_cons_zero, List.getElem?_cons_succ] at y0 y1 y2 y3
  unfold xcells at hen
  go_wp2_with fail
  refine hen.mono ?_
  rintro e w3 ⟨vf, rfl, hf, hb3⟩
  have hbw3 := below_next hb3 hbw1
  have sa := ra.below hb3
  have sn := rn.below hb3
  have sb := rb.below hb3
  have hml := Sr.mn_length eb
  obtain ⟨fs, hfs⟩ : ∃ fs, fs = Sr.mn eb := ⟨_, rfl⟩
  rw [← hfs] at hf hml
  have HFS := Lib.hid hfs
  clear hen hfs y0 y1 y2 y3 ra rn rb hb3 hbw1
  obtain ⟨Vf, cf, rfl, hcf1, hcf2, -, hcl⟩ := hf
  unfold maxLen at hcf2
  go_wp2_with fail
  go_loopw [18] (fun i wr => ∃ k : Nat, k ≤ fs.length ∧ i = .int .i64 (k : Int) ∧ (∃ m, wr = w3.drewN m) ∧ ∀ s ∈ fs.take k, s = other → s = name) (fun i _ => fs.length - (intOf i).toNat)
  case atStart => exact ⟨0, Nat.zero_le _, rfl, ⟨0, rfl⟩, by simp⟩
  case round =>
    obtain ⟨k, hk, rfl, ⟨m, rfl⟩, hno⟩ := hrel
    have n0 : (w3.drewN m).cell? ⟨q + 1, 0, none⟩ = some (.string name) := (sn.cell 0).trans rfl
    by_cases hlk : k < fs.length
    · obtain ⟨x, hx⟩ : ∃ x, fs[k]? = some x := ⟨_, List.getElem?_eq_getElem hlk⟩
      obtain ⟨b, o, rfl, hbl, hcell⟩ := hcl.str hx
      have HX := Lib.hid (And.intro (mn_at hx) hno)
      have hbE := below_drewN hbw3 m
      clear hno hx hcl sa sb sn
      rcases h1 : (x.toList == other.toList) with _ | _
      · go_wp2_with fail
        go_roundw
        case rel => exact ⟨k + 1, by omega, by go_num, ⟨_, rfl⟩, by
          rw [HX.out.1]
          intro s hs
          rcases List.mem_append.1 hs with h | h
          · exact HX.out.2 s h
          · rw [List.mem_singleton.1 h]
            intro e
            rw [e] at h1
            simp at h1⟩
        case measure => simp [intOf]; omega
      · rcases h2 : (x.toList == name.toList) with _ | _
        · go_wp2_with fail
          go_ret
          exact ⟨rfl, hbE⟩
        · go_wp2_with fail
          go_roundw
          case rel => exact ⟨k + 1, by omega, by go_num, ⟨_, rfl⟩, by
            rw [HX.out.1]
            intro s hs
            rcases List.mem_append.1 hs with h | h
            · exact HX.out.2 s h
            · rw [List.mem_singleton.1 h]
              intro _
              exact Ex.bytes_eq h2⟩
          case measure => simp [intOf]; omega
    · obtain rfl : k = fs.length := by omega
      rw [List.take_length] at hno
      have hb4 := below_drewN hbw3 m
      have hkd : Below w3.heap.size w3 (w3.drewN m) := below_drewN (Below.refl _ _) m
      have ta := sa.below hkd
      have tn := sn.below hkd
      have tb := sb.below hkd
      have hocc : Ex.occ other.data.toList eb = true → other.data.toList = name.data.toList := fun h => by
        have h1 := (Sr.mem_mn other.data.toList eb).2 h
        rw [Ex.ba_data, ← HFS.out] at h1
        rw [hno other h1 rfl]
      have HO := Lib.hid (Sr.turn_law ea name.data.toList other.data.toList eb hocc)
      have gT : ∀ w' n, Below (w3.drewN m).heap.size (w3.drewN m) w' → Calls Tryd.prog 16 #[.string n, .pointer (some ⟨q, 0, none⟩), .pointer (some ⟨q + 1 + 1, 0, none⟩), .pointer (some ⟨q + 1, 0, none⟩)] w' fun e w' => ∃ A k c, e = .returned (.slice A k c) ∧ IsP w' (.slice A k c) (Sr.turnP ea n.data.toList name.data.toList eb) ∧ Below _ _ w' := fun w' n h => by
        have hb' := below_next h hb4
        exact turn1_any ea eb n name w' q (q + 1 + 1) (q + 1) a0 a1 a2 A3 a4 a5 b0 b1 b2 B3 b4 b5 (ta.below h) (tb.below h) (tn.below h) ((HXa.out.later hb').up hb'.size) ((HXb.out.later hb').up hb'.size)
      have hsz : ∀ n, (Sr.turnP ea n name.data.toList eb).size ≤ 274877906944 := fun n => by
        have h1 := Sr.eput_leaves name.data.toList n eb
        simp only [Sr.turnP, St.P.size, Ex.X.leaves]
        omega
      have HZ := Lib.hid hsz
      clear hno hcl sa sb sn ta tb tn hocc hsz hkd hbw3
      generalize w3.drewN m = W at hb4 gT n0 ⊢
      have gT1 := gT W name (Below.refl _ _)
      go_wp2_with fail
      refine gT1.mono ?_
      rintro e w5 ⟨A5, k5, c5, rfl, hp5, hb5⟩
      have hbW5 := hb5
      have hb5' := below_next hb5 hb4
      have hre := isP_rename hp5 hb5'.size (HP.out.later hb5') (HZ.out _)
      clear gT1 hb5
      go_wp2_with fail
      refine hre.mono ?_
      rintro e w6 ⟨v6, rfl, hr6, hb6⟩
      obtain ⟨A6, k6, c6, rfl, -⟩ := id hr6
      have hbW6 := below_next hb6 hbW5
      have gT2 := gT w6 other hbW6
      have hb6' := below_next hbW6 hb4
      have HR := Lib.hid hr6
      clear hre hr6 hp5 hb6 hbW5 hb5' gT
      go_wp2_with fail
      refine gT2.mono ?_
      rintro e w7 ⟨A7, k7, c7, rfl, hp7, hb7⟩
      have hb7' := below_next hb7 hb6'
      have hre := isP_rename hp7 hb7'.size (HP.out.later hb7') (HZ.out _)
      clear gT2
      go_wp2_with fail
      refine hre.mono ?_
      rintro e w8 ⟨v8, rfl, hr8, hb8⟩
      obtain ⟨A8, k8, c8, rfl, -⟩ := id hr8
      have hb8' := below_next hb8 hb7'
      have hr6 := (HR.out.step hb7).step hb8
      rw [← HO.out] at hr8
      have hsm := sames_call _ w8 _ _ hr6 hr8
      clear hre hp7 hb7 hb8 hr6 hr8
      go_wp2_with fail
      refine hsm.mono ?_
      rintro e w9 ⟨rfl, hb9⟩
      have HE := Lib.hid (below_next hb9 hb8')
      clear hsm hb9 hb8' hb7' hb6' hb4 n0
      go_wp2_with fail
      go_ret
      exact ⟨rfl, HE.out⟩
end Go.Proofs.YtdhjfckckghicaaDoor


namespace Go.Proofs.YtdhjfckckghicaaDoor
set_option linter.unusedVariables false
set_option linter.unusedSimpArgs false
set_option maxRecDepth 100000
open Go.ChangeShapes Go.WideShapes Go.ChangeAt Go.RowKit Go.Deep

section
variable {H : Type} {enc : TypeId × Value → H} {P : Program} {w : World}

theorem open_items {α : Type} (f : α → List Value) (n : Nat) (hf : ∀ a, (f a).length = n) (hn0 : 0 < n) (good : α → Prop) {t e : TypeId} {v : Value} {d : DataW H} {ps : List MemPlace} (ht : P.underlying t = some (.slice e)) (hC : P.cellsOf e = n)
    (each : ∀ (fuel : Nat) (cs : List Value) (x : DataW H × List MemPlace), DataW.trod enc P w 0 (fun _ => true) true fuel e cs = some x → ∃ a, cs = f a ∧ good a)
    (hv : ∃ a len cap, v = .slice a len cap) (h : DataW.Trod enc P w 0 (fun _ => true) true t v d ps) (hlt : ∀ x ∈ ps, x.block < w.heap.size) :
    ∃ l : List α, (∀ a ∈ l, good a) ∧ SlV w n v l.length (l.flatMap f) ∧ ((d = .nil ∧ l = []) ∨ ∃ (el sp : List (DataW H)), d = .slice el sp ∧ el.length = l.length) := by
  obtain ⟨a0, len, cap, rfl⟩ := hv
  obtain ⟨fuel, hfu⟩ := h
  rcases open_slice ht hfu with ⟨hcs, hx⟩ | ⟨a, len', cap', m, k, D, Pl, hcs, _, hl, hm, hmm, hx, hi⟩
  · simp [Value.cells] at hcs
    obtain ⟨rfl, rfl, rfl⟩ := hcs
    simp only [Prod.mk.injEq] at hx
    exact ⟨[], by simp, SlV.nil _ _, .inl ⟨hx.1, rfl⟩⟩
  · simp [Value.cells] at hcs
    obtain ⟨rfl, rfl, rfl⟩ := hcs
    simp only [Prod.mk.injEq] at hx
    simp only [if_true] at hmm
    rw [hC] at hi hx
    have each' : ∀ i, i < len → ∃ r : α, good r ∧ w.cells? 0 (a.add (i * n)) n = some (f r) := by
      intro i hil
      obtain ⟨cs', hc, htr⟩ := hi i (by omega)
      obtain ⟨r, hcr, hr⟩ := each _ _ _ htr
      exact ⟨r, hr, by rw [hc, hcr]⟩
    by_cases h0 : len = 0
    · subst h0
      exact ⟨[], by simp, ⟨some a, cap, by simp, hl, hm, by simp, Cells.nil _ _ _⟩, .inr ⟨_, _, hx.1, by simp⟩⟩
    obtain ⟨r0, -, -⟩ := each' 0 (by omega)
    haveI : Inhabited α := ⟨r0⟩
    obtain ⟨g, hgg⟩ := choose_lt each'
    have hgood : ∀ r ∈ (List.range len).map g, good r := by
      intro r hr
      obtain ⟨i, hi', rfl⟩ := List.mem_map.1 hr
      exact (hgg i (by simpa using hi')).1
    have hflat : (((List.range len).map g).flatMap f).length = len * n := by rw [flat_length f n hf]; simp
    refine ⟨(List.range len).map g, hgood, ⟨some a, cap, by simp, by simpa using hl, hm, by simpa using hflat, ?_⟩, .inr ⟨_, _, hx.1, by simp⟩⟩
    obtain ⟨b, off, spot⟩ := a
    have hcell : ∀ i, i < len → ∀ j u, (f (g i))[j]? = some u → w.cell? ((⟨b, off, spot⟩ : Addr).add (i * n + j)) = some u := by
      intro i hil j u hu
      have hj : j < n := by
        have := (List.getElem?_eq_some_iff.1 hu).1
        rwa [hf] at this
      obtain ⟨_, _, hat⟩ := World.cells?_some (hgg i hil).2
      have := hat j hj
      rw [Go.Deep.add_add] at this
      rw [this, hu]
    have hspot : spot = none := by
      have hex : ∃ u, (f (g 0))[0]? = some u := ⟨_, List.getElem?_eq_getElem (by rw [hf]; exact hn0)⟩
      obtain ⟨u, hu⟩ := hex
      have := hcell 0 (by omega) 0 u hu
      simpa [Addr.add] using World.cell?_spot this
    subst hspot
    refine ⟨b, off, fun _ => ⟨rfl, hlt (.cell b off) (by
      rw [hx.2]
      refine List.mem_append_left _ (MemPlace.mem_row.2 ⟨0, ?_, by simp⟩)
      exact Nat.mul_pos (by omega) hn0)⟩, fun j u hu => ?_⟩
    have hjl : j < len * n := by
      have := (List.getElem?_eq_some_iff.1 hu).1
      omega
    have hq : j / n < len := Nat.div_lt_of_lt_mul (by rw [Nat.mul_comm]; exact hjl)
    have hr : j % n < n := Nat.mod_lt _ hn0
    have hj : j = j / n * n + j % n := by have := Nat.div_add_mod j n; rw [Nat.mul_comm] at this; omega
    have hget : ((List.range len).map g)[j / n]? = some (g (j / n)) := by simp [hq]
    rw [hj] at hu ⊢
    rw [flat_get f n hf _ _ _ _ hget hr] at hu
    have := hcell (j / n) hq (j % n) u hu
    rw [Addr.add_lit] at this
    exact this
end
end Go.Proofs.YtdhjfckckghicaaDoor


namespace Go.Proofs.YtdhjfckckghicaaDoor
set_option linter.unusedVariables false
set_option linter.unusedSimpArgs false
set_option maxRecDepth 100000
open Go.ChangeShapes Go.WideShapes Go.ChangeAt Go.RowKit

theorem open_arg_expr {H : Type} {enc : TypeId × Value → H} {W : World} {base : Nat} {v : Value} {d : DataW H} {p : List MemPlace} (hv : Value.okWide Tryd.prog W .any base 33 v) (h : DataW.Trod enc Tryd.prog W 0 (fun _ => true) true 33 v d p) (hlt : ∀ x ∈ p, x.block < W.heap.size) :
    ∃ (cs : List Value) (t : Ex.X), v = .agg cs.toArray ∧ XR W.heap.size W cs t ∧ t.leaves ≤ Rows.uptoBulk d := by
  have hT : Tryd.prog.underlying 33 = some (.struct (fieldsOf Tryd.prog 33)) := by kernel_rfl
  obtain ⟨cs, rfl, hcs⟩ := okWide_struct hT hv
  obtain ⟨fuel, hf⟩ := h
  obtain ⟨t, h1, h2⟩ := open_expr fuel cs.toList (d, p) (by simpa [Value.cells] using hf) hlt
  exact ⟨cs.toList, t, by simp, h1, h2⟩

end Go.Proofs.YtdhjfckckghicaaDoor
