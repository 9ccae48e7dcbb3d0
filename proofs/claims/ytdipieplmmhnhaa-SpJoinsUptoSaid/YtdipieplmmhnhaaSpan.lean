/-
  Package span, walked.
-/
import Derived.Test.YtdipieplmmhnhaaSpLv
import Derived.Test.YtdipieplmmhnhaaSettle2
namespace Go.Proofs.Ytdipieplmmhnhaa
set_option linter.unusedVariables false
set_option linter.unusedSimpArgs false
open Go.RowKit

theorem plus_any (a b : Nat) (w : World) (h : a + b ≤ 8388608) : Calls Try.prog 31 #[.int .i64 a, .int .i64 b] w fun e w' => e = .returned (.int .i64 ((a + b : Nat) : Int)) ∧ w = w' := by
  go_enter Try.func31, Try.ntmps31
  go_wp2
  go_ret
  exact ⟨ret_int (by omega), rfl⟩
theorem most_any (a b : Nat) (w : World) : Calls Try.prog 32 #[.int .i64 a, .int .i64 b] w fun e w' => e = .returned (.int .i64 ((max a b : Nat) : Int)) ∧ w = w' := by
  go_enter Try.func32, Try.ntmps32
  go_wp2
  go_ret
  exact ⟨ret_int (by omega), rfl⟩

def Sp.val (m : Bool) (t : Sp.T) : Nat := if m then t.span else t.width
theorem Sp.val_le (m : Bool) (t : Sp.T) : Sp.val m t ≤ t.size := by cases m; exact t.width_le; exact t.span_le
def seqF (m : Bool) : Value := .func (Fn.func (if m then 31 else 32)) #[] #[]
def parF (m : Bool) : Value := .func (Fn.func (if m then 32 else 31)) #[] #[]

set_option maxHeartbeats 4000000 in
theorem sum_any (m : Bool) : ∀ (t : Sp.T) (B : Nat) (w : World) (cs : List Value), TmR B w cs t → B ≤ w.heap.size → t.size ≤ 4194304 →
    Calls Try.prog 30 #[.agg cs.toArray, seqF m, parF m] w fun e w' => e = .returned (.int .i64 (Sp.val m t : Nat)) ∧ Below w.heap.size w w' := by
  intro t
  induction t with
  | nil =>
    intro B w cs hT hB hn
    have hv : Sp.val m .nil = 0 := by cases m <;> rfl
    rw [hv]
    clear hv hn
    cases hT with
    | nil k c b l A n cap hm hcap hk1 hk2 =>
    unfold tcells
    generalize seqF m = F1
    generalize parF m = F2
    unfold maxLen at hcap
    have e1 : (k == 1) = false := by simpa using hk1
    have hb : Below w.heap.size w (w.alloc (.cells #[.int .i64 k, .int .i64 c, .bool b, .int .i64 l, .slice A n cap] 26)) := below_alloc (Below.refl _ _) _
    by_cases k2 : k = 2
    · subst k2
      have hm2 : ¬ 2 ≤ n := fun h => hk2 ⟨.inl rfl, h⟩
      clear hk2 hk1
      go_enter Try.func30, Try.ntmps30
      go_wp2
      go_ret
      exact ⟨rfl, hb⟩
    · by_cases k3 : k = 3
      · subst k3
        have hm2 : ¬ 2 ≤ n := fun h => hk2 ⟨.inr rfl, h⟩
        clear hk2 hk1
        go_enter Try.func30, Try.ntmps30
        go_wp2
        go_ret
        exact ⟨rfl, hb⟩
      · have e2 : (k != 2) = true := by simpa using k2
        have e3 : (k != 3) = true := by simpa using k3
        clear hk2 hk1
        go_enter Try.func30, Try.ntmps30
        go_wp2
        go_ret
        exact ⟨rfl, hb⟩
  | one c b l =>
    intro B w cs hT hB hn
    have hv : Sp.val m (.one c b l) = 1 := by cases m <;> rfl
    rw [hv]
    clear hv hn
    cases hT with
    | one c b l A n cap hm hcap =>
    unfold tcells
    generalize seqF m = F1
    generalize parF m = F2
    unfold maxLen at hcap
    have hb : Below w.heap.size w (w.alloc (.cells #[.int .i64 1, .int .i64 c, .bool b, .int .i64 l, .slice A n cap] 26)) := below_alloc (Below.refl _ _) _
    go_enter Try.func30, Try.ntmps30
    go_wp2
    go_ret
    exact ⟨rfl, hb⟩
  | two par t0 t1 ih0 ih1 =>
    intro B w cs hT hB hn
    rw [Sp.T.size_two] at hn
    cases hT with
    | two par c b l g o n cap cs0 cs1 t0 t1 hm hcap h2 hg h5 h6 r0 r1 =>
    have hwB : w.heap.size ≤ (w.alloc (.cells (tcells (if par then 3 else 2) c b l (some ⟨g, o, none⟩) n cap).toArray 26)).heap.size := by simp
    have hP := Blk.new w 26 (tcells (if par then 3 else 2) c b l (some ⟨g, o, none⟩) n cap)
    have hbw : Below w.heap.size w (w.alloc (.cells (tcells (if par then 3 else 2) c b l (some ⟨g, o, none⟩) n cap).toArray 26)) := below_alloc (Below.refl _ _) _
    have q0 := r0.alloc hB (.cells (tcells (if par then 3 else 2) c b l (some ⟨g, o, none⟩) n cap).toArray 26)
    have q1 := r1.alloc hB (.cells (tcells (if par then 3 else 2) c b l (some ⟨g, o, none⟩) n cap).toArray 26)
    have hgw : g < w.heap.size := by omega
    have hc5 := fun j u hu => (World.cell?_alloc_lt w (.cells (tcells (if par then 3 else 2) c b l (some ⟨g, o, none⟩) n cap).toArray 26) ⟨g, o + j, none⟩ hgw).trans (h5 j u hu)
    have hc6 := fun j u hu => (World.cell?_alloc_lt w (.cells (tcells (if par then 3 else 2) c b l (some ⟨g, o, none⟩) n cap).toArray 26) ⟨g, o + 5 + j, none⟩ hgw).trans (h6 j u hu)
    obtain ⟨a0, a1, a2, a3, A4, a5, a6, rfl, -, -⟩ := r0.form
    obtain ⟨b0, b1, b2, b3, B4, b5, b6, rfl, -, -⟩ := r1.form
    clear h5 h6 r0 r1
    have v0 := Sp.val_le m t0
    have v1 := Sp.val_le m t1
    have hval : Sp.val m (.two par t0 t1) = if par = m then max (Sp.val m t0) (Sp.val m t1) else Sp.val m t0 + Sp.val m t1 := by
      cases m <;> cases par <;> simp [Sp.val, Sp.T.span, Sp.T.width]
    have HV := Lib.hid hval
    have hr0 := fun w' (h : TmR B w' (tcells a0 a1 a2 a3 A4 a5 a6) t0) (hb : B ≤ w'.heap.size) => ih0 B w' _ h hb (by omega)
    have hr1 := fun w' (h : TmR B w' (tcells b0 b1 b2 b3 B4 b5 b6) t1) (hb : B ≤ w'.heap.size) => ih1 B w' _ h hb (by omega)
    obtain ⟨z0, hz0⟩ : ∃ z, z = Sp.val m t0 := ⟨_, rfl⟩
    obtain ⟨z1, hz1⟩ : ∃ z, z = Sp.val m t1 := ⟨_, rfl⟩
    rw [← hz0] at hr0 v0 HV
    rw [← hz1] at hr1 v1 HV
    clear hval hz0 hz1 ih0 ih1
    have x0 := hc5 0 _ rfl
    have x1 := hc5 1 _ rfl
    have x2 := hc5 2 _ rfl
    have x3 := hc5 3 _ rfl
    have x4 := hc5 4 _ rfl
    have y0 := hc6 0 _ rfl
    have y1 := hc6 1 _ rfl
    have y2 := hc6 2 _ rfl
    have y3 := hc6 3 _ rfl
    have y4 := hc6 4 _ rfl
    rw [Nat.add_zero] at x0 y0
    clear hc5 hc6
    unfold maxLen at hcap
    have m0 : (0 : Int) < (n : Int) := by omega
    have m1 : (1 : Int) < (n : Int) := by omega
    have m2 : 0 < n := by omega
    have m3 : 1 < n := by omega
    have hgq : g < (w.alloc (.cells (tcells (if par then 3 else 2) c b l (some ⟨g, o, none⟩) n cap).toArray 26)).heap.size := by simp; omega
    have hB1 : B ≤ (w.alloc (.cells (tcells (if par then 3 else 2) c b l (some ⟨g, o, none⟩) n cap).toArray 26)).heap.size := by simp; omega
    have hfin : ∀ (p m : Bool) (z0 z1 : Nat) (w : World), z0 + z1 ≤ 8388608 → p = m → Calls Try.prog 32 #[.int .i64 z0, .int .i64 z1] w fun e w' => e = .returned (.int .i64 ((if p = m then max z0 z1 else z0 + z1 : Nat) : Int)) ∧ w = w' := fun p m z0 z1 w hz h => by
      rw [if_pos h]; exact most_any z0 z1 w
    have hfin2 : ∀ (p m : Bool) (z0 z1 : Nat) (w : World), z0 + z1 ≤ 8388608 → ¬ p = m → Calls Try.prog 31 #[.int .i64 z0, .int .i64 z1] w fun e w' => e = .returned (.int .i64 ((if p = m then max z0 z1 else z0 + z1 : Nat) : Int)) ∧ w = w' := fun p m z0 z1 w hz h => by
      rw [if_neg h]; exact plus_any z0 z1 w hz
    obtain ⟨F1, hF1⟩ : ∃ F, F = seqF m := ⟨_, rfl⟩
    obtain ⟨F2, hF2⟩ : ∃ F, F = parF m := ⟨_, rfl⟩
    rw [← hF1, ← hF2] at hr0 hr1 ⊢
    rw [HV.out]
    obtain ⟨Z, hZ⟩ : ∃ Z, Z = (if par = m then max z0 z1 else z0 + z1) := ⟨_, rfl⟩
    rw [← hZ]
    have HZ := Lib.hid hZ
    have HF1 := Lib.hid hF1
    have HF2 := Lib.hid hF2
    unfold tcells at hr0 hr1 hP hbw q0 q1 x0 x1 x2 x3 x4 y0 y1 y2 y3 y4 hgq hB1 ⊢
    clear hZ hF1 hF2 HV hwB hB
    rcases par with _ | _
    · simp only [Bool.false_eq_true, if_false] at *
      go_enter Try.func30, Try.ntmps30
      go_wp2_with fail
      have c4 := hP.cell 4
      have hql := hP.lt
      simp only [List.getElem?_cons_zero, List.getElem?_cons_succ] at c4
      have c4' : (w.alloc (.cells #[.int .i64 2, .int .i64 c, .bool b, .int .i64 l, .slice (some ⟨g, o, none⟩) n cap] 26)).cell? ⟨w.heap.size, 4, none⟩ = some (.slice (some ⟨g, o, none⟩) n cap) := c4
      have hql' : w.heap.size < (w.alloc (.cells #[.int .i64 2, .int .i64 c, .bool b, .int .i64 l, .slice (some ⟨g, o, none⟩) n cap] 26)).heap.size := hql
      clear c4 hP hql
      generalize (w.alloc (.cells #[.int .i64 2, .int .i64 c, .bool b, .int .i64 l, .slice (some ⟨g, o, none⟩) n cap] 26)) = w1 at hbw q0 q1 x0 x1 x2 x3 x4 y0 y1 y2 y3 y4 hgq hB1 c4' hql' ⊢
      obtain ⟨q, hq⟩ : ∃ q, q = w.heap.size := ⟨_, rfl⟩
      rw [← hq] at c4' hql' ⊢
      clear hq
      have keepS : ∀ w', Below w1.heap.size w1 w' → (Below w1.heap.size w1 w' ∧ w'.cell? ⟨q, 4, none⟩ = some (.slice (some ⟨g, o, none⟩) n cap) ∧ w'.cell? ⟨g, o, none⟩ = some (.int .i64 a0) ∧ w'.cell? ⟨g, o + 1, none⟩ = some (.int .i64 a1) ∧ w'.cell? ⟨g, o + 2, none⟩ = some (.bool a2) ∧ w'.cell? ⟨g, o + 3, none⟩ = some (.int .i64 a3) ∧ w'.cell? ⟨g, o + 4, none⟩ = some (.slice A4 a5 a6) ∧ w'.cell? ⟨g, o + 5, none⟩ = some (.int .i64 b0) ∧ w'.cell? ⟨g, o + 5 + 1, none⟩ = some (.int .i64 b1) ∧ w'.cell? ⟨g, o + 5 + 2, none⟩ = some (.bool b2) ∧ w'.cell? ⟨g, o + 5 + 3, none⟩ = some (.int .i64 b3) ∧ w'.cell? ⟨g, o + 5 + 4, none⟩ = some (.slice B4 b5 b6)) := fun w' hb =>
        ⟨hb, (hb.cell hql').trans c4', (hb.cell hgq).trans x0, (hb.cell hgq).trans x1, (hb.cell hgq).trans x2, (hb.cell hgq).trans x3, (hb.cell hgq).trans x4, (hb.cell hgq).trans y0, (hb.cell hgq).trans y1, (hb.cell hgq).trans y2, (hb.cell hgq).trans y3, (hb.cell hgq).trans y4⟩
      have hrec : ∀ w' (x : List Value) (z : Nat), Below w1.heap.size w1 w' → (x = [.int .i64 a0, .int .i64 a1, .bool a2, .int .i64 a3, .slice A4 a5 a6] ∧ z = z0) ∨ (x = [.int .i64 b0, .int .i64 b1, .bool b2, .int .i64 b3, .slice B4 b5 b6] ∧ z = z1) → Calls Try.prog 30 #[.agg x.toArray, F1, F2] w' fun e w'' => e = .returned (.int .i64 (z : Nat)) ∧ (Below w1.heap.size w1 w'' ∧ w''.cell? ⟨q, 4, none⟩ = some (.slice (some ⟨g, o, none⟩) n cap) ∧ w''.cell? ⟨g, o, none⟩ = some (.int .i64 a0) ∧ w''.cell? ⟨g, o + 1, none⟩ = some (.int .i64 a1) ∧ w''.cell? ⟨g, o + 2, none⟩ = some (.bool a2) ∧ w''.cell? ⟨g, o + 3, none⟩ = some (.int .i64 a3) ∧ w''.cell? ⟨g, o + 4, none⟩ = some (.slice A4 a5 a6) ∧ w''.cell? ⟨g, o + 5, none⟩ = some (.int .i64 b0) ∧ w''.cell? ⟨g, o + 5 + 1, none⟩ = some (.int .i64 b1) ∧ w''.cell? ⟨g, o + 5 + 2, none⟩ = some (.bool b2) ∧ w''.cell? ⟨g, o + 5 + 3, none⟩ = some (.int .i64 b3) ∧ w''.cell? ⟨g, o + 5 + 4, none⟩ = some (.slice B4 b5 b6)) := fun w' x z hb hx => by
        rcases hx with ⟨rfl, rfl⟩ | ⟨rfl, rfl⟩
        · exact (hr0 w' (q0.later (hb.mono hB1)) (Nat.le_trans hB1 hb.size)).mono fun e w'' ⟨h1, h2⟩ => ⟨h1, keepS _ (below_next h2 hb)⟩
        · exact (hr1 w' (q1.later (hb.mono hB1)) (Nat.le_trans hB1 hb.size)).mono fun e w'' ⟨h1, h2⟩ => ⟨h1, keepS _ (below_next h2 hb)⟩
      have hd := keepS _ (below_drew (Below.refl _ _))
      clear x0 x1 x2 x3 x4 y0 y1 y2 y3 y4 c4' hr0 hr1 q0 q1
      refine wp_walk (by kernel_rfl) (by kernel_rfl) (fun _ _ => True) (fun w' => Below w1.heap.size w1 w' ∧ w'.cell? ⟨q, 4, none⟩ = some (.slice (some ⟨g, o, none⟩) n cap) ∧ w'.cell? ⟨g, o, none⟩ = some (.int .i64 a0) ∧ w'.cell? ⟨g, o + 1, none⟩ = some (.int .i64 a1) ∧ w'.cell? ⟨g, o + 2, none⟩ = some (.bool a2) ∧ w'.cell? ⟨g, o + 3, none⟩ = some (.int .i64 a3) ∧ w'.cell? ⟨g, o + 4, none⟩ = some (.slice A4 a5 a6) ∧ w'.cell? ⟨g, o + 5, none⟩ = some (.int .i64 b0) ∧ w'.cell? ⟨g, o + 5 + 1, none⟩ = some (.int .i64 b1) ∧ w'.cell? ⟨g, o + 5 + 2, none⟩ = some (.bool b2) ∧ w'.cell? ⟨g, o + 5 + 3, none⟩ = some (.int .i64 b3) ∧ w'.cell? ⟨g, o + 5 + 4, none⟩ = some (.slice B4 b5 b6)) hd ?_
      repeat (first | (refine settle_skip (fun _ => by rfl) ?_; (simp only [Act.put, List.setIfInBounds_toArray, List.set_cons_zero, List.set_cons_succ])) | (refine' settle_run (fun _ _ => trivial) (fun _ => by rfl) ?_ ?_; rotate_left; (focus (intro ρ w hS hF; (try dsimp only at hS); go_split_ands; go_simp; try with_reducible rfl)); (simp only [Act.put, List.setIfInBounds_toArray, List.set_cons_zero, List.set_cons_succ])) | (refine' settle_step (fun _ => by rfl) ?_ ?_; rotate_left; (focus (intro ρ w hS hF K hK; (simp only [Act.put, List.setIfInBounds_toArray, List.set_cons_zero, List.set_cons_succ] at hK); go_simp; first | (go_at_call 30; refine (hrec _ _ _ hS.1 (by first | exact .inl ⟨rfl, rfl⟩ | exact .inr ⟨rfl, rfl⟩)).mono ?_; rintro e w' ⟨rfl, hS'⟩; have hE' := True.intro; exact hK _ hS' hE'))); (simp only [Act.put, List.setIfInBounds_toArray, List.set_cons_zero, List.set_cons_succ])))
      refine settle_nil ?_
      intro ρ wS hS _
      have hbS := hS.1
      clear hrec keepS hd hS
      obtain rfl := HF1.out
      obtain rfl := HF2.out
      unfold seqF parF
      rcases m with _ | _
      · simp only [Bool.false_eq_true, if_false]
        go_wp2_with fail
        refine (hfin false false z0 z1 _ (by omega) rfl).mono ?_
        rintro e w2 ⟨rfl, rfl⟩
        go_wp2
        go_ret
        exact ⟨by rw [HZ.out]; rfl, below_self hbw hbS⟩
      · simp only [if_true]
        go_wp2_with fail
        refine (hfin2 false true z0 z1 _ (by omega) (by decide)).mono ?_
        rintro e w2 ⟨rfl, rfl⟩
        go_wp2
        go_ret
        exact ⟨by rw [HZ.out]; rfl, below_self hbw hbS⟩
    · simp only [if_true] at *
      go_enter Try.func30, Try.ntmps30
      go_wp2_with fail
      have c4 := hP.cell 4
      have hql := hP.lt
      simp only [List.getElem?_cons_zero, List.getElem?_cons_succ] at c4
      have c4' : (w.alloc (.cells #[.int .i64 3, .int .i64 c, .bool b, .int .i64 l, .slice (some ⟨g, o, none⟩) n cap] 26)).cell? ⟨w.heap.size, 4, none⟩ = some (.slice (some ⟨g, o, none⟩) n cap) := c4
      have hql' : w.heap.size < (w.alloc (.cells #[.int .i64 3, .int .i64 c, .bool b, .int .i64 l, .slice (some ⟨g, o, none⟩) n cap] 26)).heap.size := hql
      clear c4 hP hql
      generalize (w.alloc (.cells #[.int .i64 3, .int .i64 c, .bool b, .int .i64 l, .slice (some ⟨g, o, none⟩) n cap] 26)) = w1 at hbw q0 q1 x0 x1 x2 x3 x4 y0 y1 y2 y3 y4 hgq hB1 c4' hql' ⊢
      obtain ⟨q, hq⟩ : ∃ q, q = w.heap.size := ⟨_, rfl⟩
      rw [← hq] at c4' hql' ⊢
      clear hq
      have keepS : ∀ w', Below w1.heap.size w1 w' → (Below w1.heap.size w1 w' ∧ w'.cell? ⟨q, 4, none⟩ = some (.slice (some ⟨g, o, none⟩) n cap) ∧ w'.cell? ⟨g, o, none⟩ = some (.int .i64 a0) ∧ w'.cell? ⟨g, o + 1, none⟩ = some (.int .i64 a1) ∧ w'.cell? ⟨g, o + 2, none⟩ = some (.bool a2) ∧ w'.cell? ⟨g, o + 3, none⟩ = some (.int .i64 a3) ∧ w'.cell? ⟨g, o + 4, none⟩ = some (.slice A4 a5 a6) ∧ w'.cell? ⟨g, o + 5, none⟩ = some (.int .i64 b0) ∧ w'.cell? ⟨g, o + 5 + 1, none⟩ = some (.int .i64 b1) ∧ w'.cell? ⟨g, o + 5 + 2, none⟩ = some (.bool b2) ∧ w'.cell? ⟨g, o + 5 + 3, none⟩ = some (.int .i64 b3) ∧ w'.cell? ⟨g, o + 5 + 4, none⟩ = some (.slice B4 b5 b6)) := fun w' hb =>
        ⟨hb, (hb.cell hql').trans c4', (hb.cell hgq).trans x0, (hb.cell hgq).trans x1, (hb.cell hgq).trans x2, (hb.cell hgq).trans x3, (hb.cell hgq).trans x4, (hb.cell hgq).trans y0, (hb.cell hgq).trans y1, (hb.cell hgq).trans y2, (hb.cell hgq).trans y3, (hb.cell hgq).trans y4⟩
      have hrec : ∀ w' (x : List Value) (z : Nat), Below w1.heap.size w1 w' → (x = [.int .i64 a0, .int .i64 a1, .bool a2, .int .i64 a3, .slice A4 a5 a6] ∧ z = z0) ∨ (x = [.int .i64 b0, .int .i64 b1, .bool b2, .int .i64 b3, .slice B4 b5 b6] ∧ z = z1) → Calls Try.prog 30 #[.agg x.toArray, F1, F2] w' fun e w'' => e = .returned (.int .i64 (z : Nat)) ∧ (Below w1.heap.size w1 w'' ∧ w''.cell? ⟨q, 4, none⟩ = some (.slice (some ⟨g, o, none⟩) n cap) ∧ w''.cell? ⟨g, o, none⟩ = some (.int .i64 a0) ∧ w''.cell? ⟨g, o + 1, none⟩ = some (.int .i64 a1) ∧ w''.cell? ⟨g, o + 2, none⟩ = some (.bool a2) ∧ w''.cell? ⟨g, o + 3, none⟩ = some (.int .i64 a3) ∧ w''.cell? ⟨g, o + 4, none⟩ = some (.slice A4 a5 a6) ∧ w''.cell? ⟨g, o + 5, none⟩ = some (.int .i64 b0) ∧ w''.cell? ⟨g, o + 5 + 1, none⟩ = some (.int .i64 b1) ∧ w''.cell? ⟨g, o + 5 + 2, none⟩ = some (.bool b2) ∧ w''.cell? ⟨g, o + 5 + 3, none⟩ = some (.int .i64 b3) ∧ w''.cell? ⟨g, o + 5 + 4, none⟩ = some (.slice B4 b5 b6)) := fun w' x z hb hx => by
        rcases hx with ⟨rfl, rfl⟩ | ⟨rfl, rfl⟩
        · exact (hr0 w' (q0.later (hb.mono hB1)) (Nat.le_trans hB1 hb.size)).mono fun e w'' ⟨h1, h2⟩ => ⟨h1, keepS _ (below_next h2 hb)⟩
        · exact (hr1 w' (q1.later (hb.mono hB1)) (Nat.le_trans hB1 hb.size)).mono fun e w'' ⟨h1, h2⟩ => ⟨h1, keepS _ (below_next h2 hb)⟩
      have hd := keepS _ (below_drew (Below.refl _ _))
      clear x0 x1 x2 x3 x4 y0 y1 y2 y3 y4 c4' hr0 hr1 q0 q1
      refine wp_walk (by kernel_rfl) (by kernel_rfl) (fun _ _ => True) (fun w' => Below w1.heap.size w1 w' ∧ w'.cell? ⟨q, 4, none⟩ = some (.slice (some ⟨g, o, none⟩) n cap) ∧ w'.cell? ⟨g, o, none⟩ = some (.int .i64 a0) ∧ w'.cell? ⟨g, o + 1, none⟩ = some (.int .i64 a1) ∧ w'.cell? ⟨g, o + 2, none⟩ = some (.bool a2) ∧ w'.cell? ⟨g, o + 3, none⟩ = some (.int .i64 a3) ∧ w'.cell? ⟨g, o + 4, none⟩ = some (.slice A4 a5 a6) ∧ w'.cell? ⟨g, o + 5, none⟩ = some (.int .i64 b0) ∧ w'.cell? ⟨g, o + 5 + 1, none⟩ = some (.int .i64 b1) ∧ w'.cell? ⟨g, o + 5 + 2, none⟩ = some (.bool b2) ∧ w'.cell? ⟨g, o + 5 + 3, none⟩ = some (.int .i64 b3) ∧ w'.cell? ⟨g, o + 5 + 4, none⟩ = some (.slice B4 b5 b6)) hd ?_
      repeat (first | (refine settle_skip (fun _ => by rfl) ?_; (simp only [Act.put, List.setIfInBounds_toArray, List.set_cons_zero, List.set_cons_succ])) | (refine' settle_run (fun _ _ => trivial) (fun _ => by rfl) ?_ ?_; rotate_left; (focus (intro ρ w hS hF; (try dsimp only at hS); go_split_ands; go_simp; try with_reducible rfl)); (simp only [Act.put, List.setIfInBounds_toArray, List.set_cons_zero, List.set_cons_succ])) | (refine' settle_step (fun _ => by rfl) ?_ ?_; rotate_left; (focus (intro ρ w hS hF K hK; (simp only [Act.put, List.setIfInBounds_toArray, List.set_cons_zero, List.set_cons_succ] at hK); go_simp; first | (go_at_call 30; refine (hrec _ _ _ hS.1 (by first | exact .inl ⟨rfl, rfl⟩ | exact .inr ⟨rfl, rfl⟩)).mono ?_; rintro e w' ⟨rfl, hS'⟩; have hE' := True.intro; exact hK _ hS' hE'))); (simp only [Act.put, List.setIfInBounds_toArray, List.set_cons_zero, List.set_cons_succ])))
      refine settle_nil ?_
      intro ρ wS hS _
      have hbS := hS.1
      clear hrec keepS hd hS
      obtain rfl := HF1.out
      obtain rfl := HF2.out
      unfold seqF parF
      rcases m with _ | _
      · simp only [Bool.false_eq_true, if_false]
        go_wp2_with fail
        refine (hfin2 true false z0 z1 _ (by omega) (by decide)).mono ?_
        rintro e w2 ⟨rfl, rfl⟩
        go_wp2
        go_ret
        exact ⟨by rw [HZ.out]; rfl, below_self hbw hbS⟩
      · simp only [if_true]
        go_wp2_with fail
        refine (hfin true true z0 z1 _ (by omega) rfl).mono ?_
        rintro e w2 ⟨rfl, rfl⟩
        go_wp2
        go_ret
        exact ⟨by rw [HZ.out]; rfl, below_self hbw hbS⟩
end Go.Proofs.Ytdipieplmmhnhaa
