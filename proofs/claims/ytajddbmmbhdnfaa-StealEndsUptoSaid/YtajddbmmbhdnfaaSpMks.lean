/-
  Package sp, walked: Marks, Before.
-/
import Derived.Test.YtajddbmmbhdnfaaSpMk
import Derived.Test.YtajddbmmbhdnfaaSettle2
namespace Go.Proofs.Ytajddbmmbhdnfaa
set_option linter.unusedVariables false
set_option linter.unusedSimpArgs false
set_option maxRecDepth 100000
open Go.RowKit

theorem made_flat (z : Value) (k n : Nat) (hk : 0 < k) : (madeCells (Array.replicate k z) n).toList = List.replicate n z := by
  apply List.ext_getElem?
  intro j
  by_cases hj : j < n
  · have := Nat.mod_lt j hk
    simp [madeCells, hj, this]
  · simp [madeCells, hj]

/-- 'make([]T, n)', T of some cells that are alike -/
theorem wp_make_flat {P : Program} (w : World) {ops : Array Oper} {rest : List Oper} {o : Oper} {a : Act} {Q : Exit → Act → World → Prop}
    (t e : TypeId) (z zc : Value) (size bytes : Nat) (n : Nat) (ht : P.underlying t = some (.slice e)) (hinfo : (P.info? e).map (fun i => (i.zero, i.size, i.bytes)) = some (some z, size, bytes)) (hz : z.cells = Array.replicate size zc) (hsz : 0 < size)
    {L C : Int} (hL : L = (n : Int)) (hC : C = (n : Int)) (b2 : bytes * n ≤ 281474976710656) (b3 : n ≤ 9223372036854775807)
    {l c : Operand} {kl kc : IntKind} (hg : o.guard = none) (hop : o.op = Op.makeSlice t l c) (hl : a.eval l = .int kl L) (hc : a.eval c = .int kc C)
    (hK : ∀ w', Blk w' w.heap.size e (List.replicate (n * size) zc) → Below w.heap.size w w' → w'.heap.size = w.heap.size + 1 → wpList P ops Q rest (a.put o.dst (.slice (some ⟨w.heap.size, 0, none⟩) n n)) w') :
    wpList P ops Q (o :: rest) a w := by
  obtain ⟨i, hi, hz0, hz1, hz2⟩ := info_parts hinfo
  refine wpList_plain hg fun K hK' => ?_
  subst hL
  subst hC
  have h63' : (n : Int) ≤ 9223372036854775807 := by omega
  have hb' : (i.bytes : Int) * (n : Int) ≤ 281474976710656 := by
    have h : ((i.bytes * n : Nat) : Int) ≤ 281474976710656 := by rw [hz2]; omega
    rwa [Int.natCast_mul] at h
  have hr := run_make (P := P) w t e i z ht hi hz0 kl kc n n (by omega) (Int.le_refl _) hb' h63'
  simp only [Int.toNat_natCast, hz1, hz] at hr
  unfold Oper.wp
  simp [execOp, hop, hl, hc, hr, Result.andThen]
  refine hK' _ _ (hK _ ?_ ((Below.refl _ _).alloc (Nat.le_refl _) _) (by simp))
  have := Blk.new w e (madeCells (Array.replicate size zc) (n * size)).toList
  rw [Array.toArray_toList] at this
  rwa [made_flat zc size _ hsz] at this

theorem info_pair : (Try.prog.info? 88).map (fun i => (i.zero, i.size, i.bytes)) = some (some (.agg #[.int .i64 0, .int .i64 0]), 2, 16) := by kernel_rfl

theorem marks_any (w : World) (cs : List Value) (t : Sp.T) (hT : TmR w.heap.size w cs t) (hn : t.size ≤ 4194304) :
    Calls Try.prog 31 #[.agg cs.toArray] w fun e w' => ∃ h, e = .returned (.slice (some ⟨h, 0, none⟩) t.size t.size) ∧ Blk w' h 88 (Sp.prcs (t.marks 0 0)) ∧ w.heap.size ≤ h ∧ Below w.heap.size w w' := by
  obtain ⟨a0, a1, a2, a3, A4, a5, a6, rfl, -, -⟩ := hT.form
  have hP := Blk.new w 26 (tcells a0 a1 a2 a3 A4 a5 a6)
  have s1 := hT.alloc (Nat.le_refl _) (.cells (tcells a0 a1 a2 a3 A4 a5 a6).toArray 26)
  have hb0 : Below w.heap.size w (w.alloc (.cells (tcells a0 a1 a2 a3 A4 a5 a6).toArray 26)) := below_alloc (Below.refl _ _) _
  unfold tcells at s1 hP hb0 ⊢
  clear hT
  go_enter Try.func31, Try.ntmps31
  go_wp2_with fail
  refine (leaves_any _ _ t (s1.keep (by simp) (fun _ _ => rfl)) hn).mono ?_
  rintro e w1 ⟨v, rfl, ⟨A7, c7, rfl, hle7, hm7, -, -⟩, hb1⟩
  have hb1' := below_next hb1 hb0
  have hP1 := hP.below (by simpa using hb1)
  have s2 := s1.later (hb1.mono (by simp))
  unfold maxLen at hm7
  have hsz1 : w.heap.size < w1.heap.size := by have := hb1.size; simp at this; omega
  obtain ⟨q, hq⟩ : ∃ q, q = w.heap.size := ⟨_, rfl⟩
  rw [← hq] at hP1 s2 hsz1 hb1' ⊢
  have HQ := Lib.hid hq
  clear hP s1 hb0 hb1 hq
  go_wp2_with (refine wp_make_flat w1 _ _ _ (.int .i64 0) 2 16 t.size Try.underlying85 info_pair rfl (by decide) rfl rfl (by omega) (by omega) rfl rfl rfl rfl ?_; intro w2 hR2 hb2 hsz2; have hP3 := (hP1.below hb2).alloc (.cells #[.int .i64 0, .slice (some ⟨w1.heap.size, 0, none⟩) t.size t.size, .int .i64 0] 109); have c0 := hP3.cell 0; have c1 := hP3.cell 1; have c2 := hP3.cell 2; have c3 := hP3.cell 3; have c4 := hP3.cell 4; simp only [List.getElem?_cons_zero, List.getElem?_cons_succ] at c0 c1 c2 c3 c4)
  have hq1 : q ≤ w1.heap.size := by omega
  have hB := Blk.new w2 109 [.int .i64 0, .slice (some ⟨w1.heap.size, 0, none⟩) t.size t.size, .int .i64 0]
  rw [hsz2] at hB
  have hrep : (List.replicate t.size ((0, 0) : Nat × Nat)).length = t.size := List.length_replicate
  have hM : Mk q (w2.alloc (.cells #[.int .i64 0, .slice (some ⟨w1.heap.size, 0, none⟩) t.size t.size, .int .i64 0] 109)) (w1.heap.size + 1) w1.heap.size (List.replicate t.size (0, 0)) 0 0 :=
    ⟨by rw [hrep]; exact hB, by rw [Sp.prcs_zero]; exact hR2.alloc _, by simp; omega, by omega, hq1, by omega⟩
  have s3 := (s2.later (hb2.mono hq1)).alloc (by omega) (.cells #[.int .i64 0, .slice (some ⟨w1.heap.size, 0, none⟩) t.size t.size, .int .i64 0] 109)
  have hb3 : Below q w (w2.alloc (.cells #[.int .i64 0, .slice (some ⟨w1.heap.size, 0, none⟩) t.size t.size, .int .i64 0] 109)) := (hb1'.trans (hb2.mono hq1)).trans ((Below.refl _ _).alloc (by omega) _)
  refine (tell_marks t q _ (w1.heap.size + 1) w1.heap.size _ 0 0 _ s3 hM (by rw [hrep]; omega) (by omega) (by rw [hrep]; exact hn)).mono ?_
  rintro e w4 ⟨rfl, bs, m4, k4⟩
  have hall := Sp.put_all (List.replicate t.size ((0, 0) : Nat × Nat)) (t.marks 0 0) (by rw [hrep, t.marks_length])
  rw [hall] at m4
  have hb4 : Below q w w4 := hb3.trans (k4.below hM.base (fun i hi => hi.elim (fun e => by omega) (fun e => by omega)))
  have d1 := m4.blk.cell 1
  rw [t.marks_length] at d1
  simp only [List.getElem?_cons_zero, List.getElem?_cons_succ] at d1
  have hrow := m4.row
  clear c0 c1 c2 c3 c4 hP3 hB hM s3 hb3 hall m4 k4 hR2 hb1'
  go_wp2
  go_ret
  rw [HQ.out] at hq1 hb4
  exact ⟨_, rfl, hrow, hq1, hb4⟩

theorem before_any (w : World) (cs : List Value) (t : Sp.T) (i j : Int) (hT : TmR w.heap.size w cs t) (hn : t.size ≤ 4194304) :
    Calls Try.prog 18 #[.agg cs.toArray, .int .i64 i, .int .i64 j] w fun e w' => e = .returned (.bool (t.before i j)) ∧ Below w.heap.size w w' := by
  obtain ⟨a0, a1, a2, a3, A4, a5, a6, rfl, -, -⟩ := hT.form
  have s1 := hT.alloc (Nat.le_refl _) (.cells (tcells a0 a1 a2 a3 A4 a5 a6).toArray 26)
  have hb0 : Below w.heap.size w (w.alloc (.cells (tcells a0 a1 a2 a3 A4 a5 a6).toArray 26)) := below_alloc (Below.refl _ _) _
  unfold tcells at s1 hb0 ⊢
  clear hT
  go_enter Try.func18, Try.ntmps18
  go_wp2_with fail
  refine (marks_any _ _ t (s1.keep (by simp) (fun _ _ => rfl)) hn).mono ?_
  rintro e w1 ⟨h, rfl, hrow, -, hb1⟩
  have hbf := below_next hb1 hb0
  clear s1 hb0 hb1
  by_cases hin : 0 ≤ i ∧ 0 ≤ j ∧ i < t.size ∧ j < t.size
  · obtain ⟨h1, h2, h3, h4⟩ := hin
    obtain ⟨a, rfl⟩ := Int.eq_ofNat_of_zero_le h1
    obtain ⟨b, rfl⟩ := Int.eq_ofNat_of_zero_le h2
    have ha : a < t.size := by omega
    have hb : b < t.size := by omega
    obtain ⟨ra, hra⟩ : ∃ r, r = t.rk a := ⟨_, rfl⟩
    obtain ⟨rb, hrb⟩ : ∃ r, r = t.rk b := ⟨_, rfl⟩
    have ga := Sp.prcs_get _ a _ (t.marks_get 0 0 a ha)
    have gb := Sp.prcs_get _ b _ (t.marks_get 0 0 b hb)
    rw [Nat.zero_add, Nat.zero_add] at ga gb
    rw [← hra] at ga
    rw [← hrb] at gb
    have c0 : w1.cell? ⟨h, a * 2, none⟩ = some (.int .i64 (a : Int)) := (hrow.cell (a * 2)).trans ga.1
    have c1 : w1.cell? ⟨h, a * 2 + 1, none⟩ = some (.int .i64 (ra : Int)) := (hrow.cell (a * 2 + 1)).trans ga.2
    have d0 : w1.cell? ⟨h, b * 2, none⟩ = some (.int .i64 (b : Int)) := (hrow.cell (b * 2)).trans gb.1
    have d1 : w1.cell? ⟨h, b * 2 + 1, none⟩ = some (.int .i64 (rb : Int)) := (hrow.cell (b * 2 + 1)).trans gb.2
    have hres : t.before (a : Int) (b : Int) = (decide ((a : Int) < (b : Int)) && decide ((ra : Int) < (rb : Int))) := by
      rw [Bool.eq_iff_iff, Bool.and_eq_true, decide_eq_true_iff, decide_eq_true_iff]
      unfold Sp.T.before Sp.T.bf
      rw [decide_eq_true_iff]
      simp only [Int.toNat_natCast, ← hra, ← hrb]
      omega
    have HR := Lib.hid hres
    clear hres hra hrb ga gb hrow
    have n1 : decide ((a : Int) < 0) = false := by simp
    have n2 : decide ((b : Int) < 0) = false := by simp
    have n3 : decide (t.size ≤ a) = false := by simp; omega
    have n4 : decide (t.size ≤ b) = false := by simp; omega
    by_cases hlt : a < b
    rotate_left
    · have hab : decide ((a : Int) < (b : Int)) = false := by simp; omega
      rw [hab, Bool.false_and] at HR
      have hab2 : decide (a < b) = false := by simp; omega
      clear hlt hab
      go_wp2
      go_quiet (fail)
      go_wp2
      go_ret
      exact ⟨ret_bool (by rw [HR.out]), hbf.trans (below_drewN (Below.refl _ _) _)⟩
    · have hab : decide ((a : Int) < (b : Int)) = true := by simp; omega
      rw [hab, Bool.true_and] at HR
      have hab2 : decide (a < b) = true := by simp; omega
      clear hlt hab
      go_wp2
      go_quiet (fail)
      go_wp2
      go_ret
      exact ⟨ret_bool (by rw [HR.out]; simp), hbf.trans (below_drewN (Below.refl _ _) _)⟩
  · have hres : t.before i j = false := by
      unfold Sp.T.before
      rw [decide_eq_false_iff_not]
      exact fun h => hin h.1
    have HR := Lib.hid hres
    clear hres hrow
    by_cases g1 : i < 0
    · go_wp2
      go_ret
      exact ⟨(show _ = Ending.returned (.bool false) from rfl).trans (by rw [HR.out]), hbf⟩
    by_cases g2 : j < 0
    · go_wp2
      go_ret
      exact ⟨(show _ = Ending.returned (.bool false) from rfl).trans (by rw [HR.out]), hbf⟩
    by_cases g3 : (t.size : Int) ≤ i
    · go_wp2
      go_ret
      exact ⟨(show _ = Ending.returned (.bool false) from rfl).trans (by rw [HR.out]), hbf⟩
    have g4 : (t.size : Int) ≤ j := by omega
    clear hin
    go_wp2
    go_ret
    exact ⟨(show _ = Ending.returned (.bool false) from rfl).trans (by rw [HR.out]), hbf⟩
end Go.Proofs.Ytajddbmmbhdnfaa
