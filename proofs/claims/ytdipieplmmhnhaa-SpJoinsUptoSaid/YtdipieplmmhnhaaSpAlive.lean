/-
  The laws of package sp: what is asked ahead of each of them, walked.
-/
import Derived.Test.YtdipieplmmhnhaaSpEq
import Derived.Test.YtdipieplmmhnhaaSpanLaw
namespace Go.Proofs.Ytdipieplmmhnhaa
set_option linter.unusedVariables false
set_option linter.unusedSimpArgs false
open Go.RowKit

theorem SlV.of_blk {w : World} {g sz n : Nat} {e : TypeId} {cs : List Value} (h : Blk w g e cs) (hl : cs.length = n * sz) (hn : n ≤ 1000000000) : SlV w sz (.slice (some ⟨g, 0, none⟩) n n) n cs :=
  ⟨_, _, rfl, Nat.le_refl _, by unfold maxLen; omega, hl, g, 0, fun _ => ⟨rfl, h.lt⟩, fun j u hu => by rw [Nat.zero_add, h.cell]; exact hu⟩

theorem five_more : five.leaves.length = 3 ∧ five.before 0 2 = true ∧ five.before 0 1 = false ∧ five.ways = 2 ∧ five.marks 0 0 = [(0, 1), (1, 0), (2, 2)] :=
  ⟨by decide, by decide, by decide, by simp [five, Sp.T.ways, Sp.ch, Sp.T.size, Sp.T.leaves], by decide⟩

set_option maxRecDepth 100000 in
set_option maxHeartbeats 4000000 in
theorem alive4_any (w : World) : Calls Try.prog 21 #[] w fun e w' => e = .returned (.bool true) ∧ Below w.heap.size w w' := by
  go_enter Try.func21, Try.ntmps21
  go_wp2_with fail
  refine (leaf_any 1 _).mono ?_
  rintro e w1 ⟨rfl, hb1⟩
  go_wp2_with fail
  refine (leaf_any 2 _).mono ?_
  rintro e w2 ⟨rfl, hb2⟩
  have k1 := Blk.new w2 26 ([.int .i64 1, .int .i64 1, .bool false, .int .i64 0, .slice none 0 0] ++ [.int .i64 1, .int .i64 2, .bool false, .int .i64 0, .slice none 0 0])
  have hb12 : Below w.heap.size w w2 := (by repeat (first | exact Below.refl _ _ | assumption | apply below_alloc | apply below_drew | (apply below_next; assumption)))
  go_wp2_with fail
  refine (leaf_any 3 _).mono ?_
  rintro e w3 ⟨rfl, hb3⟩
  have k1' := k1.below (w' := w3) (by simpa using hb3)
  have hb13 : Below w.heap.size w w3 := below_next hb3 (below_alloc hb12 _)
  have hlt1 := k1'.lt
  obtain ⟨P, hP⟩ : ∃ P, P = w2.heap.size := ⟨_, rfl⟩
  rw [← hP] at k1' hlt1 ⊢
  clear hb3 hb12 hb2 hb1 k1 hP
  obtain ⟨hx0, hx1, hz, hk0⟩ := two_allocs w3 ([.int .i64 3, .int .i64 0, .bool false, .int .i64 0, .slice (some ⟨P, 0, none⟩) 2 2] ++ [.int .i64 1, .int .i64 3, .bool false, .int .i64 0, .slice none 0 0]) [.int .i64 2, .int .i64 0, .bool false, .int .i64 0, .slice (some ⟨w3.heap.size, 0, none⟩) 2 2] 26 26
  have k1'' := k1'.keeps hk0 (fun h => h)
  have hbW := hb13.trans (hk0.below hb13.size (fun i h => h.elim))
  simp only [List.cons_append, List.nil_append] at hx0 hx1 hz hk0 k1'' hbW
  go_wp2_with fail
  obtain ⟨qs, hqs⟩ : ∃ q, q = w3.heap.size := ⟨_, rfl⟩
  generalize ((w3.alloc (.cells [Value.int .i64 3, .int .i64 0, .bool false, .int .i64 0, .slice (some ⟨P, 0, none⟩) 2 2, .int .i64 1, .int .i64 3, .bool false, .int .i64 0, .slice none 0 0].toArray 26)).alloc (.cells [Value.int .i64 2, .int .i64 0, .bool false, .int .i64 0, .slice (some ⟨w3.heap.size, 0, none⟩) 2 2].toArray 26)) = W at hx0 hx1 hz hk0 k1'' hbW ⊢
  rw [← hqs] at hx0 hx1 hz ⊢
  clear hqs hk0 k1' hb13 hlt1
  have k1W : Blk W P 26 ([.int .i64 1, .int .i64 1, .bool false, .int .i64 0, .slice none 0 0] ++ [.int .i64 1, .int .i64 2, .bool false, .int .i64 0, .slice none 0 0]) := k1''
  have k2W : Blk W qs 26 ([.int .i64 3, .int .i64 0, .bool false, .int .i64 0, .slice (some ⟨P, 0, none⟩) 2 2] ++ [.int .i64 1, .int .i64 3, .bool false, .int .i64 0, .slice none 0 0]) := hx0
  have lf : ∀ n : Int, TmR W.heap.size W [.int .i64 1, .int .i64 n, .bool false, .int .i64 0, .slice none 0 0] (.one n false 0) := fun n => .one n false 0 none 0 0 (Nat.le_refl _) (Nat.zero_le _)
  have rp : TmR W.heap.size W (tcells 3 0 false 0 (some ⟨P, 0, none⟩) 2 2) (.two true (.one 1 false 0) (.one 2 false 0)) := TmR.made true k1W rfl k1W.lt (lf 1) (lf 2)
  have rt : TmR W.heap.size W [.int .i64 2, .int .i64 0, .bool false, .int .i64 0, .slice (some ⟨qs, 0, none⟩) 2 2] five := TmR.made false k2W rfl k2W.lt rp (lf 3)
  have look : ∀ w', Below W.heap.size W w' → (w'.cell? ⟨qs + 1, 0, none⟩ = some (.int .i64 2) ∧ w'.cell? ⟨qs + 1, 1, none⟩ = some (.int .i64 0) ∧ w'.cell? ⟨qs + 1, 2, none⟩ = some (.bool false) ∧ w'.cell? ⟨qs + 1, 3, none⟩ = some (.int .i64 0) ∧ w'.cell? ⟨qs + 1, 4, none⟩ = some (.slice (some ⟨qs, 0, none⟩) 2 2)) ∧ TmR w'.heap.size w' [.int .i64 2, .int .i64 0, .bool false, .int .i64 0, .slice (some ⟨qs, 0, none⟩) 2 2] five := fun w' hb =>
    ⟨⟨by rw [(hx1.below hb).cell]; rfl, by rw [(hx1.below hb).cell]; rfl, by rw [(hx1.below hb).cell]; rfl, by rw [(hx1.below hb).cell]; rfl, by rw [(hx1.below hb).cell]; rfl⟩, (rt.later hb).keep hb.size (fun _ _ => rfl)⟩
  obtain ⟨m1, m2, m3, m4, m5⟩ := five_more
  have f1 := fun w' hT => leaves_any w' [.int .i64 2, .int .i64 0, .bool false, .int .i64 0, .slice (some ⟨qs, 0, none⟩) 2 2] five hT (by decide)
  have f2 := fun w' i j hT => before_any w' [.int .i64 2, .int .i64 0, .bool false, .int .i64 0, .slice (some ⟨qs, 0, none⟩) 2 2] five i j hT (by decide)
  have f3 := fun w' hT => count_any w' [.int .i64 2, .int .i64 0, .bool false, .int .i64 0, .slice (some ⟨qs, 0, none⟩) 2 2] five hT (by decide)
  have f4 := fun w' hT => marks_any w' [.int .i64 2, .int .i64 0, .bool false, .int .i64 0, .slice (some ⟨qs, 0, none⟩) 2 2] five hT (by decide)
  rw [show five.size = 3 from m1] at f1 f4
  rw [m4] at f3
  rw [m5] at f4
  have F1 := Lib.hid f1
  have F2 := Lib.hid f2
  have F3 := Lib.hid f3
  have F4 := Lib.hid f4
  have M2 := Lib.hid m2
  have M3 := Lib.hid m3
  have L := Lib.hid look
  clear f1 f2 f3 f4 m1 m2 m3 m4 m5 lf rp rt k1W k2W k1'' hx0 hx1 look
  refine (F1.out _ (L.out _ (Below.refl _ _)).2).mono ?_
  rintro e w4 ⟨v4, rfl, ⟨A4, c4, rfl, hle4, hm4, -, -⟩, hb4⟩
  unfold maxLen at hm4
  obtain ⟨⟨d0, d1, d2, d3, d4⟩, hT⟩ := L.out _ hb4
  go_wp2_with fail
  refine (F2.out _ _ _ hT).mono ?_
  rintro e w5 ⟨rfl, hb5⟩
  rw [M2.out]
  have hb45 := below_next hb5 hb4
  clear d0 d1 d2 d3 d4 hT hb5 hb4
  obtain ⟨⟨d0, d1, d2, d3, d4⟩, hT⟩ := L.out _ hb45
  go_wp2_with fail
  refine (F2.out _ _ _ hT).mono ?_
  rintro e w6 ⟨rfl, hb6⟩
  rw [M3.out]
  have hb46 := below_next hb6 hb45
  clear d0 d1 d2 d3 d4 hT hb6 hb45
  obtain ⟨⟨d0, d1, d2, d3, d4⟩, hT⟩ := L.out _ hb46
  go_wp2_with fail
  refine (F3.out _ hT).mono ?_
  rintro e w7 ⟨rfl, hb7⟩
  rw [show Sp.u64 2 = 2 from rfl]
  have hb47 := below_next hb7 hb46
  clear d0 d1 d2 d3 d4 hT hb7 hb46
  obtain ⟨⟨d0, d1, d2, d3, d4⟩, hT⟩ := L.out _ hb47
  go_wp2_with fail
  refine (F4.out _ hT).mono ?_
  rintro e w8 ⟨h, rfl, hrow, -, hb8⟩
  have hb48 := below_next hb8 hb47
  clear d0 d1 d2 d3 d4 hT hb8 hb47
  have s1 := SlV.of_blk (sz := 2) (n := 3) (hrow.alloc (.cells #[.int .i64 0, .int .i64 1, .int .i64 1, .int .i64 0, .int .i64 2, .int .i64 2] 49)) rfl (by omega)
  have s2 := SlV.lit w8 (Sp.prcs [(0, 1), (1, 0), (2, 2)]) 49 2 3 rfl (by omega)
  have hbe : Below w.heap.size w (w8.alloc (.cells #[.int .i64 0, .int .i64 1, .int .i64 1, .int .i64 0, .int .i64 2, .int .i64 2] 49)) := below_alloc (below_self hbW hb48) _
  clear hrow hb48 hbW
  go_wp2_with fail
  refine (equal_pairs _ _ [(0, 1), (1, 0), (2, 2)] [(0, 1), (1, 0), (2, 2)] _ s1 s2).mono ?_
  rintro e w9 ⟨rfl, m9, rfl⟩
  clear s1 s2
  go_wp2
  go_ret
  exact ⟨rfl, below_drewN hbe _⟩
end Go.Proofs.Ytdipieplmmhnhaa
