/-
  Package phaser, walked: what New, known, free, full, turn, do and Play give.
-/
import Derived.Test.YtphbegadddamgaaChecked
import Derived.Test.YtphbegadddamgaaBlk
import Derived.Test.YtphbegadddamgaaPhaLaw
namespace Go.Proofs.Ytphbegadddamgaa
set_option linter.unusedVariables false
set_option linter.unusedSimpArgs false
open Go.RowKit

def pcells (p : Pha.St) : List Value := bools p.inn ++ bools p.here ++ [.int .i64 p.phase]

theorem pcells_length {p : Pha.St} (h1 : p.inn.length = 16) (h2 : p.here.length = 16) : (pcells p).length = 33 := by simp [pcells, bools, h1, h2]
theorem pcells_inn {p : Pha.St} (h1 : p.inn.length = 16) : ((pcells p).drop 0).take 16 = bools p.inn := by
  simp [pcells, bools, List.take_append, h1]
theorem pcells_here {p : Pha.St} (h1 : p.inn.length = 16) (h2 : p.here.length = 16) : ((pcells p).drop 16).take 16 = bools p.here := by
  simp [pcells, bools, List.drop_append, List.take_append, h1, h2]

theorem pcells_one (p : Pha.St) : ∀ v ∈ pcells p, v.oneCell' = true := by
  intro v hv
  simp only [pcells, List.mem_append, List.mem_singleton] at hv
  rcases hv with (hv | hv) | rfl
  · exact bools_one _ v hv
  · exact bools_one _ v hv
  · rfl

theorem arr_bool : Try.prog.underlying 72 = some (.array 16 4) := by kernel_rfl
theorem cells_bool : Try.prog.cellsOf 4 = 1 := by kernel_rfl

theorem known_any (n : Int) (w : World) : Calls Try.prog 48 #[.int .i64 n] w fun e w' => e = .returned (.bool (Pha.known n)) ∧ w = w' := by
  by_cases h0 : 0 ≤ n <;> by_cases h1 : n < 16
  all_goals
    go_enter Try.func48, Try.ntmps48
    go_wp2
    go_ret
    exact ⟨ret_bool (by simp [Pha.known, h0, h1]), rfl⟩

theorem equal_none (l : List Bool) (h : l.length = 16) (b : Bool) (hb : decide (l = Pha.no16) = b) (w : World) :
    (Op.equalIn 10000 72 (.agg (bools l).toArray) (.agg #[.bool false, .bool false, .bool false, .bool false, .bool false, .bool false, .bool false, .bool false, .bool false, .bool false, .bool false, .bool false, .bool false, .bool false, .bool false, .bool false])).run Try.prog w = .ok b w :=
  run_equal_bools (P := Try.prog) w _ _ 16 arr_bool Try.underlying4 cells_bool (by kernel_rfl) l Pha.no16 h rfl b hb

theorem full_any (p : Pha.St) (h1 : p.inn.length = 16) (h2 : p.here.length = 16) (w : World) :
    Calls Try.prog 55 #[.agg (pcells p).toArray] w fun e w' => e = .returned (.bool (Pha.full p)) ∧ Below w.heap.size w w' := by
  have hB := Blk.new w 74 (pcells p)
  have hl := pcells_length h1 h2
  have e1 := Lib.hid (pcells_inn h1)
  have e2 := Lib.hid (pcells_here h1 h2)
  have hL := Lib.hid hl
  rcases b1 : decide (p.inn = p.here) with _ | _
  · have q1 := fun w => run_equal_bools (P := Try.prog) w _ _ 16 arr_bool Try.underlying4 cells_bool (by kernel_rfl) p.inn p.here h1 h2 _ b1
    have F := Lib.hid (show Pha.full p = false from by
      rw [Bool.eq_false_iff]
      intro hf
      exact (of_decide_eq_false b1) ((Pha.full_iff p).1 hf).1)
    clear hl h1 h2 b1
    go_enter Try.func55, Try.ntmps55
    go_wp2_with (first
      | (refine wpl_load_blk hB _ 0 16 (by kernel_rfl) (by kernel_rfl) (by have := hL.out; omega) rfl rfl rfl ?_; rw [e1.out])
      | (refine wpl_load_blk hB _ 16 16 (by kernel_rfl) (by kernel_rfl) (by have := hL.out; omega) rfl rfl rfl ?_; rw [e2.out]))
    go_ret
    exact ⟨ret_bool F.out.symm, (by repeat (first | exact Below.refl _ _ | assumption | apply below_alloc | apply below_drew | (apply below_next; assumption)))⟩
  · have q1 := fun w => run_equal_bools (P := Try.prog) w _ _ 16 arr_bool Try.underlying4 cells_bool (by kernel_rfl) p.inn p.here h1 h2 _ b1
    rcases b2 : decide (p.inn = Pha.no16) with _ | _
    all_goals
      have q2 := equal_none p.inn h1 _ b2
      have F := Lib.hid (show Pha.full p = !decide (p.inn = Pha.no16) from by
        unfold Pha.full
        rw [show (p.inn == p.here) = true from by simpa using b1, Bool.true_and]
        rw [Bool.eq_iff_iff]
        simp)
      rw [b2] at F
      clear hl h1 h2 b1 b2
      go_enter Try.func55, Try.ntmps55
      go_wp2_with (first
        | (refine wpl_load_blk hB _ 0 16 (by kernel_rfl) (by kernel_rfl) (by have := hL.out; omega) rfl rfl rfl ?_; rw [e1.out])
        | (refine wpl_load_blk hB _ 16 16 (by kernel_rfl) (by kernel_rfl) (by have := hL.out; omega) rfl rfl rfl ?_; rw [e2.out]))
      go_ret
      exact ⟨ret_bool F.out.symm, (by repeat (first | exact Below.refl _ _ | assumption | apply below_alloc | apply below_drew | (apply below_next; assumption)))⟩

/-- the cell of who is in, who is here, and of the phase -/
theorem pcell_inn {w : World} {g : Nat} {p : Pha.St} (h : Blk w g 74 (pcells p)) (h1 : p.inn.length = 16) (i : Nat) (hi : i < 16) : w.cell? ⟨g, i, none⟩ = some (.bool (p.inn.getD i false)) := by
  rw [h.cell, pcells, List.append_assoc, List.getElem?_append_left (by simp [bools]; omega)]
  simp [bools, List.getD, List.getElem?_eq_getElem (show i < p.inn.length by omega)]
theorem pcell_here {w : World} {g : Nat} {p : Pha.St} (h : Blk w g 74 (pcells p)) (h1 : p.inn.length = 16) (h2 : p.here.length = 16) (i : Nat) (hi : i < 16) : w.cell? ⟨g, 16 + i, none⟩ = some (.bool (p.here.getD i false)) := by
  rw [h.cell, pcells, List.append_assoc, List.getElem?_append_right (by simp [bools]; omega), List.getElem?_append_left (by simp [bools, h1]; omega)]
  simp [bools, List.getD, h1, List.getElem?_eq_getElem (show i < p.here.length by omega)]
theorem pcell_phase {w : World} {g : Nat} {p : Pha.St} (h : Blk w g 74 (pcells p)) (h1 : p.inn.length = 16) (h2 : p.here.length = 16) : w.cell? ⟨g, 32, none⟩ = some (.int .i64 p.phase) := by
  rw [h.cell, pcells, List.getElem?_append_right (by simp [bools, h1, h2])]
  simp [bools, h1, h2]

theorem free_any (g : Nat) (p : Pha.St) (h1 : p.inn.length = 16) (h2 : p.here.length = 16) (n : Int) (w : World) (h : Blk w g 74 (pcells p)) :
    Calls Try.prog 47 #[.pointer (some ⟨g, 0, none⟩), .int .i64 n] w fun e w' => e = .returned (.int .i64 (Pha.free p n)) ∧ w = w' := by
  rcases k : Pha.known n with _ | _
  · have F := Lib.hid (show Pha.free p n = 7 from by simp [Pha.free, k])
    go_enter Try.func47, Try.ntmps47
    go_wp2_with fail
    refine (known_any n w).mono ?_
    rintro e w1 ⟨rfl, rfl⟩
    rw [k]
    go_wp2
    go_ret
    exact ⟨ret_int F.out.symm, rfl⟩
  · obtain ⟨k0, k1⟩ := Pha.known_iff.1 k
    obtain ⟨n, rfl⟩ := Int.eq_ofNat_of_zero_le k0
    have hk : n < 16 := by omega
    have c1 := pcell_inn h h1 n hk
    have c2 := pcell_here h h1 h2 n hk
    rcases b1 : p.inn.getD n false with _ | _ <;> rcases b2 : p.here.getD n false with _ | _
    all_goals
      rw [b1] at c1
      rw [b2] at c2
      have F := Lib.hid (show Pha.free p n = _ from by unfold Pha.free Pha.at_; rw [Int.toNat_natCast, b1, b2, k])
      have K := Lib.hid k
      clear b1 b2 h k h1 h2
      go_enter Try.func47, Try.ntmps47
      go_wp2_with fail
      refine (known_any n w).mono ?_
      rintro e w1 ⟨rfl, rfl⟩
      rw [K.out]
      go_wp2
      go_ret
      exact ⟨ret_int F.out.symm, rfl⟩

theorem pcells_whole {p : Pha.St} (h1 : p.inn.length = 16) (h2 : p.here.length = 16) : ((pcells p).drop 0).take 33 = pcells p := by
  rw [List.drop_zero, List.take_of_length_le (by rw [pcells_length h1 h2]; exact Nat.le_refl _)]
theorem pcells_clear {p : Pha.St} (h1 : p.inn.length = 16) (h2 : p.here.length = 16) : (pcells p).take 16 ++ bools Pha.no16 ++ (pcells p).drop (16 + 16) = pcells ⟨p.inn, Pha.no16, p.phase⟩ := by
  simp [pcells, bools, List.take_append, List.drop_append, h1, h2]
theorem pcells_phase {p : Pha.St} (h1 : p.inn.length = 16) (h2 : p.here.length = 16) (x : Int) : (pcells p).set 32 (.int .i64 x) = pcells ⟨p.inn, p.here, x⟩ := by
  unfold pcells
  rw [List.set_append_right _ _ (by simp [bools, h1, h2])]
  simp [bools, h1, h2]
theorem pcells_set_inn {p : Pha.St} (h1 : p.inn.length = 16) (i : Nat) (hi : i < 16) (b : Bool) : (pcells p).set i (.bool b) = pcells ⟨p.inn.set i b, p.here, p.phase⟩ := by
  unfold pcells
  rw [List.append_assoc, List.set_append_left _ _ (by simp [bools, h1]; omega)]
  simp [bools, List.map_set]
theorem pcells_set_here {p : Pha.St} (h1 : p.inn.length = 16) (h2 : p.here.length = 16) (i : Nat) (hi : i < 16) (b : Bool) : (pcells p).set (16 + i) (.bool b) = pcells ⟨p.inn, p.here.set i b, p.phase⟩ := by
  unfold pcells
  rw [List.append_assoc, List.set_append_right _ _ (by simp [bools, h1]), List.set_append_left _ _ (by simp [bools, h1, h2]; omega)]
  simp [bools, List.map_set, h1]

theorem turn_any (g : Nat) (p : Pha.St) (h1 : p.inn.length = 16) (h2 : p.here.length = 16) (h3 : 0 ≤ p.phase) (h4 : p.phase ≤ 4611686018427387904) (w : World) (h : Blk w g 74 (pcells p)) :
    Calls Try.prog 49 #[.pointer (some ⟨g, 0, none⟩)] w fun e w' => e = .returned (.tuple #[]) ∧ Blk w' g 74 (pcells (Pha.turn p)) ∧ w.grownBy w' (some g) := by
  have hL := Lib.hid (pcells_length h1 h2)
  have e1 := Lib.hid (pcells_whole h1 h2)
  have H1 := Lib.hid h1
  have H2 := Lib.hid h2
  clear h1 h2
  rcases b : Pha.full p with _ | _
  · have F := Lib.hid (show Pha.turn p = p from by simp [Pha.turn, b])
    have B := Lib.hid b
    clear b
    go_enter Try.func49, Try.ntmps49
    go_wp2_with (refine wpl_load_blk h _ 0 33 (by kernel_rfl) (by kernel_rfl) (by have := hL.out; omega) rfl rfl rfl ?_; rw [e1.out])
    refine (full_any p H1.out H2.out _).mono ?_
    rintro e w1 ⟨rfl, hb1⟩
    rw [B.out]
    go_wp2
    go_end0
    exact ⟨rfl, by rw [F.out]; exact h.below hb1, grown_of_below hb1 _⟩
  · have F := Lib.hid (show Pha.turn p = ⟨p.inn, Pha.no16, p.phase + 1⟩ from by simp [Pha.turn, b])
    have B := Lib.hid b
    clear b
    go_enter Try.func49, Try.ntmps49
    go_wp2_with (refine wpl_load_blk h _ 0 33 (by kernel_rfl) (by kernel_rfl) (by have := hL.out; omega) rfl rfl rfl ?_; rw [e1.out])
    refine (full_any p H1.out H2.out _).mono ?_
    rintro e w1 ⟨rfl, hb1⟩
    rw [B.out]
    have hB1 := h.below hb1
    go_wp2_with (refine wpl_store_blk hB1 _ 16 16 (bools Pha.no16) (by kernel_rfl) rfl (by have := hL.out; omega) (bools_one _) rfl rfl rfl rfl ?_; intro w2 hB2 hg2; rw [pcells_clear H1.out H2.out] at hB2; have c3 := pcell_phase hB2 H1.out rfl; simp only at c3; have f3 := hB2.frozen 32)
    go_end0
    refine ⟨rfl, ?_, grown_trans (grown_of_below hb1 _) (grown_trans hg2 (grown_setCell _ _ _ _))⟩
    have := hB2.set_ 32 (.int .i64 (p.phase + 1))
    rw [pcells_phase (p := ⟨p.inn, Pha.no16, p.phase⟩) H1.out rfl] at this
    rw [F.out]
    exact this

def zp : Pha.St := ⟨Pha.no16, Pha.no16, 0⟩

theorem new_any (w : World) : Calls Try.prog 40 #[] w fun e w' => e = .returned (.agg (pcells Pha.start).toArray) ∧ Below w.heap.size w w' := by
  have hR : Blk ((w.alloc (.cells (pcells zp).toArray 74)).alloc (.cells (pcells zp).toArray 74)) w.heap.size 74 (pcells zp) := (Blk.new _ _ _).alloc _
  have hB : Blk ((w.alloc (.cells (pcells zp).toArray 74)).alloc (.cells (pcells zp).toArray 74)) (w.heap.size + 1) 74 (pcells zp) := by
    have := Blk.new (w.alloc (.cells (pcells zp).toArray 74)) 74 (pcells zp)
    simpa using this
  go_enter Try.func40, Try.ntmps40
  go_wp2_with (first
    | (refine wpl_set_blk hB 0 (.bool true) (by kernel_rfl) (by decide) rfl rfl rfl rfl rfl rfl ?_; intro w2 hB2 hg2; rw [pcells_set_inn (p := zp) rfl 0 (by decide)] at hB2; have hR2 := hR.grown hg2 (by simp))
    | refine wpl_get_blk hB2 (by kernel_rfl) (by kernel_rfl) rfl rfl rfl ?_
    | (refine wpl_put_blk hR2 (pcells ⟨zp.inn.set 0 true, zp.here, zp.phase⟩) (by kernel_rfl) rfl (pcells_one _) rfl rfl rfl rfl ?_; intro w3 hR3 hg3))
  refine ret_blk hR3 rfl rfl Try.underlying74 rfl (by kernel_rfl) rfl ⟨rfl, ?_⟩
  exact (((Below.refl _ _).alloc (Nat.le_refl _) _).alloc (by simp) _).trans ((below_of_grown hg2 (by simp; omega) (by omega)).trans (below_of_grown hg3 (by have := hg2.size; simp at this; omega) (Nat.le_refl _)))

def opv (o : Pha.Op) : Value := .agg #[.int .i64 o.kind, .int .i64 o.who, .int .i64 o.by_]
def ansv (a : Pha.Ans) : Value := .agg #[.int .i64 a.1, .int .i64 a.2]

theorem doRes (w : World) (kind who by_ : Int) : Blk ((w.alloc (.cells #[.int .i64 kind, .int .i64 who, .int .i64 by_] 33)).alloc (.cells #[.int .i64 0, .int .i64 0] 38)) (w.heap.size + 1) 38 [.int .i64 0, .int .i64 0] := by
  have := Blk.new (w.alloc (.cells #[.int .i64 kind, .int .i64 who, .int .i64 by_] 33)) 38 [.int .i64 0, .int .i64 0]
  simpa using this

theorem doGrown (w w' : World) (g : Nat) (kind who by_ : Int) (h : w.grownBy w' (some g) ∨ ((w.alloc (.cells #[.int .i64 kind, .int .i64 who, .int .i64 by_] 33)).alloc (.cells #[.int .i64 0, .int .i64 0] 38)).grownBy w' (some (w.heap.size + 1))) : w.grownBy w' (some g) := by
  rcases h with h | h
  · exact h
  · exact grown_of_below (((Below.refl _ _).alloc (Nat.le_refl _) _ |>.alloc (by simp) _).trans (below_of_grown h (by simp; omega) (by omega))) _

theorem ints_one' {l : List Int} : ∀ v ∈ l.map (Value.int .i64), v.oneCell' = true := ints_oneCell _ _

theorem do_kind (g : Nat) (p : Pha.St) (kind who by_ : Int) (w : World) (h : Blk w g 74 (pcells p)) (hk : kind < 1 ∨ 4 < kind) :
    Calls Try.prog 41 #[.pointer (some ⟨g, 0, none⟩), .agg #[.int .i64 kind, .int .i64 who, .int .i64 by_]] w fun e w' => e = .returned (ansv (9, 0)) ∧ Blk w' g 74 (pcells p) ∧ w.grownBy w' (some g) := by
  have hg := h.lt
  have hR := doRes w kind who by_
  rcases hk with hk | hk
  all_goals
    go_enter Try.func41, Try.ntmps41
    go_wp2_with (refine wpl_put_blk hR [.int .i64 9, .int .i64 0] (by kernel_rfl) rfl (ints_one' (l := [9, 0])) rfl rfl rfl rfl ?_; intro w3 hR3 hg3)
    refine ret_blk hR3 rfl rfl Try.underlying38 rfl (by kernel_rfl) rfl ⟨rfl, ((h.alloc _).alloc _).grown hg3 (by simp; omega), ?_⟩
    exact doGrown w w3 g kind who by_ (.inr hg3)

def DoP (g : Nat) (w : World) (a : Pha.Ans) (q : Pha.St) (e : Ending) (w' : World) : Prop := e = .returned (ansv a) ∧ Blk w' g 74 (pcells q) ∧ w.grownBy w' (some g)

theorem do_err (g : Nat) (p : Pha.St) (h1 : p.inn.length = 16) (h2 : p.here.length = 16) (kind who by_ v : Int) (w : World) (h : Blk w g 74 (pcells p)) (hk : kind = 1 ∨ kind = 2 ∨ kind = 3) (hf : Pha.free p (if kind = 1 then by_ else who) = v) (hv : (v == 0) = false) (hv' : (v != 0) = true) :
    Calls Try.prog 41 #[.pointer (some ⟨g, 0, none⟩), .agg #[.int .i64 kind, .int .i64 who, .int .i64 by_]] w (DoP g w (v, 0) p) := by
  have hg := h.lt
  have hR := doRes w kind who by_
  have hB : Blk _ g _ _ := (h.alloc (.cells #[.int .i64 kind, .int .i64 who, .int .i64 by_] 33)).alloc (.cells #[.int .i64 0, .int .i64 0] 38)
  rcases hk with rfl | rfl | rfl
  all_goals
    simp only [show ((2 : Int) = 1) = False by simp, show ((3 : Int) = 1) = False by simp, if_true, if_false] at hf
    have F := Lib.hid hf
    clear hf
    go_enter Try.func41, Try.ntmps41
    go_wp2_with fail
    refine (free_any g p h1 h2 _ _ hB).mono ?_
    rintro e w1 ⟨rfl, rfl⟩
    rw [F.out]
    go_wp2_with fail
    go_quiet (fail)
    go_wp2_with (refine wpl_put_blk (hR.drewN _) [.int .i64 v, .int .i64 0] (by kernel_rfl) rfl (ints_one' (l := [v, 0])) rfl rfl rfl rfl ?_; intro w3 hR3 hg3)
    have hg4 := grown_undrewN hg3
    refine ret_blk hR3 rfl rfl Try.underlying38 rfl (by kernel_rfl) rfl ⟨rfl, hB.grown hg4 (by simp; omega), ?_⟩
    exact doGrown w w3 g _ who by_ (.inr hg4)

theorem do_ask (g : Nat) (p : Pha.St) (h1 : p.inn.length = 16) (h2 : p.here.length = 16) (who by_ : Int) (w : World) (h : Blk w g 74 (pcells p)) (v : Int) (hf : Pha.free p who = v) (hv : v = 0 ∨ v = 7 ∨ v = 8) :
    Calls Try.prog 41 #[.pointer (some ⟨g, 0, none⟩), .agg #[.int .i64 4, .int .i64 who, .int .i64 by_]] w (DoP g w (v, if v = 7 then 0 else p.phase) p) := by
  have hg := h.lt
  have hR := doRes w 4 who by_
  have hB : Blk _ g _ _ := (h.alloc (.cells #[.int .i64 4, .int .i64 who, .int .i64 by_] 33)).alloc (.cells #[.int .i64 0, .int .i64 0] 38)
  have cP := pcell_phase hB h1 h2
  rcases hv with rfl | rfl | rfl
  all_goals
    have F := Lib.hid hf
    clear hf
    go_enter Try.func41, Try.ntmps41
    go_wp2_with fail
    refine (free_any g p h1 h2 _ _ hB).mono ?_
    rintro e w1 ⟨rfl, rfl⟩
    rw [F.out]
    go_wp2_with fail
    go_quiet (fail)
    go_wp2_with (first
      | (refine wpl_put_blk (hR.drewN _) [.int .i64 0, .int .i64 p.phase] (by kernel_rfl) rfl (ints_one' (l := [0, p.phase])) rfl rfl rfl rfl ?_; intro w3 hR3 hg3)
      | (refine wpl_put_blk (hR.drewN _) [.int .i64 7, .int .i64 0] (by kernel_rfl) rfl (ints_one' (l := [7, 0])) rfl rfl rfl rfl ?_; intro w3 hR3 hg3)
      | (refine wpl_put_blk (hR.drewN _) [.int .i64 8, .int .i64 p.phase] (by kernel_rfl) rfl (ints_one' (l := [8, p.phase])) rfl rfl rfl rfl ?_; intro w3 hR3 hg3))
    have hg4 := grown_undrewN hg3
    refine ret_blk hR3 rfl rfl Try.underlying38 rfl (by kernel_rfl) rfl ⟨rfl, hB.grown hg4 (by simp; omega), ?_⟩
    exact doGrown w w3 g _ who by_ (.inr hg4)
end Go.Proofs.Ytphbegadddamgaa
