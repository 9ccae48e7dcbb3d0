/-
  Statements made: num, store, async, finish; slices.Grow, slices.Concat of statements; slices.Contains, slices.Equal of pairs.
-/
import Derived.Test.YtniekhedpdkmiaaDoorMh6
import Derived.Test.YtniekhedpdkmiaaDoorOnly
import Derived.Lib.AppendZeros
import Derived.Laws.StructEq
namespace Go.Proofs.YtniekhedpdkmiaaDoor
set_option linter.unusedVariables false
set_option linter.unusedSimpArgs false
open Go.RowKit

abbrev xzeros : List Value := xcells 0 0 ⟨#[]⟩ none 0 0
abbrev stzeros : List Value := stcells 0 ⟨#[]⟩ xzeros xzeros none 0 0 none 0 0
theorem xcells_one' (k n : Int) (s : ByteArray) (A : Option Addr) (len cap : Nat) : ∀ v ∈ xcells k n s A len cap, v.oneCell' = true := by
  intro v hv
  simp [xcells] at hv
  rcases hv with rfl | rfl | rfl | rfl <;> rfl
theorem stcells_one (k : Int) (nm : ByteArray) (ak an : Int) (sa : ByteArray) (aA : Option Addr) (al ac : Nat) (bk bn : Int) (sb : ByteArray) (bA : Option Addr) (bl bc : Nat) (D : Option Addr) (dl dc : Nat) (E : Option Addr) (el ec : Nat) : ∀ v ∈ stcells k nm (xcells ak an sa aA al ac) (xcells bk bn sb bA bl bc) D dl dc E el ec, v.oneCell' = true := by
  intro v hv
  simp [stcells, xcells] at hv
  rcases hv with rfl | rfl | rfl | rfl | rfl | rfl | rfl | rfl | rfl | rfl | rfl | rfl <;> rfl
theorem xbad {B : Nat} (w : World) : XR B w xzeros .bad := .bad 0 0 ⟨#[]⟩ none 0 0 (Nat.le_refl _) (Nat.zero_le _) (by decide) (by decide) (by omega)
theorem xnum {B : Nat} (w : World) (n : Int) (h : Ex.rng n) : XR B w (xcells 1 n ⟨#[]⟩ none 0 0) (.num n) := .num n ⟨#[]⟩ none 0 0 (Nat.le_refl _) (Nat.zero_le _) h

theorem num_st (n : Int) (w : World) : Calls Tryd.prog 48 #[.int .i64 n] w fun e w' => e = .returned (.agg (xcells 1 n ⟨#[]⟩ none 0 0).toArray) ∧ Below w.heap.size w w' := by
  have hb := Blk.new w 38 xzeros
  have h0 : Below w.heap.size w (w.alloc (.cells xzeros.toArray 38)) := below_alloc (Below.refl _ _) _
  unfold xzeros xcells at hb h0
  unfold xcells
  go_enter Tryd.func48, Tryd.ntmps48
  go_wp2_with (refine wpl_put_blk hb [.int .i64 1, .int .i64 n, .string ⟨#[]⟩, .slice none 0 0] (by kernel_rfl) rfl (xcells_one' 1 n ⟨#[]⟩ none 0 0) rfl rfl rfl rfl ?_; intro w3 hB3 hg3)
  exact ret_blk hB3 rfl rfl Tryd.underlying38 rfl (by kernel_rfl) rfl ⟨rfl, h0.trans ((Keeps.of_grown hg3).below h0.size (fun i hi => by cases hi; exact Nat.le_refl _))⟩
theorem async_any (A : Option Addr) (n c : Nat) (w : World) : Calls Tryd.prog 37 #[.slice A n c] w fun e w' => e = .returned (.agg (stcells 4 ⟨#[]⟩ xzeros xzeros A n c none 0 0).toArray) ∧ Below w.heap.size w w' := by
  have hb := Blk.new w 40 stzeros
  have h0 : Below w.heap.size w (w.alloc (.cells stzeros.toArray 40)) := below_alloc (Below.refl _ _) _
  simp only [stzeros, xzeros, stcells, xcells, List.cons_append, List.nil_append] at hb h0
  have h1 := stcells_one 4 ⟨#[]⟩ 0 0 ⟨#[]⟩ none 0 0 0 0 ⟨#[]⟩ none 0 0 A n c none 0 0
  have H1 := Lib.hid h1
  clear h1
  simp only [xzeros, stcells, xcells, List.cons_append, List.nil_append]
  go_enter Tryd.func37, Tryd.ntmps37
  go_wp2_with (refine wpl_put_blk hb [.int .i64 4, .string ⟨#[]⟩, .int .i64 0, .int .i64 0, .string ⟨#[]⟩, .slice none 0 0, .int .i64 0, .int .i64 0, .string ⟨#[]⟩, .slice none 0 0, .slice A n c, .slice none 0 0] (by kernel_rfl) rfl H1.out rfl rfl rfl rfl ?_; intro w3 hB3 hg3)
  exact ret_blk hB3 rfl rfl Tryd.underlying40 rfl (by kernel_rfl) rfl ⟨rfl, h0.trans ((Keeps.of_grown hg3).below h0.size (fun i hi => by cases hi; exact Nat.le_refl _))⟩
theorem finish_any (A : Option Addr) (n c : Nat) (w : World) : Calls Tryd.prog 21 #[.slice A n c] w fun e w' => e = .returned (.agg (stcells 5 ⟨#[]⟩ xzeros xzeros A n c none 0 0).toArray) ∧ Below w.heap.size w w' := by
  have hb := Blk.new w 40 stzeros
  have h0 : Below w.heap.size w (w.alloc (.cells stzeros.toArray 40)) := below_alloc (Below.refl _ _) _
  simp only [stzeros, xzeros, stcells, xcells, List.cons_append, List.nil_append] at hb h0
  have h1 := stcells_one 5 ⟨#[]⟩ 0 0 ⟨#[]⟩ none 0 0 0 0 ⟨#[]⟩ none 0 0 A n c none 0 0
  have H1 := Lib.hid h1
  clear h1
  simp only [xzeros, stcells, xcells, List.cons_append, List.nil_append]
  go_enter Tryd.func21, Tryd.ntmps21
  go_wp2_with (refine wpl_put_blk hb [.int .i64 5, .string ⟨#[]⟩, .int .i64 0, .int .i64 0, .string ⟨#[]⟩, .slice none 0 0, .int .i64 0, .int .i64 0, .string ⟨#[]⟩, .slice none 0 0, .slice A n c, .slice none 0 0] (by kernel_rfl) rfl H1.out rfl rfl rfl rfl ?_; intro w3 hB3 hg3)
  exact ret_blk hB3 rfl rfl Tryd.underlying40 rfl (by kernel_rfl) rfl ⟨rfl, h0.trans ((Keeps.of_grown hg3).below h0.size (fun i hi => by cases hi; exact Nat.le_refl _))⟩
theorem store_any (c v : Int) (w : World) : Calls Tryd.prog 38 #[.int .i64 c, .int .i64 v] w fun e w' => e = .returned (.agg (stcells 3 ⟨#[]⟩ (xcells 1 c ⟨#[]⟩ none 0 0) (xcells 1 v ⟨#[]⟩ none 0 0) none 0 0 none 0 0).toArray) ∧ Below w.heap.size w w' := by
  have hb := Blk.new w 40 stzeros
  have h0 : Below w.heap.size w (w.alloc (.cells stzeros.toArray 40)) := below_alloc (Below.refl _ _) _
  have h1 := stcells_one 3 ⟨#[]⟩ 1 c ⟨#[]⟩ none 0 0 1 v ⟨#[]⟩ none 0 0 none 0 0 none 0 0
  have H1 := Lib.hid h1
  clear h1
  simp only [stzeros, xzeros, stcells, xcells, List.cons_append, List.nil_append] at hb h0
  simp only [xzeros, stcells, xcells, List.cons_append, List.nil_append]
  go_enter Tryd.func38, Tryd.ntmps38
  go_wp2_with fail
  refine (num_st c _).mono ?_
  rintro e w1 ⟨rfl, hb1⟩
  have hB1 := hb.below hb1
  have k1 := below_next hb1 h0
  clear hb h0
  unfold xcells
  go_wp2_with fail
  refine (num_st v _).mono ?_
  rintro e w2 ⟨rfl, hb2⟩
  have hB2 := hB1.below hb2
  have k2 := below_next hb2 k1
  clear hB1 k1
  unfold xcells
  go_wp2_with (refine wpl_put_blk hB2 [.int .i64 3, .string ⟨#[]⟩, .int .i64 1, .int .i64 c, .string ⟨#[]⟩, .slice none 0 0, .int .i64 1, .int .i64 v, .string ⟨#[]⟩, .slice none 0 0, .slice none 0 0, .slice none 0 0] (by kernel_rfl) rfl H1.out rfl rfl rfl rfl ?_; intro w3 hB3 hg3)
  exact ret_blk hB3 rfl rfl Tryd.underlying40 rfl (by kernel_rfl) rfl ⟨rfl, k2.trans ((Keeps.of_grown hg3).below k2.size (fun i hi => by cases hi; exact Nat.le_refl _))⟩
end Go.Proofs.YtniekhedpdkmiaaDoor
