/-
  expr.Names, walked: its function, at what has no arguments.
-/
import Derived.Test.YtajddbmmbhdnfaaEx18
namespace Go.Proofs.Ytajddbmmbhdnfaa
set_option linter.unusedVariables false
set_option linter.unusedSimpArgs false
set_option maxRecDepth 100000
open Go.RowKit

theorem nm_same {B : Nat} {w w' : World} {gf g : Nat} {v : Value} {xs : List ByteArray} (h : Nm B w gf g v xs) (hk : Keeps (fun _ => False) w w') : NmEnd B w gf g v xs (.returned (.tuple #[])) w' :=
  ⟨rfl, v, h.keeps hk, hk.mono (fun _ h => h.elim), fun i hi => .inl hi⟩

theorem names1_odd (B : Nat) (w : World) (gf g : Nat) (v : Value) (xs : List ByteArray) (h : Nm B w gf g v xs) (k n : Int) (s : ByteArray) (A : Option Addr) (len cap : Nat) (hno : ¬ ((3 ≤ k ∧ k ≤ 9) ∧ 2 ≤ len)) (hle : len ≤ cap) (hm : cap ≤ maxLen) (hk : (k == 2) = false) :
    Calls Try.prog 61 #[.agg (xcells k n s A len cap).toArray, .pointer (some ⟨gf, 0, none⟩), .pointer (some ⟨g, 0, none⟩)] w (NmEnd B w gf g v xs) := by
  have p0 := Blk.new w 64 (xcells k n s A len cap)
  have hb0 : Below w.heap.size w (w.alloc (.cells (xcells k n s A len cap).toArray 64)) := below_alloc (Below.refl _ _) _
  unfold xcells at p0 hb0
  have HN := Lib.hid h
  clear h
  go_enter Try.func61, Try.ntmps61
  unfold xcells
  go_wp2_with fail
  refine (two_no _ k n s A len cap hno hle hm).mono ?_
  rintro e w1 ⟨rfl, hb1⟩
  clear hno hle hm
  unfold Ex.zeros
  have p1 := p0.below hb1
  have hbw1 := below_next hb1 hb0
  clear p0 hb0 hb1
  have x0 : ∀ o o' : Obj, ((w1.alloc o).alloc o').cell? ⟨w.heap.size, 0, none⟩ = some (.int .i64 k) := fun o o' => (((p1.alloc o).alloc o').cell 0).trans rfl
  have hbw2 := fun o o' => below_alloc (below_alloc hbw1 o) o'
  have HB := Lib.hid hbw2
  clear hbw2 hbw1 p1
  go_wp2
  go_end0
  exact nm_same HN.out (keeps_below (HB.out _ _))

theorem names1_has (B : Nat) (w : World) (gf g : Nat) (v : Value) (xs : List ByteArray) (h : Nm B w gf g v xs) (n : Int) (s : ByteArray) (A : Option Addr) (len cap : Nat) (hle : len ≤ cap) (hm : cap ≤ maxLen) (hs : Ex.has s xs = true) :
    Calls Try.prog 61 #[.agg (xcells 2 n s A len cap).toArray, .pointer (some ⟨gf, 0, none⟩), .pointer (some ⟨g, 0, none⟩)] w (NmEnd B w gf g v xs) := by
  have p0 := Blk.new w 64 (xcells 2 n s A len cap)
  have hb0 : Below w.heap.size w (w.alloc (.cells (xcells 2 n s A len cap).toArray 64)) := below_alloc (Below.refl _ _) _
  unfold xcells at p0 hb0
  go_enter Try.func61, Try.ntmps61
  unfold xcells
  go_wp2_with fail
  refine (two_no _ 2 n s A len cap (by omega) hle hm).mono ?_
  rintro e w1 ⟨rfl, hb1⟩
  unfold Ex.zeros
  have p1 := p0.below hb1
  have hbw1 := below_next hb1 hb0
  clear p0 hb0 hb1
  have x0 : ∀ o o' : Obj, ((w1.alloc o).alloc o').cell? ⟨w.heap.size, 0, none⟩ = some (.int .i64 2) := fun o o' => (((p1.alloc o).alloc o').cell 0).trans rfl
  have x2 : ∀ o o' : Obj, ((w1.alloc o).alloc o').cell? ⟨w.heap.size, 2, none⟩ = some (.string s) := fun o o' => (((p1.alloc o).alloc o').cell 2).trans rfl
  have hN := fun o o' => h.keeps (keeps_below (below_alloc (below_alloc hbw1 o) o'))
  have g0 : ∀ o o' : Obj, ((w1.alloc o).alloc o').cell? ⟨g, 0, none⟩ = some v := fun o o' => ((hN o o').blk.cell 0).trans rfl
  have hsl : ∀ o o' : Obj, SlV ((w1.alloc o).alloc o') 1 v xs.length (strs xs) := fun o o' => SlV.of_own (hN o o').row
  obtain ⟨V, cV, rfl, u1, u2⟩ := own_slice h.row
  have hbw2 := fun o o' => below_alloc (below_alloc hbw1 o) o'
  have HB := Lib.hid hbw2
  have HN := Lib.hid h
  clear hbw2 hbw1 p1 h hN
  go_wp2_with fail
  refine (contains_str _ xs s _ (hsl _ _)).mono ?_
  rintro e w2 ⟨rfl, m, rfl⟩
  clear x0 x2 g0 hsl
  rw [hs]
  go_wp2
  go_end0
  exact nm_same HN.out ((keeps_below (HB.out _ _)).drewN m)

theorem names1_new (B : Nat) (w : World) (gf g : Nat) (v : Value) (xs : List ByteArray) (h : Nm B w gf g v xs) (n : Int) (s : ByteArray) (A : Option Addr) (len cap : Nat) (hle : len ≤ cap) (hm : cap ≤ maxLen) (hs : Ex.has s xs = false) (hr : xs.length ≤ 8796093022200) :
    Calls Try.prog 61 #[.agg (xcells 2 n s A len cap).toArray, .pointer (some ⟨gf, 0, none⟩), .pointer (some ⟨g, 0, none⟩)] w (NmEnd B w gf g v (xs ++ [s])) := by
  have p0 := Blk.new w 64 (xcells 2 n s A len cap)
  have hb0 : Below w.heap.size w (w.alloc (.cells (xcells 2 n s A len cap).toArray 64)) := below_alloc (Below.refl _ _) _
  unfold xcells at p0 hb0
  go_enter Try.func61, Try.ntmps61
  unfold xcells
  go_wp2_with fail
  refine (two_no _ 2 n s A len cap (by omega) hle hm).mono ?_
  rintro e w1 ⟨rfl, hb1⟩
  unfold Ex.zeros
  have p1 := p0.below hb1
  have hbw1 := below_next hb1 hb0
  clear p0 hb0 hb1
  have x0 : ∀ o o' : Obj, ((w1.alloc o).alloc o').cell? ⟨w.heap.size, 0, none⟩ = some (.int .i64 2) := fun o o' => (((p1.alloc o).alloc o').cell 0).trans rfl
  have x2 : ∀ o o' : Obj, ((w1.alloc o).alloc o').cell? ⟨w.heap.size, 2, none⟩ = some (.string s) := fun o o' => (((p1.alloc o).alloc o').cell 2).trans rfl
  have hN := fun o o' => h.keeps (keeps_below (below_alloc (below_alloc hbw1 o) o'))
  have g0 : ∀ o o' : Obj, ((w1.alloc o).alloc o').cell? ⟨g, 0, none⟩ = some v := fun o o' => ((hN o o').blk.cell 0).trans rfl
  have hsl : ∀ o o' : Obj, SlV ((w1.alloc o).alloc o') 1 v xs.length (strs xs) := fun o o' => SlV.of_own (hN o o').row
  obtain ⟨V, cV, rfl, u1, u2⟩ := own_slice h.row
  have hkw := fun o o' => keeps_below (below_alloc (below_alloc hbw1 o) o')
  clear hbw1 p1 h
  go_wp2_with fail
  refine (contains_str _ xs s _ (hsl _ _)).mono ?_
  rintro e w2 ⟨rfl, m, rfl⟩
  rw [hs]
  have hN2 := (hN (.cells #[.int .i64 0, .int .i64 0, .string ⟨#[]⟩, .slice none 0 0] 64) (.cells #[.int .i64 0, .int .i64 0, .string ⟨#[]⟩, .slice none 0 0] 64)).keeps ((Keeps.refl _ _).drewN m)
  have hk2 := (hkw (.cells #[.int .i64 0, .int .i64 0, .string ⟨#[]⟩, .slice none 0 0] 64) (.cells #[.int .i64 0, .int .i64 0, .string ⟨#[]⟩, .slice none 0 0] 64)).drewN m
  have y2 := x2 (.cells #[.int .i64 0, .int .i64 0, .string ⟨#[]⟩, .slice none 0 0] 64) (.cells #[.int .i64 0, .int .i64 0, .string ⟨#[]⟩, .slice none 0 0] 64)
  rw [← World.cell?_drewN _ m] at y2
  clear x0 x2 g0 hsl hN hkw
  generalize (((w1.alloc (.cells #[.int .i64 0, .int .i64 0, .string ⟨#[]⟩, .slice none 0 0] 64)).alloc (.cells #[.int .i64 0, .int .i64 0, .string ⟨#[]⟩, .slice none 0 0] 64)).drewN m) = w2 at y2 hN2 hk2 ⊢
  have g2 := (hN2.blk.cell 0).trans rfl
  simp only [List.getElem?_cons_zero] at g2
  have n63 : xs.length + 1 ≤ maxLen := by unfold maxLen; omega
  have n47 : (xs.length + 1) * 16 ≤ 140737488355328 := by omega
  have hrow := hN2.row
  have hba := hN2.base
  have HP := Lib.hid (fun w4 v' hg4 hown hv4 => nm_put (w4 := w4) (v' := v') (xs' := xs ++ [s]) hN2 hk2 hg4 hown hv4)
  clear hN2 hk2
  go_wp2_with (first | (at_builtin; refine wp_push w2 _ _ B _ _ _ _ _ Try.underlying116 info_str rfl (by decide) hrow [.string s] rfl (strs_one [s]) n63 n47 hba rfl rfl rfl rfl ?_; intro v' w4 hown4 hg4 hv4 _; obtain ⟨hb4, hend⟩ := HP.out w4 v' hg4 (by simpa [strs] using hown4) hv4; obtain ⟨V', c', rfl, _, _⟩ := own_slice hown4) | (refine wpl_set_blk hb4 0 _ (by kernel_rfl) (by simp) rfl rfl rfl rfl rfl rfl ?_; intro w5 hB5 hg5) | fail)
  go_end0
  exact hend w5 hB5 hg5
end Go.Proofs.Ytajddbmmbhdnfaa
