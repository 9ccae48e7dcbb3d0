/-
  expr: num, nam, both, with.
-/
import Derived.Test.YtajddbmmbhdnfaaEx6
namespace Go.Proofs.Ytajddbmmbhdnfaa
set_option linter.unusedVariables false
set_option linter.unusedSimpArgs false
set_option maxRecDepth 100000
open Go.RowKit

theorem num_any (n : Int) (w : World) : Calls Try.prog 32 #[.int .i64 n] w fun e w' => e = .returned (.agg (xcells 1 n ⟨#[]⟩ none 0 0).toArray) ∧ Below w.heap.size w w' := by
  have hb := Blk.new w 64 Ex.zeros
  have h0 : Below w.heap.size w (w.alloc (.cells Ex.zeros.toArray 64)) := below_alloc (Below.refl _ _) _
  unfold Ex.zeros at hb h0
  unfold xcells
  go_enter Try.func32, Try.ntmps32
  go_wp2_with (refine wpl_put_blk hb [.int .i64 1, .int .i64 n, .string ⟨#[]⟩, .slice none 0 0] (by kernel_rfl) rfl (xcells_one 1 n ⟨#[]⟩ none 0 0) rfl rfl rfl rfl ?_; intro w3 hB3 hg3)
  exact ret_blk hB3 rfl rfl Try.underlying64 rfl (by kernel_rfl) rfl ⟨rfl, h0.trans ((Keeps.of_grown hg3).below h0.size (fun i hi => by cases hi; exact Nat.le_refl _))⟩

theorem nam_any (s : ByteArray) (w : World) : Calls Try.prog 34 #[.string s] w fun e w' => e = .returned (.agg (xcells 2 0 s none 0 0).toArray) ∧ Below w.heap.size w w' := by
  have hb := Blk.new w 64 Ex.zeros
  have h0 : Below w.heap.size w (w.alloc (.cells Ex.zeros.toArray 64)) := below_alloc (Below.refl _ _) _
  unfold Ex.zeros at hb h0
  unfold xcells
  go_enter Try.func34, Try.ntmps34
  go_wp2_with (refine wpl_put_blk hb [.int .i64 2, .int .i64 0, .string s, .slice none 0 0] (by kernel_rfl) rfl (xcells_one 2 0 s none 0 0) rfl rfl rfl rfl ?_; intro w3 hB3 hg3)
  exact ret_blk hB3 rfl rfl Try.underlying64 rfl (by kernel_rfl) rfl ⟨rfl, h0.trans ((Keeps.of_grown hg3).below h0.size (fun i hi => by cases hi; exact Nat.le_refl _))⟩

theorem both_world {N : Bool} (k a0 a1 : Int) (a2 : ByteArray) (A3 : Option Addr) (a4 a5 : Nat) (b0 b1 : Int) (b2 : ByteArray) (B3 : Option Addr) (b4 b5 : Nat) (ea eb : Ex.X) (w : World) (ha : XRN N w.heap.size w (xcells a0 a1 a2 A3 a4 a5) ea) (hb : XRN N w.heap.size w (xcells b0 b1 b2 B3 b4 b5) eb) (hk3 : 3 ≤ k) (hk9 : k ≤ 9) :
    let W := (((w.alloc (.cells #[.int .i64 a0, .int .i64 a1, .string a2, .slice A3 a4 a5] 64)).alloc (.cells #[.int .i64 b0, .int .i64 b1, .string b2, .slice B3 b4 b5] 64)).alloc (.cells #[.int .i64 k, .int .i64 0, .string ⟨#[]⟩, .slice (some ⟨w.heap.size + 1 + 1 + 1, 0, none⟩) 2 2] 64)).alloc (.cells #[.int .i64 a0, .int .i64 a1, .string a2, .slice A3 a4 a5, .int .i64 b0, .int .i64 b1, .string b2, .slice B3 b4 b5] 64)
    Blk W (w.heap.size + 1 + 1) 64 (xcells k 0 ⟨#[]⟩ (some ⟨w.heap.size + 1 + 1 + 1, 0, none⟩) 2 2) ∧ XRN N W.heap.size W (xcells k 0 ⟨#[]⟩ (some ⟨w.heap.size + 1 + 1 + 1, 0, none⟩) 2 2) (.two k ea eb) ∧ Below w.heap.size w W := by
  intro W
  obtain ⟨-, -, p2, hz, hbw⟩ := allocs3 w (xcells a0 a1 a2 A3 a4 a5) (xcells b0 b1 b2 B3 b4 b5) (xcells k 0 ⟨#[]⟩ (some ⟨w.heap.size + 1 + 1 + 1, 0, none⟩) 2 2) 64 64 64
  have p3 := Blk.new (((w.alloc (.cells (xcells a0 a1 a2 A3 a4 a5).toArray 64)).alloc (.cells (xcells b0 b1 b2 B3 b4 b5).toArray 64)).alloc (.cells (xcells k 0 ⟨#[]⟩ (some ⟨w.heap.size + 1 + 1 + 1, 0, none⟩) 2 2).toArray 64)) 64 (xcells a0 a1 a2 A3 a4 a5 ++ xcells b0 b1 b2 B3 b4 b5)
  rw [hz] at p3
  have hb4 : Below w.heap.size w W := below_alloc hbw _
  have hl := p3.lt
  have hs : w.heap.size ≤ W.heap.size := hb4.size
  refine ⟨p2.alloc _, ?_, hb4⟩
  refine .two k 0 ⟨#[]⟩ (w.heap.size + 1 + 1 + 1) 0 2 2 _ _ ea eb (Nat.le_refl _) (by decide) hk3 hk9 (Nat.le_refl _) hl ?_ ?_ ((ha.later hb4).up hs) ((hb.later hb4).up hs) (fun _ => ⟨rfl, rfl, rfl⟩)
  · intro j u hu
    have hj : j < 4 := (List.getElem?_eq_some_iff.1 hu).1
    rw [Nat.zero_add]
    refine (p3.cell j).trans ?_
    rw [List.getElem?_append_left (by simpa [xcells] using hj)]
    exact hu
  · intro j u hu
    refine (p3.cell (0 + 4 + j)).trans ?_
    rw [List.getElem?_append_right (by simp [xcells])]
    simpa [xcells] using hu

theorem both_any {N : Bool} (k : Int) (a b : List Value) (ea eb : Ex.X) (w : World) (ha : XRN N w.heap.size w a ea) (hb : XRN N w.heap.size w b eb) (hk3 : 3 ≤ k) (hk9 : k ≤ 9) : Calls Try.prog 33 #[.int .i64 k, .agg a.toArray, .agg b.toArray] w fun e w' => ∃ cs, e = .returned (.agg cs.toArray) ∧ XRN N w'.heap.size w' cs (.two k ea eb) ∧ Below w.heap.size w w' := by
  obtain ⟨a0, a1, a2, A3, a4, a5, rfl, -, -⟩ := ha.form
  obtain ⟨b0, b1, b2, B3, b4, b5, rfl, -, -⟩ := hb.form
  have fin := both_world k a0 a1 a2 A3 a4 a5 b0 b1 b2 B3 b4 b5 ea eb w ha hb hk3 hk9
  have HF := Lib.hid fin
  clear fin ha hb
  unfold xcells
  go_enter Try.func33, Try.ntmps33
  go_wp2_with fail
  obtain ⟨h1, h2, h3⟩ := HF.out
  exact ret_blk h1 rfl rfl Try.underlying64 rfl (by kernel_rfl) rfl ⟨_, rfl, h2, h3⟩

end Go.Proofs.Ytajddbmmbhdnfaa
