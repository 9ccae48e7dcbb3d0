/-
  An empty yard grows by one worker.
-/
import Derived.Test.YtajddbmmbhdnfaaYdLay2
namespace Go.Proofs.Ytajddbmmbhdnfaa
set_option linter.unusedVariables false
set_option linter.unusedSimpArgs false
set_option maxRecDepth 100000
open Go.RowKit

/-- a yard of k workers and no parts -/
def EY (w : World) (yb base k : Nat) (A Q : Value) (gs : List Nat) : Prop := YA w yb base ⟨[], List.replicate k (-1), List.replicate k [], []⟩ 0 (.slice none 0 0) A Q (.slice none 0 0) gs (List.replicate k none)

theorem dq_empty (w : World) : DqRep (w.alloc (.cells #[.slice none 0 0, .int .i64 0, .int .i64 0] 77)) w.heap.size [] none :=
  ⟨[], 0, none, 0, ⟨Blk.new w 77 [.slice none 0 0, .int .i64 0, .int .i64 0], World.ownsRow_nil _ _ _ _, Deq.ring_nil, Nat.zero_le _, Nat.zero_le _⟩, rfl⟩

theorem ey_start (w : World) (yb base : Nat) (hB : Blk w yb 74 [.slice none 0 0, .int .i64 0, .slice none 0 0, .slice none 0 0, .slice none 0 0]) (hb : base ≤ yb) : EY w yb base 0 (.slice none 0 0) (.slice none 0 0) [] :=
  ⟨hB, hb, World.ownsRow_nil _ _ _ _, World.ownsRow_nil _ _ _ _, World.ownsRow_nil _ _ _ _, World.ownsRow_nil _ _ _ _, rfl, rfl, rfl, fun i g r l a => by simp at a, List.nodup_nil, fun i j b _ a => by simp at a, fun i b a => by simp at a⟩

theorem ey_more {W w1 w2 w4 w5 : World} {yb base k : Nat} {A A' Q Q' : Value} {gs : List Nat} (h : EY W yb base k A Q gs) (ho1 : w1.ownsRow base 3 1 A' (k + 1) (ints .i64 (List.replicate k (-1)) ++ [.int .i64 (-1)])) (hg1 : W.grownBy w1 A.ownBlock)
    (hB2 : Blk w2 yb 74 [.slice none 0 0, .int .i64 0, A', Q, .slice none 0 0]) (hg2 : w1.grownBy w2 (some yb))
    (ho4 : w4.ownsRow base 75 1 Q' (gs.length + 1) (ptrs gs ++ [.pointer (some ⟨w2.heap.size, 0, none⟩)])) (hg4 : (w2.alloc (.cells #[.slice none 0 0, .int .i64 0, .int .i64 0] 77)).grownBy w4 Q.ownBlock)
    (hB5 : Blk w5 yb 74 [.slice none 0 0, .int .i64 0, A', Q', .slice none 0 0]) (hg5 : w4.grownBy w5 (some yb)) :
    EY w5 yb base (k + 1) A' Q' (gs ++ [w2.heap.size]) := by
  have hyl := h.lt
  have h1 := hg1.size
  have h2 := hg2.size
  have h5 := hg5.size
  have hyA : A.ownBlock ≠ some yb := own_blk_ne h.ats h.blk (by decide)
  have hyQ : Q.ownBlock ≠ some yb := own_blk_ne h.qus h.blk (by decide)
  have k12 : Keeps (fun k => A.ownBlock = some k ∨ k = yb) W w2 := ((Keeps.of_grown hg1).mono fun i e => .inl e.symm).trans ((Keeps.of_grown hg2).mono fun i e => .inr (by injection e))
  have k23 : Keeps (fun k => Q.ownBlock = some k ∨ k = yb) w2 w4 := (((Keeps.refl _ w2).alloc _).trans ((Keeps.of_grown hg4).mono fun i e => .inl e.symm))
  have k45 : Keeps (fun k => Q.ownBlock = some k ∨ k = yb) w4 w5 := (Keeps.of_grown hg5).mono fun i e => .inr (by injection e)
  have k25 := k23.trans k45
  have hQ2 : w2.ownsRow base 75 1 Q gs.length (ptrs gs) := own_keeps h.qus k12 fun b e hs => by
    rcases hs with hs | hs
    · exact own_own_ne h.qus h.ats (by decide) e hs
    · exact hyQ (by rw [e, hs])
  have hY1 : Blk w1 yb 74 _ := h.blk.grown hg1 (fun e => hyA e.symm)
  have hA2 : w2.ownsRow base 3 1 A' (k + 1) (ints .i64 (List.replicate k (-1)) ++ [.int .i64 (-1)]) := own_keeps ho1 (Keeps.of_grown hg2) fun b e hs => own_blk_ne ho1 hY1 (by decide) (by rw [e, hs])
  have hA5 := own_keeps hA2 k25 fun b e hs => by
    rcases hs with hs | hs
    · exact own_own_ne hA2 hQ2 (by decide) e hs
    · exact own_blk_ne hA2 hB2 (by decide) (by rw [e, hs])
  have hY4 : Blk w4 yb 74 _ := hB2.keeps (S := fun k => Q.ownBlock = some k) (((Keeps.refl _ w2).alloc _).trans ((Keeps.of_grown hg4).mono fun i e => e.symm)) hyQ
  have hQ5 := own_keeps ho4 (Keeps.of_grown hg5) fun b e hs => own_blk_ne ho4 hY4 (by decide) (by rw [e, hs])
  have hl : gs.length = k := by have := h.len1; simpa using this
  have hd2 := dq_empty w2
  have hgl : ∀ (i g : Nat), gs[i]? = some g → g < W.heap.size := fun i g hg => by
    obtain ⟨_, _, -, -, hd, -⟩ := h.of_g hg
    exact hd.lt.1
  have hd5 : DqRep w5 w2.heap.size [] none := by
    have hn : Q.ownBlock ≠ some w2.heap.size := fun e => by have := (hQ2.lt _ e).2; omega
    refine (hd2.keeps (Keeps.of_grown hg4) (fun e => hn e.symm) (fun b e => by cases e)).keeps (Keeps.of_grown hg5) (fun e => ?_) (fun b e => by cases e)
    injection e with e
    omega
  have hbase : base ≤ W.heap.size := h.base_le
  refine ⟨hB5, h.above, World.ownsRow_nil _ _ _ _, ?_, ?_, World.ownsRow_nil _ _ _ _, ?_, ?_, ?_, ?_, ?_, ?_, ?_⟩
  · simpa [List.replicate_succ', ints] using hA5
  · simpa [ptrs] using hQ5
  · simp [hl]
  · simp
  · simp
  · intro i g r l a b c
    have hr : r = none := (List.mem_replicate.1 (List.mem_of_getElem? b)).2
    have hlz : l = [] := (List.mem_replicate.1 (List.mem_of_getElem? c)).2
    subst hr
    subst hlz
    by_cases hi : i < k
    · rw [List.getElem?_append_left (by omega)] at a
      obtain ⟨d1, d2⟩ := h.dq i g none [] a (by simp [hi]) (by simp [hi])
      obtain ⟨n1, -, n3, n4, -⟩ := h.dq_ne a
      refine ⟨(d1.keeps k12 (fun e => e.elim n3 fun e => n1 e.symm) (fun b e => by cases e)).keeps k25 (fun e => e.elim n4 fun e => n1 e.symm) (fun b e => by cases e), d2⟩
    · have hi' : i < k + 1 := by have := (List.getElem?_eq_some_iff.1 c).1; simpa using this
      rw [show i = k by omega, List.getElem?_append_right (by omega), hl, Nat.sub_self] at a
      cases a
      exact ⟨hd5, by omega⟩
  · rw [List.nodup_append]
    refine ⟨h.gnd, by simp, fun a ha b hb => ?_⟩
    simp only [List.mem_singleton] at hb
    obtain ⟨i, hi⟩ := List.getElem?_of_mem ha
    have := hgl i a hi
    omega
  · intro i j b _ hb
    have := (List.mem_replicate.1 (List.mem_of_getElem? hb)).2
    cases this
  · intro i b hb
    have := (List.mem_replicate.1 (List.mem_of_getElem? hb)).2
    cases this
end Go.Proofs.Ytajddbmmbhdnfaa
