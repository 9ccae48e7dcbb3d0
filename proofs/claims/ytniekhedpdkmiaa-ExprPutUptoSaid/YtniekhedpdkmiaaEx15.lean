/-
  expr.Put, walked.
-/
import Derived.Test.YtniekhedpdkmiaaEx14
namespace Go.Proofs.Ytniekhedpdkmiaa
set_option linter.unusedVariables false
set_option linter.unusedSimpArgs false
open Go.RowKit

namespace Ex
/-- what stands in a leaf's place -/
def putl (t : Bs) (by_ : X) : X → X
  | .name s => if (s == t) = true then copy by_ else .name s
  | x => x
def put (t : Bs) (by_ e : X) : X := reb (putl t by_) .two e
end Ex
structure PutS (q4 q5 q7 q8 : Nat) (t : ByteArray) (cs : List Value) (e : Ex.X) (w : World) : Prop where
  lt : q4 < w.heap.size
  name : w.cell? ⟨q4, 0, none⟩ = some (.string t)
  own : Blk w q8 75 [.func (.func 39) #[] #[.pointer (some ⟨q5, 0, none⟩), .pointer (some ⟨q7, 0, none⟩)]]
  by_ : Blk w q5 38 cs
  read : XR w.heap.size w cs e
  same : Blk w q7 40 [.func (.func 38) #[] #[]]
theorem PutS.later {q4 q5 q7 q8 : Nat} {t : ByteArray} {cs : List Value} {e : Ex.X} {w w' : World} (h : PutS q4 q5 q7 q8 t cs e w) (hb : Below w.heap.size w w') : PutS q4 q5 q7 q8 t cs e w' :=
  ⟨Nat.lt_of_lt_of_le h.lt hb.size, (hb.cell (p := ⟨q4, 0, none⟩) h.lt).trans h.name, h.own.below hb, h.by_.below hb, (h.read.later hb).up hb.size, h.same.below hb⟩
theorem leafs_put (q4 q5 q7 q8 : Nat) (t : ByteArray) (cs : List Value) (e : Ex.X) : Leafs (PutS q4 q5 q7 q8 t cs e) 40 #[.pointer (some ⟨q4, 0, none⟩), .pointer (some ⟨q8, 0, none⟩)] (Ex.putl t.data.toList e) where
  ent := enters_of Try.func40 (by kernel_rfl) rfl
  num := fun w n _ hr => put3_num w q4 q8 n hr
  name := fun w s h => by
    rcases hq : (s.toList == t.toList) with _ | _
    · have hq' : ¬ (s.data.toList == t.data.toList) = true := by simpa [ByteArray.toList_eq] using hq
      rw [Ex.putl, if_neg hq']
      exact put3_other w q4 q8 s t h.name h.lt hq
    · have hq' : (s.data.toList == t.data.toList) = true := by simpa [ByteArray.toList_eq] using hq
      rw [Ex.putl, if_pos hq']
      exact put3_same w q4 q5 q7 q8 s t cs e h.name h.lt hq h.own h.by_ h.read h.same

theorem put_world (w W w5 w6 : World) (ca cb : List Value) (e by_ : Ex.X) (t : ByteArray) (hb : Below w.heap.size w W) (hz : W.heap.size = w.heap.size + 1 + 1 + 1 + 1)
    (d0 : Blk W w.heap.size 38 ca) (d1 : Blk W (w.heap.size + 1) 9 [.string t]) (d2 : Blk W (w.heap.size + 1 + 1) 38 cb) (d3 : Blk W (w.heap.size + 1 + 1 + 1) 38 Ex.zeros) (h : XR w.heap.size w ca e) (h' : XR w.heap.size w cb by_)
    (hB5 : Blk w5 (w.heap.size + 1 + 1 + 1 + 1) 40 [.func (.func 38) #[] #[]]) (hg5 : (W.alloc (.cells #[.nilFunc] 40)).grownBy w5 (some (w.heap.size + 1 + 1 + 1 + 1)))
    (hB6 : Blk w6 w5.heap.size 75 [.func (.func 39) #[] #[.pointer (some ⟨w.heap.size + 1 + 1, 0, none⟩), .pointer (some ⟨w.heap.size + 1 + 1 + 1 + 1, 0, none⟩)]]) (hg6 : (w5.alloc (.cells #[.nilFunc] 75)).grownBy w6 (some w5.heap.size)) :
    PutS (w.heap.size + 1) (w.heap.size + 1 + 1) (w.heap.size + 1 + 1 + 1 + 1) w5.heap.size t cb by_ w6 ∧ XR w6.heap.size w6 ca e ∧ Blk w6 w.heap.size 38 ca ∧ Blk w6 (w.heap.size + 1 + 1 + 1) 38 Ex.zeros ∧ Below w.heap.size w w6 := by
  have k5 : Below W.heap.size W w5 := (below_alloc (Below.refl _ W) _).trans (below_of_grown hg5 (by simp) (by omega))
  have k6 : Below w5.heap.size w5 w6 := (below_alloc (Below.refl _ w5) _).trans (below_of_grown hg6 (by simp) (Nat.le_refl _))
  have k : Below W.heap.size W w6 := below_next k6 k5
  have kw : Below w.heap.size w w6 := below_next k hb
  have e1 := d1.below k
  have hs := kw.size
  exact ⟨⟨e1.lt, (e1.cell 0).trans rfl, hB6, d2.below k, (h'.later kw).up hs, hB5.below k6⟩, (h.later kw).up hs, d0.below k, d3.below k, kw⟩

/-- **expr.Put** -/
theorem put_ok (e by_ : Ex.X) (w : World) (cs cb : List Value) (t : ByteArray) (h : XR w.heap.size w cs e) (hb : XR w.heap.size w cb by_) : Calls Try.prog 22 #[.agg cs.toArray, .string t, .agg cb.toArray] w fun r w' => ∃ v, r = .returned v ∧ IsX (Ex.put t.data.toList by_ e) v w' ∧ Below w.heap.size w w' := by
  obtain ⟨a0, a1, a2, A3, a4, a5, rfl, -, -⟩ := h.form
  obtain ⟨b0, b1, b2, B3, b4, b5, rfl, -, -⟩ := hb.form
  unfold xcells at h hb ⊢
  have d0 := Blk.new w 38 [.int .i64 a0, .int .i64 a1, .string a2, .slice A3 a4 a5]
  have b0' : Below w.heap.size w (w.alloc (.cells [.int .i64 a0, .int .i64 a1, .string a2, .slice A3 a4 a5].toArray 38)) := below_alloc (Below.refl _ _) _
  have z0 : (w.alloc (.cells [.int .i64 a0, .int .i64 a1, .string a2, .slice A3 a4 a5].toArray 38)).heap.size = w.heap.size + 1 := by simp
  obtain ⟨W1, hW1⟩ : ∃ W1, W1 = w.alloc (.cells [.int .i64 a0, .int .i64 a1, .string a2, .slice A3 a4 a5].toArray 38) := ⟨_, rfl⟩
  rw [← hW1] at d0 b0' z0
  obtain ⟨d1, d2, d3, z3, b3'⟩ := allocs3 W1 [.string t] [.int .i64 b0, .int .i64 b1, .string b2, .slice B3 b4 b5] Ex.zeros 9 38 38
  have d0 := d0.below b3'
  have hb3 := below_next b3' b0'
  rw [z0] at d1 d2 d3 z3
  have d4 := Blk.new (((W1.alloc (.cells [Value.string t].toArray 9)).alloc (.cells [Value.int .i64 b0, .int .i64 b1, .string b2, .slice B3 b4 b5].toArray 38)).alloc (.cells Ex.zeros.toArray 38)) 40 [.nilFunc]
  rw [z3] at d4
  subst hW1
  unfold Ex.zeros at d0 d1 d2 d3 d4 hb3 z3
  go_enter Try.func22, Try.ntmps22
  have HD := fun w5 w6 hB5 hg5 hB6 hg6 => put_world w _ w5 w6 _ _ e by_ t hb3 z3 d0 d1 d2 d3 h hb hB5 hg5 hB6 hg6
  have HD := Lib.hid HD
  clear h hb d0 d1 d2 d3 z3 hb3
  go_wp2_with (first | (refine wpl_set_blk d4 0 (.func (.func 38) #[] #[]) (by kernel_rfl) (by simp) rfl rfl rfl rfl rfl rfl ?_; intro w5 hB5 hg5) | (refine wpl_set_blk (Blk.new w5 75 [.nilFunc]) 0 (.func (.func 39) #[] #[.pointer (some ⟨w.heap.size + 1 + 1, 0, none⟩), .pointer (some ⟨w.heap.size + 1 + 1 + 1 + 1, 0, none⟩)]) (by kernel_rfl) (by simp) rfl rfl rfl rfl rfl rfl ?_; intro w6 hB6 hg6; obtain ⟨hp, hx, hb0, hb3, hbw⟩ := HD.out w5 w6 hB5 hg5 hB6 hg6; have x0 := (hb0.cell 0).trans rfl; have x1 := (hb0.cell 1).trans rfl; have x2 := (hb0.cell 2).trans rfl; have x3 := (hb0.cell 3).trans rfl; simp only [List.getElem?_cons_zero, List.getElem?_cons_succ] at x0 x1 x2 x3; clear HD hB5 hg5 hB6 hg6 hb0 d4) | fail)
  refine (reb_ok (PutS _ _ _ _ t _ by_) (fun _ _ h hb => h.later hb) _ _ _ _ _ _ (leafs_put _ _ _ _ t _ by_) (combs_with _) e _ _ hp hx).mono ?_
  rintro r w1 ⟨v, rfl, ⟨cs, rfl, hx1⟩, hb1⟩
  have p5 := hb3.below hb1
  have hb2 := below_next hb1 hbw
  clear HD x0 x1 x2 x3 hp hx hb3 hbw
  obtain ⟨c0, c1, c2, C3, c4, c5, rfl, -, -⟩ := hx1.form
  unfold Ex.zeros at p5
  unfold xcells at hx1 ⊢
  go_wp2_with (refine wpl_put_blk p5 [.int .i64 c0, .int .i64 c1, .string c2, .slice C3 c4 c5] (by kernel_rfl) rfl (xcells_one c0 c1 c2 C3 c4 c5) rfl rfl rfl rfl ?_; intro w3 hB3 hg3)
  exact ret_blk hB3 rfl rfl Try.underlying38 rfl (by kernel_rfl) rfl ⟨_, rfl, ⟨_, rfl, hx1.put p5 hg3⟩, hb2.trans (below_of_grown hg3 hb2.size (by omega))⟩
end Go.Proofs.Ytniekhedpdkmiaa
