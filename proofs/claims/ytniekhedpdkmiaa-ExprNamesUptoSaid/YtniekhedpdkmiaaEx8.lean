/-
  expr.rebuilt, for any two functions.
-/
import Derived.Test.YtniekhedpdkmiaaEx7
namespace Go.Proofs.Ytniekhedpdkmiaa
set_option linter.unusedVariables false
set_option linter.unusedSimpArgs false
open Go.RowKit

namespace Ex
/-- what 'rebuilt' makes -/
def reb (lf : X → X) (cb : Int → X → X → X) : X → X
  | .num n => lf (.num n)
  | .name s => lf (.name s)
  | .two k a b => cb k (reb lf cb a) (reb lf cb b)
  | .bad => .num 0
end Ex

/-- a store into a block that is too short to hold two expressions -/
theorem XRN.spare {N : Bool} {B B' : Nat} {w w' : World} {cs : List Value} {e : Ex.X} {S : Nat → Prop} (h : XRN N B w cs e) (hS : ∀ g, S g → ∀ o, 4 ≤ o → w.cell? ⟨g, o, none⟩ = none) (hB : B ≤ B') (hk : ∀ p : Addr, p.block < B → ¬ S p.block → w'.cell? p = w.cell? p) : XRN N B' w' cs e := by
  induction h with
  | num n s A len cap h1 h2 h3 hN => exact .num n s A len cap h1 h2 h3 hN
  | name n s A len cap h1 h2 hN => exact .name n s A len cap h1 h2 hN
  | bad k n s A len cap h1 h2 h3 h4 h5 hN => exact .bad k n s A len cap h1 h2 h3 h4 h5 hN
  | two k n s g o len cap cs0 cs1 e0 e1 h1 h2 h3 h4 h5 h6 h7 h8 r0 r1 hN i0 i1 =>
    have hg : ¬ S g := fun hg => by
      obtain ⟨b0, b1, b2, B3, b4, b5, rfl, -, -⟩ := r1.form
      have := hS g hg (o + 4 + 0) (by omega)
      rw [h8 0 _ rfl] at this
      cases this
    exact .two k n s g o len cap cs0 cs1 e0 e1 h1 h2 h3 h4 h5 (Nat.lt_of_lt_of_le h6 hB) (fun j u hu => (hk ⟨g, o + j, none⟩ h6 hg).trans (h7 j u hu)) (fun j u hu => (hk ⟨g, o + 4 + j, none⟩ h6 hg).trans (h8 j u hu)) i0 i1 hN
theorem XRN.put {N : Bool} {w w' : World} {g : Nat} {t : TypeId} {a b c d : Value} {cs : List Value} {e : Ex.X} (h : XRN N w.heap.size w cs e) (hb : Blk w g t [a, b, c, d]) (hg : w.grownBy w' (some g)) : XRN N w'.heap.size w' cs e :=
  h.spare (S := fun k => some k = some g) (fun k hk o ho => by cases hk; rw [hb.cell]; exact List.getElem?_eq_none ho) hg.size (fun p hp hn => World.cell?_of_block (w := w) (hg.block p.block hp hn))

/-- a value that is an expression -/
def IsX (x : Ex.X) (v : Value) (w : World) : Prop := ∃ cs, v = .agg cs.toArray ∧ XN w.heap.size w cs x
theorem IsX.later {x : Ex.X} {v : Value} {w w' : World} (h : IsX x v w) (hb : Below w.heap.size w w') : IsX x v w' := by
  obtain ⟨cs, h1, h2⟩ := h
  exact ⟨cs, h1, (h2.later hb).up hb.size⟩
def FX (x : Ex.X) : Fact (fun w w' => Below w.heap.size w w') := ⟨IsX x, fun _ _ _ h k => h.later k⟩

/-- what a function value does with what has no arguments -/
structure Leafs (S : World → Prop) (kf : Nat) (bf : Array Value) (lf : Ex.X → Ex.X) : Prop where
  ent : ∀ args w, (callFunc kf args).run Try.prog w = .ok (.enter kf args) w
  num : ∀ (w : World) (n : Int), S w → Ex.rng n → Calls Try.prog kf (#[.agg (xcells 1 n ⟨#[]⟩ none 0 0).toArray] ++ bf) w fun e w' => ∃ v, e = .returned v ∧ IsX (lf (.num n)) v w' ∧ Below w.heap.size w w'
  name : ∀ (w : World) (s : ByteArray), S w → Calls Try.prog kf (#[.agg (xcells 2 0 s none 0 0).toArray] ++ bf) w fun e w' => ∃ v, e = .returned v ∧ IsX (lf (.name s.data.toList)) v w' ∧ Below w.heap.size w w'

def RebOK (S : World → Prop) (kf kg : Nat) (bf bg : Array Value) (lf : Ex.X → Ex.X) (cb : Int → Ex.X → Ex.X → Ex.X) (e : Ex.X) : Prop := ∀ (w : World) (cs : List Value), S w → XR w.heap.size w cs e →
  Calls Try.prog 31 #[.agg cs.toArray, .func (.func kf) #[] bf, .func (.func kg) #[] bg] w fun r w' => ∃ v, r = .returned v ∧ IsX (Ex.reb lf cb e) v w' ∧ Below w.heap.size w w'

theorem reb_num (S : World → Prop) (hS : ∀ w w', S w → Below w.heap.size w w' → S w') (kf kg : Nat) (bf bg : Array Value) (lf : Ex.X → Ex.X) (cb : Int → Ex.X → Ex.X → Ex.X) (hl : Leafs S kf bf lf) (n : Int) : RebOK S kf kg bf bg lf cb (.num n) := by
  intro w cs h0 h
  cases h with
  | num n s A len cap hle hm hrn =>
  go_enter Try.func31, Try.ntmps31
  unfold xcells
  go_wp2_with fail
  refine (two_no _ 1 n s A len cap (by omega) hle hm).mono ?_
  rintro e w1 ⟨rfl, hb1⟩
  unfold Ex.zeros
  obtain ⟨q0, q1, hz, hbw⟩ := allocs2 w (xcells 1 n s A len cap) Ex.zeros 38 38
  unfold xcells Ex.zeros at q0 q1 hz hbw
  have p0 := q0.below hb1
  have p1 := q1.below hb1
  have hbw1 := below_next hb1 hbw
  have hz1 := hb1.size
  rw [hz] at hz1
  clear q0 q1 hz hb1 hbw
  have x0 : ∀ o o' : Obj, ((w1.alloc o).alloc o').cell? ⟨w.heap.size, 0, none⟩ = some (.int .i64 1) := fun o o' => (((p0.alloc o).alloc o').cell 0).trans rfl
  have x1 : ∀ o o' : Obj, ((w1.alloc o).alloc o').cell? ⟨w.heap.size, 1, none⟩ = some (.int .i64 n) := fun o o' => (((p0.alloc o).alloc o').cell 1).trans rfl
  have hS1 : ∀ o o' : Obj, S ((w1.alloc o).alloc o') := fun o o' => hS _ _ h0 (below_alloc (below_alloc hbw1 o) o')
  go_wp2_with fail
  rw [hl.ent, Oper.upon_enter]
  refine (hl.num _ n (hS1 _ _) hrn).mono ?_
  rintro e w2 ⟨v, rfl, ⟨cs, rfl, hx⟩, hb2⟩
  obtain ⟨b0, b1, b2, B3, b4, b5, rfl, -, -⟩ := hx.form
  have p5 := ((p1.alloc _).alloc _).below hb2
  have hbw2 := below_next hb2 (below_alloc (below_alloc hbw1 _) _)
  have hlt := p5.lt
  unfold xcells at hx ⊢
  go_wp2_with (refine wpl_put_blk p5 [.int .i64 b0, .int .i64 b1, .string b2, .slice B3 b4 b5] (by kernel_rfl) rfl (xcells_one b0 b1 b2 B3 b4 b5) rfl rfl rfl rfl ?_; intro w3 hB3 hg3)
  exact ret_blk hB3 rfl rfl Try.underlying38 rfl (by kernel_rfl) rfl ⟨_, rfl, ⟨_, rfl, hx.put p5 hg3⟩, below_of_grown hg3 hbw2.size (by omega) |> hbw2.trans⟩
theorem reb_name (S : World → Prop) (hS : ∀ w w', S w → Below w.heap.size w w' → S w') (kf kg : Nat) (bf bg : Array Value) (lf : Ex.X → Ex.X) (cb : Int → Ex.X → Ex.X → Ex.X) (hl : Leafs S kf bf lf) (s0 : List UInt8) : RebOK S kf kg bf bg lf cb (.name s0) := by
  intro w cs h0 h
  cases h with
  | name n s A len cap hle hm =>
  go_enter Try.func31, Try.ntmps31
  unfold xcells
  go_wp2_with fail
  refine (two_no _ 2 n s A len cap (by omega) hle hm).mono ?_
  rintro e w1 ⟨rfl, hb1⟩
  unfold Ex.zeros
  obtain ⟨q0, q1, hz, hbw⟩ := allocs2 w (xcells 2 n s A len cap) Ex.zeros 38 38
  unfold xcells Ex.zeros at q0 q1 hz hbw
  have p0 := q0.below hb1
  have p1 := q1.below hb1
  have hbw1 := below_next hb1 hbw
  have hz1 := hb1.size
  rw [hz] at hz1
  clear q0 q1 hz hb1 hbw
  have x0 : ∀ o o' : Obj, ((w1.alloc o).alloc o').cell? ⟨w.heap.size, 0, none⟩ = some (.int .i64 2) := fun o o' => (((p0.alloc o).alloc o').cell 0).trans rfl
  have x2 : ∀ o o' : Obj, ((w1.alloc o).alloc o').cell? ⟨w.heap.size, 2, none⟩ = some (.string s) := fun o o' => (((p0.alloc o).alloc o').cell 2).trans rfl
  have hS1 : ∀ o o' : Obj, S ((w1.alloc o).alloc o') := fun o o' => hS _ _ h0 (below_alloc (below_alloc hbw1 o) o')
  go_wp2_with fail
  rw [hl.ent, Oper.upon_enter]
  refine (hl.name _ s (hS1 _ _)).mono ?_
  rintro e w2 ⟨v, rfl, ⟨cs, rfl, hx⟩, hb2⟩
  obtain ⟨b0, b1, b2, B3, b4, b5, rfl, -, -⟩ := hx.form
  have p5 := ((p1.alloc _).alloc _).below hb2
  have hbw2 := below_next hb2 (below_alloc (below_alloc hbw1 _) _)
  have hlt := p5.lt
  unfold xcells at hx ⊢
  go_wp2_with (refine wpl_put_blk p5 [.int .i64 b0, .int .i64 b1, .string b2, .slice B3 b4 b5] (by kernel_rfl) rfl (xcells_one b0 b1 b2 B3 b4 b5) rfl rfl rfl rfl ?_; intro w3 hB3 hg3)
  exact ret_blk hB3 rfl rfl Try.underlying38 rfl (by kernel_rfl) rfl ⟨_, rfl, ⟨_, rfl, hx.put p5 hg3⟩, below_of_grown hg3 hbw2.size (by omega) |> hbw2.trans⟩
theorem reb_bad (S : World → Prop) (hS : ∀ w w', S w → Below w.heap.size w w' → S w') (kf kg : Nat) (bf bg : Array Value) (lf : Ex.X → Ex.X) (cb : Int → Ex.X → Ex.X → Ex.X) : RebOK S kf kg bf bg lf cb .bad := by
  intro w cs h0 h
  cases h with
  | bad k n s A len cap hle hm h1 h2 hno =>
  have b1 : (k == 1) = false := by simpa using h1
  have b2 : (k == 2) = false := by simpa using h2
  go_enter Try.func31, Try.ntmps31
  unfold xcells
  go_wp2_with fail
  refine (two_no _ k n s A len cap hno hle hm).mono ?_
  rintro e w1 ⟨rfl, hb1⟩
  clear hno
  unfold Ex.zeros
  obtain ⟨q0, q1, hz, hbw⟩ := allocs2 w (xcells k n s A len cap) Ex.zeros 38 38
  unfold xcells Ex.zeros at q0 q1 hz hbw
  have p0 := q0.below hb1
  have p1 := q1.below hb1
  have hbw1 := below_next hb1 hbw
  have hz1 := hb1.size
  rw [hz] at hz1
  clear q0 q1 hz hb1 hbw
  have x0 : ∀ o o' : Obj, ((w1.alloc o).alloc o').cell? ⟨w.heap.size, 0, none⟩ = some (.int .i64 k) := fun o o' => (((p0.alloc o).alloc o').cell 0).trans rfl
  have hbw2 := fun o o' => below_alloc (below_alloc hbw1 o) o'
  have p5 := fun o o' => (p1.alloc o).alloc o'
  go_wp2_with (refine wpl_put_blk (p5 _ _) [.int .i64 1, .int .i64 0, .string ⟨#[]⟩, .slice none 0 0] (by kernel_rfl) rfl (xcells_one 1 0 ⟨#[]⟩ none 0 0) rfl rfl rfl rfl ?_; intro w3 hB3 hg3)
  exact ret_blk hB3 rfl rfl Try.underlying38 rfl (by kernel_rfl) rfl ⟨_, rfl, ⟨_, rfl, .num 0 ⟨#[]⟩ none 0 0 (Nat.le_refl _) (Nat.zero_le _) (by unfold Ex.rng; omega)⟩, (hbw2 _ _).trans (below_of_grown hg3 (hbw2 _ _).size (by omega))⟩

end Go.Proofs.Ytniekhedpdkmiaa
