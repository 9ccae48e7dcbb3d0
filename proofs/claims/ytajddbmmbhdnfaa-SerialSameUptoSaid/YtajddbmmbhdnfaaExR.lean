/-
  An expression in memory, read; an argument that is an expression, opened.
-/
import Derived.Test.YtajddbmmbhdnfaaRows
import Derived.Test.YtajddbmmbhdnfaaFld
import Derived.Test.YtajddbmmbhdnfaaOpen
import Derived.Test.YtajddbmmbhdnfaaKeep
import Derived.Test.YtajddbmmbhdnfaaExLaw
namespace Go.Proofs.Ytajddbmmbhdnfaa
set_option linter.unusedVariables false
set_option linter.unusedSimpArgs false
set_option maxRecDepth 100000
open Go.ChangeShapes Go.WideShapes Go.ChangeAt Go.RowKit

def xcells (k n : Int) (s : ByteArray) (A : Option Addr) (len cap : Nat) : List Value := [.int .i64 k, .int .i64 n, .string s, .slice A len cap]

def Ex.rng (n : Int) : Prop := -9223372036854775808 ≤ n ∧ n ≤ 9223372036854775807

inductive XRN (N : Bool) (B : Nat) (w : World) : List Value → Ex.X → Prop
  | num (n : Int) (s : ByteArray) (A : Option Addr) (len cap : Nat) : len ≤ cap → cap ≤ maxLen → Ex.rng n → (hN : N = true → s = ⟨#[]⟩ ∧ len = 0 := by intro h; first | exact absurd h (by decide) | exact ⟨rfl, rfl⟩) → XRN N B w (xcells 1 n s A len cap) (.num n)
  | name (n : Int) (s : ByteArray) (A : Option Addr) (len cap : Nat) : len ≤ cap → cap ≤ maxLen → (hN : N = true → n = 0 ∧ len = 0 := by intro h; first | exact absurd h (by decide) | exact ⟨rfl, rfl⟩) → XRN N B w (xcells 2 n s A len cap) (.name s.data.toList)
  | bad (k n : Int) (s : ByteArray) (A : Option Addr) (len cap : Nat) : len ≤ cap → cap ≤ maxLen → k ≠ 1 → k ≠ 2 → ¬ ((3 ≤ k ∧ k ≤ 9) ∧ 2 ≤ len) → (hN : N = false := by rfl) → XRN N B w (xcells k n s A len cap) .bad
  | two (k n : Int) (s : ByteArray) (g o len cap : Nat) (cs0 cs1 : List Value) (e0 e1 : Ex.X) : len ≤ cap → cap ≤ maxLen → 3 ≤ k → k ≤ 9 → 2 ≤ len → g < B →
      (∀ j u, cs0[j]? = some u → w.cell? ⟨g, o + j, none⟩ = some u) → (∀ j u, cs1[j]? = some u → w.cell? ⟨g, o + 4 + j, none⟩ = some u) → XRN N B w cs0 e0 → XRN N B w cs1 e1 →
      (hN : N = true → n = 0 ∧ s = ⟨#[]⟩ ∧ len = 2 := by intro h; first | exact absurd h (by decide) | exact ⟨rfl, rfl, rfl⟩) → XRN N B w (xcells k n s (some ⟨g, o, none⟩) len cap) (.two k e0 e1)
/-- what lies there, read; and that it is as the program itself makes it -/
abbrev XR := XRN false
abbrev XN := XRN true

theorem XRN.form {N : Bool} {B : Nat} {w : World} {cs : List Value} {e : Ex.X} (h : XRN N B w cs e) : ∃ k n s A len cap, cs = xcells k n s A len cap ∧ len ≤ cap ∧ cap ≤ maxLen := by
  cases h with
  | num n s A len cap h1 h2 => exact ⟨_, _, _, _, _, _, rfl, h1, h2⟩
  | name n s A len cap h1 h2 => exact ⟨_, _, _, _, _, _, rfl, h1, h2⟩
  | bad k n s A len cap h1 h2 => exact ⟨_, _, _, _, _, _, rfl, h1, h2⟩
  | two k n s g o len cap cs0 cs1 e0 e1 h1 h2 => exact ⟨_, _, _, _, _, _, rfl, h1, h2⟩
theorem XRN.keep {N : Bool} {B B' : Nat} {w w' : World} {cs : List Value} {e : Ex.X} (h : XRN N B w cs e) (hB : B ≤ B') (hk : ∀ p : Addr, p.block < B → w'.cell? p = w.cell? p) : XRN N B' w' cs e := by
  induction h with
  | num n s A len cap h1 h2 h3 hN => exact .num n s A len cap h1 h2 h3 hN
  | name n s A len cap h1 h2 hN => exact .name n s A len cap h1 h2 hN
  | bad k n s A len cap h1 h2 h3 h4 h5 hN => exact .bad k n s A len cap h1 h2 h3 h4 h5 hN
  | two k n s g o len cap cs0 cs1 e0 e1 h1 h2 h3 h4 h5 h6 h7 h8 _ _ hN i0 i1 =>
    exact .two k n s g o len cap cs0 cs1 e0 e1 h1 h2 h3 h4 h5 (Nat.lt_of_lt_of_le h6 hB) (fun j u hu => (hk ⟨g, o + j, none⟩ h6).trans (h7 j u hu)) (fun j u hu => (hk ⟨g, o + 4 + j, none⟩ h6).trans (h8 j u hu)) i0 i1 hN
theorem XRN.later {N : Bool} {B : Nat} {w w' : World} {cs : List Value} {e : Ex.X} (h : XRN N B w cs e) (hb : Below B w w') : XRN N B w' cs e := h.keep (Nat.le_refl _) (fun _ hp => hb.cell hp)
theorem XRN.up {N : Bool} {B B' : Nat} {w : World} {cs : List Value} {e : Ex.X} (h : XRN N B w cs e) (hB : B ≤ B') : XRN N B' w cs e := h.keep hB (fun _ _ => rfl)
theorem XRN.alloc {N : Bool} {B : Nat} {w : World} {cs : List Value} {e : Ex.X} (h : XRN N B w cs e) (hB : B ≤ w.heap.size) (o : Obj) : XRN N B (w.alloc o) cs e := h.later ((Below.refl _ _).alloc hB o)
theorem XRN.read {N : Bool} {B : Nat} {w : World} {cs : List Value} {e : Ex.X} (h : XRN N B w cs e) : XR B w cs e := by
  induction h with
  | num n s A len cap h1 h2 h3 hN => exact .num n s A len cap h1 h2 h3
  | name n s A len cap h1 h2 hN => exact .name n s A len cap h1 h2
  | bad k n s A len cap h1 h2 h3 h4 h5 hN => exact .bad k n s A len cap h1 h2 h3 h4 h5
  | two k n s g o len cap cs0 cs1 e0 e1 h1 h2 h3 h4 h5 h6 h7 h8 _ _ hN i0 i1 =>
    exact .two k n s g o len cap cs0 cs1 e0 e1 h1 h2 h3 h4 h5 h6 h7 h8 i0 i1
/-! ### an argument -/
theorem Ex.bulk_pos {H : Type} (d : DataW H) : 1 ≤ Rows.uptoBulk d := by
  cases d with
  | lit x => cases x <;> simp [Rows.uptoBulk]
  | _ => simp [Rows.uptoBulk]
theorem Ex.bulk_two {H : Type} (x y : DataW H) (l : List (DataW H)) : Rows.uptoBulk x + Rows.uptoBulk y ≤ Rows.uptoBulkAll (x :: y :: l) := by
  rw [Rows.uptoBulkAll, Rows.uptoBulkAll]; omega

theorem open_expr {H : Type} {enc : TypeId × Value → H} {w : World} : ∀ (fuel : Nat) (cs : List Value) (x : DataW H × List MemPlace), DataW.trod enc Try.prog w 0 (fun _ => true) true fuel 64 cs = some x → (∀ p ∈ x.2, p.block < w.heap.size) →
    ∃ e : Ex.X, XR w.heap.size w cs e ∧ e.leaves ≤ Rows.uptoBulk x.1 := by
  intro fuel
  induction fuel using Nat.strongRecOn with
  | _ fuel ih =>
    intro cs x h hlt
    have hT : Try.prog.underlying 64 = some (.struct (fieldsOf Try.prog 64)) := by kernel_rfl
    obtain ⟨xs, m, rfl, rfl, hl, hxl, hfs⟩ := DataW.trod_struct hT h
    have q0 : (fieldsOf Try.prog 64)[0]?.map (fun f => (f.type, f.offset)) = some (3, 0) := by kernel_rfl
    have q1 : (fieldsOf Try.prog 64)[1]?.map (fun f => (f.type, f.offset)) = some (3, 1) := by kernel_rfl
    have q2 : (fieldsOf Try.prog 64)[2]?.map (fun f => (f.type, f.offset)) = some (9, 2) := by kernel_rfl
    have q3 : (fieldsOf Try.prog 64)[3]?.map (fun f => (f.type, f.offset)) = some (62, 3) := by kernel_rfl
    have hsz : (fieldsOf Try.prog 64).size = 4 := by kernel_rfl
    obtain ⟨f0, g0, p0⟩ := Option.map_eq_some_iff.1 q0
    obtain ⟨f1, g1, p1⟩ := Option.map_eq_some_iff.1 q1
    obtain ⟨f2, g2, p2⟩ := Option.map_eq_some_iff.1 q2
    obtain ⟨f3, g3, p3⟩ := Option.map_eq_some_iff.1 q3
    injection p0 with p0 p0'
    injection p1 with p1 p1'
    injection p2 with p2 p2'
    injection p3 with p3 p3'
    have h0 := hfs 0 f0 g0
    have h1 := hfs 1 f1 g1
    have h2 := hfs 2 f2 g2
    have h3 := hfs 3 f3 g3
    have c0 : Try.prog.cellsOf 3 = 1 := by kernel_rfl
    have c1 : Try.prog.cellsOf 9 = 1 := by kernel_rfl
    have c2 : Try.prog.cellsOf 62 = 1 := by kernel_rfl
    have cT : Try.prog.cellsOf 64 = 4 := by kernel_rfl
    rw [p0, p0', c0] at h0
    rw [p1, p1', c0] at h1
    rw [p2, p2', c1] at h2
    rw [p3, p3', c2] at h3
    rw [cT] at hl
    rw [hsz] at hxl
    match xs, hxl, cs, hl with
    | [x0, x1, x2, x3], _, [v0, v1, v2, v3], _ =>
      simp only [List.drop_succ_cons, List.drop_zero, List.take_succ_cons, List.take_zero, List.getElem?_cons_zero, List.getElem?_cons_succ] at h0 h1 h2 h3
      obtain ⟨k, hk, -, hwk⟩ := DataW.trod_int Try.underlying3 h0
      obtain ⟨n, hn, -, hwn⟩ := DataW.trod_int Try.underlying3 h1
      obtain ⟨s, hs, -, hws⟩ := DataW.trod_string Try.underlying9 h2
      simp only [List.cons.injEq, and_true] at hk hn hs
      subst hk hn hs
      have hrn : Ex.rng n := wf_i64.1 hwn
      have bulk1 : Rows.uptoBulk (DataW.agg (H := H) [x0.1, x1.1, x2.1, x3.1]) = Rows.uptoBulk x0.1 + (Rows.uptoBulk x1.1 + (Rows.uptoBulk x2.1 + Rows.uptoBulk x3.1)) + 1 := by
        simp [Rows.uptoBulk, Rows.uptoBulkAll]
      have leaf : ∀ (len cap : Nat) (A : Option Addr), len ≤ cap → cap ≤ maxLen → ¬ ((3 ≤ k ∧ k ≤ 9) ∧ 2 ≤ len) → ∃ e : Ex.X, XR w.heap.size w [.int .i64 k, .int .i64 n, .string s, .slice A len cap] e ∧ e.leaves ≤ Rows.uptoBulk (DataW.agg (H := H) [x0.1, x1.1, x2.1, x3.1]) := fun len cap A hle hm hno => by
        have hb := Ex.bulk_pos (DataW.agg (H := H) [x0.1, x1.1, x2.1, x3.1])
        by_cases hk1 : k = 1
        · subst hk1; exact ⟨.num n, .num n s A len cap hle hm hrn, hb⟩
        · by_cases hk2 : k = 2
          · subst hk2; exact ⟨.name s.data.toList, .name n s A len cap hle hm, hb⟩
          · exact ⟨.bad, .bad k n s A len cap hle hm hk1 hk2 hno, hb⟩
      rcases DataW.trod_slice Try.underlying62 h3 with ⟨hcs, hx⟩ | ⟨a, len, cap, el, rest, nn, hnn, hcs, hx, -, hle, hm, hlen, hel, hsp, -⟩
      · simp only [List.cons.injEq, and_true] at hcs
        subst hcs
        exact leaf 0 0 none (Nat.le_refl _) (Nat.zero_le _) (by omega)
      · simp only [List.cons.injEq, and_true] at hcs
        subst hcs
        by_cases hk2 : (3 ≤ k ∧ k ≤ 9) ∧ 2 ≤ len
        · obtain ⟨⟨hk3, hk9⟩, h2l⟩ := hk2
          have kid : ∀ i, i < len → ∃ (y : DataW H × List MemPlace) (cs' : List Value) (e : Ex.X), el[i]? = some y ∧ cs'.length = 4 ∧ (∀ j u, cs'[j]? = some u → w.cell? ((a.add (i * 4)).add j) = some u) ∧ XR w.heap.size w cs' e ∧ e.leaves ≤ Rows.uptoBulk y.1 := by
            intro i hi
            have h4 := hel i hi
            rw [cT, List.getElem?_eq_getElem (by omega)] at h4
            obtain ⟨cs', hc', htr⟩ := Option.bind_eq_some_iff.1 h4
            obtain ⟨hb0, hl5, hat⟩ := World.cells?_some hc'
            obtain ⟨e, he1, he2⟩ := ih nn (by omega) cs' _ htr (fun p hp => hlt p (by
              rw [hx]
              simp only [List.flatMap_cons, List.flatMap_nil, List.mem_append, List.append_nil]
              exact .inr (.inr (.inr (.inr (List.mem_flatMap.2 ⟨el[i], List.mem_append_left _ (List.getElem_mem _), hp⟩))))))
            refine ⟨el[i], cs', e, List.getElem?_eq_getElem (by omega), hl5, fun j u hu => ?_, he1, he2⟩
            have hj : j < 4 := by have := (List.getElem?_eq_some_iff.1 hu).1; omega
            rw [hat j hj, hu]
          obtain ⟨ya, csa, ea, qa, la, ca, ra, ba⟩ := kid 0 (by omega)
          obtain ⟨yb, csb, eb, qb, lb, cb, rb, bb⟩ := kid 1 (by omega)
          obtain ⟨g, o, sp⟩ := a
          have hsp0 : sp = none := by
            have := ca 0 _ (List.getElem?_eq_getElem (by omega))
            simpa [Addr.add] using World.cell?_spot this
          subst hsp0
          have ca' : ∀ j u, csa[j]? = some u → w.cell? ⟨g, o + j, none⟩ = some u := fun j u hu => by
            have := ca j u hu
            rw [Addr.add_lit, Addr.add_lit] at this
            simpa using this
          have cb' : ∀ j u, csb[j]? = some u → w.cell? ⟨g, o + 4 + j, none⟩ = some u := fun j u hu => by
            have := cb j u hu
            rw [Addr.add_lit, Addr.add_lit] at this
            simpa using this
          have hg : g < w.heap.size := World.block_lt_of_cell? w _ (ca' 0 _ (List.getElem?_eq_getElem (by omega)))
          have hbulk : ea.leaves + eb.leaves ≤ Rows.uptoBulk x3.1 := by
            rw [hx]
            match el, hlen, qa, qb with
            | e0 :: e1 :: el', _, qa, qb =>
              simp only [List.getElem?_cons_zero, List.getElem?_cons_succ, Option.some.injEq] at qa qb
              subst qa qb
              have := Ex.bulk_two e0.1 e1.1 (el'.map (·.1))
              simp only [List.map_cons, Rows.uptoBulk]
              omega
          exact ⟨.two k ea eb, .two k n s g o len cap csa csb ea eb hle hm hk3 hk9 h2l hg ca' cb' ra rb, by show _ ≤ Rows.uptoBulk (DataW.agg (H := H) [x0.1, x1.1, x2.1, x3.1]); rw [bulk1]; show ea.leaves + eb.leaves ≤ _; omega⟩
        · exact leaf len cap _ hle hm hk2
end Go.Proofs.Ytajddbmmbhdnfaa
