/-
  An argument that is a term, or a struct of integers, at a law's end.
-/
import Derived.Test.YtajddbmmbhdnfaaLawEnd
import Derived.Test.YtajddbmmbhdnfaaTerm
namespace Go.Proofs.Ytajddbmmbhdnfaa
set_option linter.unusedVariables false
set_option linter.unusedSimpArgs false
set_option maxRecDepth 100000
open Go.ChangeShapes Go.WideShapes Go.ChangeAt Go.RowKit

theorem open_arg_cnt {H : Type} {enc : TypeId × Value → H} {W : World} {base : Nat} {v : Value} {d : DataW H} {p : List MemPlace} (hv : Value.okWide Try.prog W .any base 26 v) (h : DataW.Trod enc Try.prog W 0 (fun _ => true) true 26 v d p) (hlt : ∀ x ∈ p, x.block < W.heap.size) :
    ∃ (cs : List Value) (t : Sp.T), v = .agg cs.toArray ∧ TmR W.heap.size W cs t ∧ t.cnt ≤ Rows.uptoBulk d := by
  have hT : Try.prog.underlying 26 = some (.struct (fieldsOf Try.prog 26)) := by kernel_rfl
  obtain ⟨cs, rfl, hcs⟩ := okWide_struct hT hv
  obtain ⟨fuel, hf⟩ := h
  obtain ⟨t, h1, h2⟩ := open_term fuel cs.toList (d, p) (by simpa [Value.cells] using hf) hlt
  exact ⟨cs.toList, t, by simp, h1, h2⟩
theorem open_arg_term {H : Type} {enc : TypeId × Value → H} {W : World} {base : Nat} {v : Value} {d : DataW H} {p : List MemPlace} (hv : Value.okWide Try.prog W .any base 26 v) (h : DataW.Trod enc Try.prog W 0 (fun _ => true) true 26 v d p) (hlt : ∀ x ∈ p, x.block < W.heap.size) :
    ∃ (cs : List Value) (t : Sp.T), v = .agg cs.toArray ∧ TmR W.heap.size W cs t ∧ t.size ≤ Rows.uptoBulk d := by
  obtain ⟨cs, t, h1, h2, h3⟩ := open_arg_cnt hv h hlt
  exact ⟨cs, t, h1, h2, Nat.le_trans t.size_le_cnt h3⟩
/-- an argument that is a struct of n integers -/
theorem open_arg_ints {H : Type} {enc : TypeId × Value → H} {W : World} {base : Nat} {v : Value} {d : DataW H} {p : List MemPlace} {e : TypeId} {n : Nat} {fs : Array Field} (he : Try.prog.underlying e = some (.struct fs)) (hn : fs.size = n) (hC : Try.prog.cellsOf e = n) (hf : intFields Try.prog fs = true) (hv : Value.okWide Try.prog W .any base e v) (h : DataW.Trod enc Try.prog W 0 (fun _ => true) true e v d p) :
    ∃ r : List Int, v = .agg (irow r).toArray ∧ r.length = n ∧ Wfs .i64 r := by
  obtain ⟨cs, rfl, hcs⟩ := okWide_struct he hv
  obtain ⟨fuel, hfu⟩ := h
  obtain ⟨r, h1, h2, h3⟩ := struct_ints he hn hC hf (by simpa [Value.cells] using hfu)
  exact ⟨r, by rw [← h2], h1, h3⟩

theorem open_arg_two {H : Type} {enc : TypeId × Value → H} {W : World} {base : Nat} {v : Value} {d : DataW H} {p : List MemPlace} {e : TypeId} {fs : Array Field} (he : Try.prog.underlying e = some (.struct fs)) (hn : fs.size = 2) (hC : Try.prog.cellsOf e = 2) (hf : intFields Try.prog fs = true) (hv : Value.okWide Try.prog W .any base e v) (h : DataW.Trod enc Try.prog W 0 (fun _ => true) true e v d p) :
    ∃ a b : Int, v = .agg #[.int .i64 a, .int .i64 b] := by
  obtain ⟨r, h1, h2, -⟩ := open_arg_ints he hn hC hf hv h
  match r, h2 with
  | [a, b], _ => exact ⟨a, b, h1⟩

theorem bulk_pos {H : Type} (d : DataW H) : 1 ≤ Rows.uptoBulk d := by
  cases d with
  | lit x => cases x <;> simp [Rows.uptoBulk]
  | _ => simp [Rows.uptoBulk]
theorem bulk_len {H : Type} : ∀ l : List (DataW H), l.length ≤ Rows.uptoBulkAll l
  | [] => by simp
  | x :: l => by
    rw [Rows.uptoBulkAll, List.length_cons]
    have := bulk_pos x
    have := bulk_len l
    omega
theorem bulk_rows {H : Type} {d : DataW H} {n : Nat} (h : (d = .nil ∧ n = 0) ∨ ∃ (el sp : List (DataW H)), d = .slice el sp ∧ el.length = n) : n ≤ Rows.uptoBulk d := by
  rcases h with ⟨_, rfl⟩ | ⟨e, sp, rfl, he⟩
  · exact Nat.zero_le _
  · have := bulk_len e
    rw [Rows.uptoBulk]
    omega
end Go.Proofs.Ytajddbmmbhdnfaa
