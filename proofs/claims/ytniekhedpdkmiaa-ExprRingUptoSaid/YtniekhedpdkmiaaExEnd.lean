/-
  Arguments of the laws about expressions, opened.
-/
import Derived.Test.YtniekhedpdkmiaaLawEnd
import Derived.Test.YtniekhedpdkmiaaOpenG
import Derived.Test.YtniekhedpdkmiaaEx27
namespace Go.Proofs.Ytniekhedpdkmiaa
set_option linter.unusedVariables false
set_option linter.unusedSimpArgs false
open Go.ChangeShapes Go.WideShapes Go.ChangeAt Go.RowKit

theorem open_arg_expr {H : Type} {enc : TypeId × Value → H} {W : World} {base : Nat} {v : Value} {d : DataW H} {p : List MemPlace} (hv : Value.okWide Try.prog W .any base 38 v) (h : DataW.Trod enc Try.prog W 0 (fun _ => true) true 38 v d p) (hlt : ∀ x ∈ p, x.block < W.heap.size) :
    ∃ (cs : List Value) (t : Ex.X), v = .agg cs.toArray ∧ XR W.heap.size W cs t ∧ t.leaves ≤ Rows.uptoBulk d := by
  have hT : Try.prog.underlying 38 = some (.struct (fieldsOf Try.prog 38)) := by kernel_rfl
  obtain ⟨cs, rfl, hcs⟩ := okWide_struct hT hv
  obtain ⟨fuel, hf⟩ := h
  obtain ⟨t, h1, h2⟩ := open_expr fuel cs.toList (d, p) (by simpa [Value.cells] using hf) hlt
  exact ⟨cs.toList, t, by simp, h1, h2⟩

theorem open_bind {H : Type} {enc : TypeId × Value → H} {w : World} (fuel : Nat) (cs : List Value) (x : DataW H × List MemPlace) (h : DataW.trod enc Try.prog w 0 (fun _ => true) true fuel 54 cs = some x) : ∃ z : Ex.Bd, cs = Ex.bindc z ∧ Ex.rng z.2 := by
  have hT : Try.prog.underlying 54 = some (.struct (fieldsOf Try.prog 54)) := by kernel_rfl
  obtain ⟨xs, m, rfl, rfl, hl, hxl, hfs⟩ := DataW.trod_struct hT h
  have q0 : (fieldsOf Try.prog 54)[0]?.map (fun f => (f.type, f.offset)) = some (9, 0) := by kernel_rfl
  have q1 : (fieldsOf Try.prog 54)[1]?.map (fun f => (f.type, f.offset)) = some (3, 1) := by kernel_rfl
  have hsz : (fieldsOf Try.prog 54).size = 2 := by kernel_rfl
  obtain ⟨f0, g0, p0⟩ := Option.map_eq_some_iff.1 q0
  obtain ⟨f1, g1, p1⟩ := Option.map_eq_some_iff.1 q1
  injection p0 with p0 p0'
  injection p1 with p1 p1'
  have h0 := hfs 0 f0 g0
  have h1 := hfs 1 f1 g1
  have c0 : Try.prog.cellsOf 3 = 1 := by kernel_rfl
  have c1 : Try.prog.cellsOf 9 = 1 := by kernel_rfl
  have cT : Try.prog.cellsOf 54 = 2 := by kernel_rfl
  rw [p0, p0', c1] at h0
  rw [p1, p1', c0] at h1
  rw [cT] at hl
  rw [hsz] at hxl
  match xs, hxl, cs, hl with
  | [x0, x1], _, [v0, v1], _ =>
    simp only [List.drop_succ_cons, List.drop_zero, List.take_succ_cons, List.take_zero, List.getElem?_cons_zero, List.getElem?_cons_succ] at h0 h1
    obtain ⟨n, hn, -, hwn⟩ := DataW.trod_int Try.underlying3 h1
    obtain ⟨s, hs, -, hws⟩ := DataW.trod_string Try.underlying9 h0
    simp only [List.cons.injEq, and_true] at hn hs
    subst hn hs
    exact ⟨(s, n), rfl, wf_i64.1 hwn⟩

theorem open_arg_bind {H : Type} {enc : TypeId × Value → H} {W : World} {base : Nat} {v : Value} {d : DataW H} {p : List MemPlace} (hv : Value.okWide Try.prog W .any base 54 v) (h : DataW.Trod enc Try.prog W 0 (fun _ => true) true 54 v d p) :
    ∃ (s : ByteArray) (n : Int), v = .agg #[.string s, .int .i64 n] ∧ Ex.rng n := by
  have hT : Try.prog.underlying 54 = some (.struct (fieldsOf Try.prog 54)) := by kernel_rfl
  obtain ⟨cs, rfl, hcs⟩ := okWide_struct hT hv
  obtain ⟨fuel, hf⟩ := h
  obtain ⟨⟨s, n⟩, h1, h2⟩ := open_bind fuel cs.toList (d, p) (by simpa [Value.cells] using hf)
  refine ⟨s, n, ?_, h2⟩
  congr 1
  exact Array.toList_inj.1 h1

theorem open_arg_binds {H : Type} {enc : TypeId × Value → H} {W : World} {base : Nat} {v : Value} {d : DataW H} {p : List MemPlace} (hv : Value.okWide Try.prog W .any base 39 v) (h : DataW.Trod enc Try.prog W 0 (fun _ => true) true 39 v d p) (hlt : ∀ x ∈ p, x.block < W.heap.size) :
    ∃ zs : List Ex.Bd, (∀ z ∈ zs, Ex.rng z.2) ∧ SlV W 2 v zs.length (Ex.bindcs zs) ∧ ((d = .nil ∧ zs = []) ∨ ∃ (el sp : List (DataW H)), d = .slice el sp ∧ el.length = zs.length) :=
  open_items Ex.bindc 2 (fun _ => rfl) (by decide) (fun z => Ex.rng z.2) Try.underlying39 (by kernel_rfl) open_bind (okWide_slice Try.underlying39 hv) h hlt

theorem Ex.bulk_len {H : Type} : ∀ l : List (DataW H), l.length ≤ Rows.uptoBulkAll l
  | [] => by simp
  | x :: l => by
    rw [Rows.uptoBulkAll, List.length_cons]
    have := Ex.bulk_pos x
    have := Ex.bulk_len l
    omega
theorem Ex.bulk_zs {H : Type} {d : DataW H} {zs : List Ex.Bd} (h : (d = .nil ∧ zs = []) ∨ ∃ (el sp : List (DataW H)), d = .slice el sp ∧ el.length = zs.length) : zs.length ≤ Rows.uptoBulk d := by
  rcases h with ⟨_, rfl⟩ | ⟨e, sp, rfl, he⟩
  · simp
  · have := Ex.bulk_len e
    rw [Rows.uptoBulk]
    omega
theorem Ex.bs_rng {zs : List Ex.Bd} (h : ∀ z ∈ zs, Ex.rng z.2) : ∀ b ∈ Ex.bs zs, Ex.rng b.2 := fun b hb => by
  obtain ⟨z, hz, rfl⟩ := List.mem_map.1 hb
  exact h z hz
end Go.Proofs.Ytniekhedpdkmiaa
