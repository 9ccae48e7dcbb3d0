/-
  strings.Builder, made by the call and written alone: what its methods do.
-/
import Derived.Lib.Builder
import Derived.Lib.AppendStr
import Derived.Laws.Externs
import Derived.Test.YtdipieplmmhnhaaChecked
import Derived.Test.YtdipieplmmhnhaaBase2
namespace Go.Proofs.Ytdipieplmmhnhaa
set_option linter.unusedVariables false
set_option linter.unusedSimpArgs false
open Go.RowKit

abbrev Bd (B b : Nat) (bs : List Value) (w : World) : Prop := Lib.IsBuilder 68 5 B b bs w

theorem bd_size : (Try.prog.info? 68).map (·.size) = some 2 := by kernel_rfl
theorem bd_lies : liesAt Try.prog Try.prog.depth 68 (2 / Try.prog.cellsOf 68) 0 68 1 = true := by kernel_rfl
theorem info_u8 : (Try.prog.info? 5).map (fun i => (i.zero, i.size, i.bytes)) = some (some (.int .u8 0), 1, 1) := by kernel_rfl

theorem bd_fresh (b : Nat) (w : World) (h0 : w.cell? ⟨b, 0, none⟩ = some (.pointer none)) (hsh : w.shape? b = some (68, 2)) (hfz : w.frozen? ⟨b, 0, none⟩ = false) :
    Calls Try.prog 47 #[.pointer (some ⟨b, 0, none⟩)] w fun e w' => e = .returned (.tuple #[]) ∧ w' = w.setCell ⟨b, 0, none⟩ (.pointer (some ⟨b, 0, none⟩)) := by
  obtain ⟨j, hj, hjs⟩ := Option.map_eq_some_iff.1 bd_size
  go_enter Try.func47, Try.ntmps47
  go_wp2
  rw [Lib.run_to_unsafe w ⟨b, 0, none⟩ Try.underlying66 Try.underlying92 hj (by rw [hjs]; decide) hsh (Nat.zero_lt_succ 1)]
  simp only [Result.andThen]
  rw [Oper.upon_value]
  go_wp2
  rw [run_callFunc_extern Try.func50 (by kernel_rfl) (by kernel_rfl) (by kernel_rfl) (e := Extern.AbiNoEscape.same) (by kernel_rfl)]
  rw [Lib.run_noEscape]
  simp only [Result.andThen]
  rw [Oper.upon_value]
  go_wp2
  rw [Lib.run_from_unsafe w ⟨b, 0, none⟩ Try.underlying92 Try.underlying66 hj hsh bd_lies]
  simp only [Result.andThen]
  rw [Oper.upon_value]
  go_wp2
  go_end0
  exact ⟨rfl, rfl⟩
theorem bd_used (b : Nat) (w : World) (h0 : w.cell? ⟨b, 0, none⟩ = some (.pointer (some ⟨b, 0, none⟩))) :
    Calls Try.prog 47 #[.pointer (some ⟨b, 0, none⟩)] w fun e w' => e = .returned (.tuple #[]) ∧ w' = w := by
  obtain ⟨j, hj, _⟩ := Option.map_eq_some_iff.1 bd_size
  go_enter Try.func47, Try.ntmps47
  go_wp2
  rw [Lib.run_neq_ptr_same w _ Try.underlying66 hj]
  go_wp2
  go_end0
  exact ⟨rfl, rfl⟩
theorem bd_check (B b : Nat) (bs : List Value) (w : World) (h : Bd B b bs w) :
    Calls Try.prog 47 #[.pointer (some ⟨b, 0, none⟩)] w fun e w' => e = .returned (.tuple #[]) ∧ Lib.BuilderAt 68 5 B b (.pointer (some ⟨b, 0, none⟩)) bs w' ∧ w.grownBy w' (some b) := by
  rcases h with h | h
  · exact (bd_fresh b w h.cell0 h.shape h.frozen0).mono fun e w' ⟨h1, h2⟩ => by
      subst h1 h2
      exact ⟨rfl, h.used _, grown_setCell w b 0 _⟩
  · exact (bd_used b w h.cell0).mono fun e w' ⟨h1, h2⟩ => by
      subst h1 h2
      exact ⟨rfl, h, grown_drewN w' 0 _⟩

/-- what is no row of bytes, and not the builder, stays -/
def Spare (b : Nat) (w w' : World) : Prop := ∀ q t cs, t ≠ 5 → q ≠ b → Blk w q t cs → Blk w' q t cs
theorem spare_of {b : Nat} {w w1 w2 : World} {B n : Nat} {v : Value} {xs : List Value} {r : Value} (h1 : w.grownBy w1 (some b)) (hown : w1.ownsRow B 5 1 v n xs) (h2 : w1.grownBy w2 v.ownBlock) : Spare b w (w2.setCell ⟨b, 1, none⟩ r) := fun q t cs ht hq hB => by
  have k1 := hB.grown h1 (fun e => hq (by injection e))
  have k2 := k1.grown h2 (fun e => own_blk_ne hown k1 (fun e => ht e.symm) e.symm)
  exact k2.far (p := ⟨b, 1, none⟩) hq _
theorem bd_keeps {B b : Nat} {bs : List Value} {w w' : World} (h : Bd B b bs w) (k : Keeps (fun _ => False) w w') : Bd B b bs w' := by
  have key : ∀ p, Lib.BuilderAt 68 5 B b p bs w → Lib.BuilderAt 68 5 B b p bs w' := fun p h => by
    obtain ⟨hB, v, hb, hown, hne⟩ := h
    exact ⟨hB, v, (k.block b (Array.getElem?_eq_some_iff.1 hb).1 (fun h => h)).trans hb, own_keeps hown k (fun _ _ h => h), hne⟩
  exact h.imp (key _) (key _)
theorem bd_new (w : World) : Bd w.heap.size w.heap.size [] (w.alloc (.cells #[.pointer none, .slice none 0 0] 68)) := by
  refine .inl ⟨Nat.le_refl _, .slice none 0 0, Blk.new w 68 [.pointer none, .slice none 0 0], World.ownsRow_nil _ _ _ _, by simp [Value.ownBlock]⟩

theorem bd_byte (B b : Nat) (bs : List Value) (c : Int) (w : World) (h : Bd B b bs w) (hlen : bs.length + 1 ≤ 140737488355328) (hBw : B ≤ w.heap.size) :
    Calls Try.prog 36 #[.pointer (some ⟨b, 0, none⟩), .int .u8 c] w fun e w' => e = .returned .nilIface ∧ Bd B b (bs ++ [.int .u8 c]) w' ∧ Below B w w' ∧ Spare b w w' := by
  go_enter Try.func36, Try.ntmps36
  go_wp2_with fail
  refine (bd_check B b bs w h).mono ?_
  rintro e w1 ⟨rfl, ⟨hB, v, hbk, hown, hne⟩, hg1⟩
  have hb1 : Below B w w1 := below_of_grown hg1 hBw hB
  have hbB : Blk w1 b 68 [.pointer (some ⟨b, 0, none⟩), v] := hbk
  have c0 := hbB.cell 0
  have c1 := hbB.cell 1
  simp only [List.getElem?_cons_zero, List.getElem?_cons_succ] at c0 c1
  have n63 : bs.length + 1 ≤ maxLen := by unfold maxLen; omega
  have hb1s := hb1.size
  have n47 : (bs.length + 1) * 1 ≤ 140737488355328 := by omega
  have hbb : B ≤ w1.heap.size := by omega
  go_wp2_with (at_builtin; (refine wp_push w1 _ _ B _ _ _ _ _ Try.underlying40 info_u8 rfl (by decide) hown [.int .u8 c] rfl (by simp [Value.oneCell']) n63 n47 hbb rfl rfl rfl rfl ?_); intro v' w2 hown' hgrow _ hb2; have hbB2 := hbB.grown hgrow (fun e => hne e.symm); obtain ⟨A', c', rfl, hle', hm'⟩ := own_slice hown'; have d1 := hbB2.cell 1; have f1 := hbB2.frozen 1; simp only [List.getElem?_cons_zero, List.getElem?_cons_succ] at d1)
  go_ret
  refine ⟨rfl, .inr ?_, (hb1.trans hb2).setCell (p := ⟨b, 1, none⟩) hB _, spare_of hg1 hown hgrow⟩
  exact Lib.BuilderAt.put hB hbB2 (bs' := bs ++ [.int .u8 c]) (by simpa using hown') (by decide)

theorem bd_str (B b : Nat) (bs : List Value) (s : ByteArray) (w : World) (h : Bd B b bs w) (hlen : bs.length + s.size ≤ 140737488355328) (hBw : B ≤ w.heap.size) :
    Calls Try.prog 37 #[.pointer (some ⟨b, 0, none⟩), .string s] w fun e w' => e = .returned (.tuple #[.int .i64 s.size, .nilIface]) ∧ Bd B b (bs ++ Lib.strCells s) w' ∧ Below B w w' ∧ Spare b w w' := by
  obtain ⟨i0, hi, hz0, hz1, hz2⟩ := info_parts info_u8
  go_enter Try.func37, Try.ntmps37
  go_wp2_with fail
  refine (bd_check B b bs w h).mono ?_
  rintro e w1 ⟨rfl, ⟨hB, v, hbk, hown, hne⟩, hg1⟩
  have hb1 : Below B w w1 := below_of_grown hg1 hBw hB
  have hbB : Blk w1 b 68 [.pointer (some ⟨b, 0, none⟩), v] := hbk
  have c0 := hbB.cell 0
  have c1 := hbB.cell 1
  simp only [List.getElem?_cons_zero, List.getElem?_cons_succ] at c0 c1
  have n63 : bs.length + s.size ≤ maxLen := by unfold maxLen; omega
  have hb1s := hb1.size
  go_wp2_with (at_builtin; refine Lib.wpList_append_own_string _ rfl _ _ 40 9 rfl B 5 i0 Try.underlying40 Try.underlying9 hi hz0 hz1 hz2 _ _ _ rfl hown s rfl n63 (by omega) (by omega) ?_; intro v' w2 hown' hgrow _; have hb2 : Below B w1 w2 := (Below.refl _ _).grown hgrow (by omega) (own_ge hown); have hbB2 := hbB.grown hgrow (fun e => hne e.symm); obtain ⟨A', c', rfl, hle', hm'⟩ := own_slice hown'; have d1 := hbB2.cell 1; have f1 := hbB2.frozen 1; simp only [List.getElem?_cons_zero, List.getElem?_cons_succ] at d1)
  go_ret2
  refine ⟨rfl, .inr ?_, (hb1.trans hb2).setCell (p := ⟨b, 1, none⟩) hB _, spare_of hg1 hown hgrow⟩
  exact Lib.BuilderAt.put hB hbB2 (bs' := bs ++ Lib.strCells s) (by simpa [Lib.strCells_length] using hown') (by decide)
end Go.Proofs.Ytdipieplmmhnhaa
