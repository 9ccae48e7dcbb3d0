/-
  Package lex, walked: Join; the law's alike.
-/
import Derived.Test.YtdipieplmmhnhaaLex3
import Derived.Test.YtdipieplmmhnhaaBld
import Derived.Test.YtdipieplmmhnhaaShelf
namespace Go.Proofs.Ytdipieplmmhnhaa
set_option linter.unusedVariables false
set_option linter.unusedSimpArgs false
open Go.RowKit

namespace Lx
theorem strCells_bytes (t : List UInt8) : Lib.strCells ⟨t.toArray⟩ = Lib.byteCells t := rfl
theorem byteCells_append (a b : Bs) : Lib.byteCells (a ++ b) = Lib.byteCells a ++ Lib.byteCells b := by simp [Lib.byteCells]
theorem byteCells_len (a : Bs) : (Lib.byteCells a).length = a.length := by simp [Lib.byteCells]
theorem join_snoc : ∀ (l : List Bs) (x : Bs), join (l ++ [x]) = if l = [] then x else join l ++ 32 :: x
  | [], x => rfl
  | [y], x => rfl
  | y :: z :: l, x => by
    have := join_snoc (z :: l) x
    rw [if_neg (by simp)] at this ⊢
    show y ++ 32 :: join ((z :: l) ++ [x]) = (y ++ 32 :: join (z :: l)) ++ 32 :: x
    rw [this, List.append_assoc]
    rfl
theorem join_le (l : List Bs) (x : Bs) : (join l).length ≤ (join (l ++ [x])).length := by
  rw [join_snoc]
  split
  · rename_i h; rw [h]; simp [join]
  · simp only [List.length_append]; omega
theorem join_take (l : List Bs) : ∀ n k, l.length - k ≤ n → (join (l.take k)).length ≤ (join l).length := by
  intro n
  induction n with
  | zero => intro k h; rw [List.take_of_length_le (by omega)]; exact Nat.le_refl _
  | succ n ih =>
    intro k h
    by_cases hk : k < l.length
    · have h1 := ih (k + 1) (by omega)
      rw [List.take_succ_eq_append_getElem hk] at h1
      exact Nat.le_trans (join_le _ _) h1
    · rw [List.take_of_length_le (by omega)]; exact Nat.le_refl _
/-- the texts of tokens, joined -/
def text (l : List Tk) : Bs := join (l.map (·.2.2))
theorem text_succ (l : List Tk) (k : Nat) (x : Tk) (h : l[k]? = some x) : text (l.take (k + 1)) = if k = 0 then x.2.2 else text (l.take k) ++ 32 :: x.2.2 := by
  obtain ⟨hk, rfl⟩ := List.getElem?_eq_some_iff.1 h
  unfold text
  rw [List.take_succ_eq_append_getElem hk, List.map_append, List.map_cons, List.map_nil, join_snoc]
  by_cases h0 : k = 0
  · subst h0; simp
  · rw [if_neg h0, if_neg]
    intro e
    have := congrArg List.length e
    rw [List.length_map, List.length_take, List.length_nil] at this
    omega
theorem text_take (l : List Tk) (k : Nat) : (text (l.take k)).length ≤ (text l).length := by
  unfold text
  rw [List.map_take]
  exact join_take _ _ k (Nat.le_refl _)
theorem tkcs_get (l : List Tk) (k : Nat) (x : Tk) (h : l[k]? = some x) : (tkcs l)[k * 3]? = some (.int .i64 x.1) ∧ (tkcs l)[k * 3 + 1]? = some (.int .i64 x.2.1) ∧ (tkcs l)[k * 3 + 2]? = some (.string ⟨x.2.2.toArray⟩) :=
  ⟨flat_get tkc 3 (fun _ => rfl) l k 0 x h (by omega), flat_get tkc 3 (fun _ => rfl) l k 1 x h (by omega), flat_get tkc 3 (fun _ => rfl) l k 2 x h (by omega)⟩
end Lx

set_option maxRecDepth 100000 in
set_option maxHeartbeats 4000000 in
theorem lexjoin_any (v : Value) (l : List Lx.Tk) (w : World) (h : SlV w 3 v l.length (Lx.tkcs l)) (hl : (Lx.text l).length ≤ 16777216) :
    Calls Try.prog 19 #[v] w fun e w' => e = .returned (.string ⟨(Lx.text l).toArray⟩) ∧ Below w.heap.size w w' := by
  obtain ⟨A, c, rfl, hle, hm, hlen, hc⟩ := h
  unfold maxLen at hm
  have hbd := bd_new w
  have hb0 : Below w.heap.size w (w.alloc (.cells #[.pointer none, .slice none 0 0] 68)) := below_alloc (Below.refl _ _) _
  have hsz0 : w.heap.size < (w.alloc (.cells #[.pointer none, .slice none 0 0] 68)).heap.size := by simp
  have htt := Lx.text_take l
  have HTT := Lib.hid htt
  clear hlen htt
  go_enter Try.func19, Try.ntmps19
  go_wp2_with fail
  obtain ⟨b, hb⟩ : ∃ b, b = w.heap.size := ⟨_, rfl⟩
  rw [← hb] at hbd hsz0 hb0 hc ⊢
  have HBQ := Lib.hid hb
  clear hb
  go_loopw [8] (fun i wr => ∃ k : Nat, k ≤ l.length ∧ i = .int .i64 k ∧ Bd b b (Lib.byteCells (Lx.text (l.take k))) wr ∧ Below b w wr ∧ b < wr.heap.size) (fun i _ => l.length - (intOf i).toNat)
  case atStart => exact ⟨0, Nat.zero_le _, rfl, hbd, hb0, hsz0⟩
  case round =>
    clear hbd hb0 hsz0
    obtain ⟨k, hk, rfl, hbd, hbw, hbs⟩ := hrel
    by_cases hlt : k < l.length
    · obtain ⟨⟨x1, x2, x3⟩, hx⟩ : ∃ x, l[k]? = some x := ⟨_, List.getElem?_eq_getElem hlt⟩
      obtain ⟨g1, g2, g3⟩ := Lx.tkcs_get l k _ hx
      obtain ⟨ab, ao, rfl, hab, hcc⟩ := hc.at_ (fun e => by rw [e] at g1; simp at g1)
      have c1 := (hbw.cell (p := ⟨ab, ao + k * 3, none⟩) hab).trans (hcc _ _ g1)
      have c2 := (hbw.cell (p := ⟨ab, ao + (k * 3 + 1), none⟩) hab).trans (hcc _ _ g2)
      have c3 := (hbw.cell (p := ⟨ab, ao + (k * 3 + 2), none⟩) hab).trans (hcc _ _ g3)
      rw [← Nat.add_assoc] at c2 c3
      have hs := Lx.text_succ l k _ hx
      have h2 := HTT.out (k + 1)
      have hsl : (Lx.text (l.take k)).length ≤ 16777216 := Nat.le_trans (HTT.out k) hl
      have hB := Blk.new wr 39 [.int .i64 x1, .int .i64 x2, .string ⟨x3.toArray⟩]
      have hbd2 := bd_keeps hbd (((Keeps.refl (fun _ => False) wr).alloc (.cells [Value.int .i64 x1, .int .i64 x2, .string ⟨x3.toArray⟩].toArray 39)))
      have hbw2 := hbw.alloc (Nat.le_of_lt hbs) (.cells [Value.int .i64 x1, .int .i64 x2, .string ⟨x3.toArray⟩].toArray 39)
      have hbs2 : b < (wr.alloc (.cells [Value.int .i64 x1, .int .i64 x2, .string ⟨x3.toArray⟩].toArray 39)).heap.size := by simp; omega
      have hx3 : (⟨x3.toArray⟩ : ByteArray).size = x3.length := rfl
      have hql : wr.heap.size ≠ b := by omega
      simp only at hs
      by_cases hk0 : k = 0
      · rw [if_pos hk0] at hs
        have ht0 : Lx.text (l.take k) = [] := by rw [hk0]; rfl
        rw [ht0] at hbd2
        rw [hs] at h2
        have hS := Lib.hid hs
        have hki2 : decide (0 < k) = false := by simp; omega
        clear hx g1 g2 g3 hcc hbd hs hk0 ht0
        go_wp2_with fail
        refine (bd_str b b [] _ _ hbd2 (by rw [hx3]; simp; omega) (Nat.le_of_lt hbs2)).mono ?_
        rintro e w2 ⟨rfl, hbd3, hb3, -⟩
        have hbw3 := hbw2.trans hb3
        have hbs3 : b < w2.heap.size := by rcases hbd3 with h | h <;> exact h.lt
        rw [List.nil_append, Lx.strCells_bytes, ← hS.out] at hbd3
        clear hB hbd2 hbw2 hbs2 hb3 c1 c2 c3
        go_wp2
        go_roundw
        case rel => exact ⟨k + 1, by omega, by go_num, hbd3, hbw3, hbs3⟩
        case measure => simp [intOf]; omega
      · rw [if_neg hk0] at hs
        rw [hs] at h2
        have hS := Lib.hid hs
        have hki2 : decide (0 < k) = true := by simp; omega
        simp only [List.length_append, List.length_cons] at h2
        clear hx g1 g2 g3 hcc hbd hs hk0
        go_wp2_with fail
        refine (bd_byte b b _ 32 _ hbd2 (by rw [Lx.byteCells_len]; omega) (Nat.le_of_lt hbs2)).mono ?_
        rintro e w2 ⟨rfl, hbd3, hb3, sp3⟩
        have hbw3 := hbw2.trans hb3
        have hbs3 : b < w2.heap.size := by rcases hbd3 with h | h <;> exact h.lt
        have hB3 := sp3 _ _ _ (by decide) hql hB
        have t2 := hB3.cell 2
        simp only [List.getElem?_cons_zero, List.getElem?_cons_succ] at t2
        clear hB hbd2 hbw2 hbs2 hb3 c1 c2 c3 sp3 hB3
        go_wp2_with fail
        refine (bd_str b b _ _ _ hbd3 (by rw [hx3, List.length_append, Lx.byteCells_len]; simp; omega) (Nat.le_of_lt hbs3)).mono ?_
        rintro e w4 ⟨rfl, hbd4, hb4, -⟩
        have hbw4 := hbw3.trans hb4
        have hbs4 : b < w4.heap.size := by rcases hbd4 with h | h <;> exact h.lt
        have hfin : Lib.byteCells (Lx.text (l.take k)) ++ [.int .u8 32] ++ Lib.strCells ⟨x3.toArray⟩ = Lib.byteCells (Lx.text (l.take (k + 1))) := by
          rw [hS.out, Lx.strCells_bytes, Lx.byteCells_append, List.append_assoc]
          rfl
        rw [hfin] at hbd4
        clear hbd3 hbw3 hbs3 hb4 t2 hfin
        go_wp2
        go_roundw
        case rel => exact ⟨k + 1, by omega, by go_num, hbd4, hbw4, hbs4⟩
        case measure => simp [intOf]; omega
    · have hkl : k = l.length := by omega
      rw [hkl, List.take_length] at hbd
      clear hkl
      have hcall := Try.Builder_String_any b b (Lx.text l) wr hbd (Nat.le_of_lt hbs)
      clear hbd
      go_wp2_with fail
      refine hcall.mono ?_
      rintro e w' ⟨rfl, hb3⟩
      have hbe := hbw.trans hb3
      rw [HBQ.out] at hbe
      go_wp2
      go_ret
      exact ⟨rfl, hbe⟩
end Go.Proofs.Ytdipieplmmhnhaa
