/-
  Package lex, walked: Tokens.
-/
import Derived.Test.YtdipieplmmhnhaaLex2
import Derived.Test.YtdipieplmmhnhaaTwo
namespace Go.Proofs.Ytdipieplmmhnhaa
set_option linter.unusedVariables false
set_option linter.unusedSimpArgs false
open Go.RowKit

namespace Lx
theorem drop_cons (l : Bs) (a : Nat) (h : a < l.length) : l.drop a = l[a] :: l.drop (a + 1) := List.drop_eq_getElem_cons h
theorem toks_run (num : Bs → Bool) (l : Bs) : ∀ (n a : Nat), l.length - a ≤ n → toks num a (l.drop a) = toks num (run blank l a) (l.drop (run blank l a)) := by
  intro n
  induction n with
  | zero =>
    intro a h
    rw [run_no blank l a (fun h' => by omega)]
  | succ n ih =>
    intro a h
    by_cases h' : a < l.length
    · cases hb : blank l[a] with
      | true => rw [run_yes blank l a h' hb, ← ih (a + 1) (by omega), drop_cons l a h', toks_blank num a hb]
      | false => rw [run_no blank l a (fun _ => hb)]
    · rw [run_no blank l a (fun h => by omega)]
theorem run_stop (p : UInt8 → Bool) (l : Bs) : ∀ (n a : Nat), l.length - a ≤ n → ∀ c r, l.drop (run p l a) = c :: r → p c = false := by
  intro n
  induction n with
  | zero =>
    intro a h c r h'
    rw [run_no p l a (fun h' => by omega), List.drop_of_length_le (by omega)] at h'
    cases h'
  | succ n ih =>
    intro a h c r h'
    by_cases h2 : a < l.length
    · cases hp : p l[a] with
      | true =>
        rw [run_yes p l a h2 hp] at h'
        exact ih (a + 1) (by omega) c r h'
      | false =>
        rw [run_no p l a (fun _ => hp), drop_cons l a h2] at h'
        injection h' with h'
        rw [← h']; exact hp
    · rw [run_no p l a (fun h => by omega), List.drop_of_length_le (by omega)] at h'
      cases h'
def tkcs (l : List Tk) : List Value := l.flatMap tkc
theorem tkc_one (x : Tk) : ∀ u ∈ tkc x, u.oneCell' = true := by
  intro u hu
  simp only [tkc, List.mem_cons, List.not_mem_nil, or_false] at hu
  rcases hu with rfl | rfl | rfl <;> rfl
theorem tkcs_length (l : List Tk) : (tkcs l).length = l.length * 3 := flat_length tkc 3 (fun _ => rfl) l
theorem tkcs_one (l : List Tk) : ∀ u ∈ tkcs l, u.oneCell' = true := by
  intro u hu
  obtain ⟨x, _, hx⟩ := List.mem_flatMap.1 hu
  exact tkc_one x u hx
theorem map_map (x : Except Nat (List Tk)) (y : Tk) (pre : List Tk) : (x.map (y :: ·)).map (pre ++ ·) = x.map ((pre ++ [y]) ++ ·) := by
  cases x with
  | error e => rfl
  | ok l => show Except.ok _ = Except.ok _; simp
/-- what 'Tokens' answers -/
def TokPost (r : Except Nat (List Tk)) (B : Nat) (w : World) : Ending → World → Prop := fun e w' => (match r with | .error k => e = .returned (.tuple #[.slice none 0 0, .int .i64 (k : Nat), .int .i64 1]) | .ok l => ∃ v, e = .returned (.tuple #[v, .int .i64 0, .int .i64 0]) ∧ w'.ownsRow B 39 3 v l.length (tkcs l)) ∧ Below B w w'
theorem info_tk : (Try.prog.info? 39).map (fun i => (i.zero, i.size, i.bytes)) = some (some (.agg #[.int .i64 0, .int .i64 0, .string ⟨#[]⟩]), 3, 32) := by kernel_rfl
end Lx

set_option maxRecDepth 100000 in
set_option maxHeartbeats 4000000 in
theorem tokens_any (s : ByteArray) (w : World) (hs : s.size ≤ 4194304) :
    Calls Try.prog 18 #[.string s] w (Lx.TokPost (Lx.toks Lx.number 0 s.data.toList) w.heap.size w) := by
  have e34 : ∀ (args : Array Value) (w : World), (callFunc 34 args).run Try.prog w = .ok (.enter 34 args) w := fun _ _ => by rfl
  have hl : s.data.toList.length = s.size := by simp
  have HLn := Lib.hid hl
  obtain ⟨R, hR⟩ : ∃ R, R = Lx.toks Lx.number 0 s.data.toList := ⟨_, rfl⟩
  rw [← hR]
  have hstart := Lx.toks_run Lx.number s.data.toList _ 0 (Nat.le_refl _)
  rw [List.drop_zero, ← hR] at hstart
  have hr0 := Lx.run_le Lx.blank s.data.toList 0 (by omega)
  rw [hl] at hr0
  have hst0 := Lx.run_stop Lx.blank s.data.toList _ 0 (Nat.le_refl _)
  obtain ⟨r0, hr⟩ : ∃ r, r = Lx.run Lx.blank s.data.toList 0 := ⟨_, rfl⟩
  rw [← hr] at hr0
  simp only [← hr] at hstart hst0
  have HR0 := Lib.hid hr
  have HST := Lib.hid hstart
  have HSP := Lib.hid hst0
  clear hl hR hstart hr hst0
  go_enter Try.func18, Try.ntmps18
  go_wp2_with fail
  refine (lexrun_any Lx.blank _ e34 lexblank_any s 0 _ (Nat.zero_le _) (by omega)).mono ?_
  rintro e w' ⟨rfl, rfl⟩
  rw [← HR0.out]
  go_wp2_with fail
  go_loopw [5, 6] (fun v i wr => ∃ (a : Nat) (pre : List Lx.Tk), a ≤ s.size ∧ i = .int .i64 a ∧ pre.length ≤ a ∧ wr.ownsRow w.heap.size 39 3 v pre.length (Lx.tkcs pre) ∧ R = (Lx.toks Lx.number a (s.data.toList.drop a)).map (pre ++ ·) ∧ (∀ c r, s.data.toList.drop a = c :: r → Lx.blank c = false) ∧ Below w.heap.size w wr) (fun _ i _ => s.size - (intOf i).toNat)
  case atStart =>
    refine ⟨r0, [], hr0.2, rfl, Nat.zero_le _, World.ownsRow_nil _ _ _ _, ?_, HSP.out, Below.refl _ _⟩
    rw [HST.out]
    cases Lx.toks Lx.number r0 (s.data.toList.drop r0) <;> rfl
  case round =>
    clear HST HSP hr0 HR0
    obtain ⟨a, pre, ha, rfl, hpl, hown, hrel, hnb, hbw⟩ := hrel
    by_cases hlt : a < s.size
    · have hlt2 : a < s.data.toList.length := by rw [HLn.out]; exact hlt
      have hdc := Lx.drop_cons s.data.toList a hlt2
      have hbl := hnb _ _ hdc
      have hwsz := hbw.size
      have HD := Lib.hid hdc
      have HB := Lib.hid hbl
      have HREL := Lib.hid hrel
      clear hdc hbl hrel hnb
      go_wp2_with fail
      refine (lexnext_any s a _ hlt (by omega)).mono ?_
      rintro e w2 ⟨⟨v2, b2, rfl, hnx⟩, hb2⟩
      cases htk : Lx.tok Lx.number (s.data.toList.drop a) with
      | none =>
        rw [htk] at hnx
        obtain ⟨rfl, k, t, rfl⟩ := hnx
        have hR : R = .error a := by
          rw [HREL.out, HD.out, Lx.toks_none Lx.number a HB.out _ (by rw [← HD.out]; exact htk)]
          rfl
        have HRR := Lib.hid hR
        have hbe := below_next hb2 hbw
        clear htk hR HREL HD HB hown hb2 hbw
        go_wp2
        exact bodyPost_ret (v := .tuple #[.slice none 0 0, .int .i64 a, .int .i64 1]) (by simp [results, Try.results18, go_sem]) rfl (by rw [HRR.out]; exact ⟨rfl, below_alloc hbe _⟩)
      | some p =>
        obtain ⟨k, t⟩ := p
        rw [htk] at hnx
        obtain ⟨rfl, rfl⟩ := hnx
        have hp := Lx.tok_pos Lx.number htk
        rw [List.length_drop, HLn.out] at hp
        have hnext : R = (Lx.toks Lx.number (Lx.run Lx.blank s.data.toList (a + t.length)) (s.data.toList.drop (Lx.run Lx.blank s.data.toList (a + t.length)))).map ((pre ++ [(k, a, t)]) ++ ·) := by
          rw [HREL.out, HD.out, Lx.toks_some Lx.number a HB.out _ (by rw [← HD.out]; exact htk), Lx.map_map, ← HD.out, List.drop_drop, Lx.toks_run Lx.number s.data.toList _ (a + t.length) (Nat.le_refl _)]
        have hrl := Lx.run_le Lx.blank s.data.toList (a + t.length) (by rw [HLn.out]; omega)
        have hst := Lx.run_stop Lx.blank s.data.toList _ (a + t.length) (Nat.le_refl _)
        rw [HLn.out] at hrl
        obtain ⟨r, hr⟩ : ∃ r, r = Lx.run Lx.blank s.data.toList (a + t.length) := ⟨_, rfl⟩
        rw [← hr] at hrl hst hnext
        have HR := Lib.hid hr
        have HN := Lib.hid hnext
        have HS := Lib.hid hst
        clear htk hnext hst hr HREL HD HB
        obtain ⟨m, hm⟩ : ∃ m, m = t.length := ⟨_, rfl⟩
        rw [← hm] at hp hrl HR
        have hms : (⟨t.toArray⟩ : ByteArray).size = m := by rw [hm]; rfl
        have hown2 : w2.ownsRow w.heap.size 39 3 u5 pre.length (Lx.tkcs pre) := own_keeps hown (Keeps.of_below hb2 (fun _ => False)) (fun _ _ h => h)
        have hbe := below_next hb2 hbw
        have hB := Blk.new w2 39 (Lx.tkc (k, a, t))
        have n63 : pre.length + 1 ≤ maxLen := by unfold maxLen; omega
        have n47 : (pre.length + 1) * 32 ≤ 140737488355328 := by omega
        have hvlt : ∀ i, u5.ownBlock = some i → i < w2.heap.size := fun i hi => (hown2.lt i hi).2
        have hown3 := hown2.alloc (.cells (Lx.tkc (k, a, t)).toArray 39)
        have hbe3 := below_alloc hbe (.cells (Lx.tkc (k, a, t)).toArray 39)
        have hsz3 : w.heap.size ≤ (w2.alloc (.cells (Lx.tkc (k, a, t)).toArray 39)).heap.size := hbe3.size
        unfold Lx.tkc at hB hown3 hbe3 hsz3 ⊢
        simp only at hB hown3 hbe3 hsz3 ⊢
        have hq2 := hvlt
        clear hown hown2 hb2 hbw hm
        go_wp2_with (at_builtin; (refine wp_push_at _ _ _ (w2.heap.size + 1) (by simp) w.heap.size _ _ _ _ _ Try.underlying31 Lx.info_tk rfl (by decide) hown3 (Lx.tkc (k, a, t)) rfl (Lx.tkc_one _) n63 n47 hsz3 rfl rfl rfl rfl ?_); intro v' w4 hown4 hg4 _ hb4; have hB4 := hB.grown hg4 (fun e => by have := hq2 _ e.symm; omega); have t0 := hB4.cell 2; simp only [List.getElem?_cons_zero, List.getElem?_cons_succ] at t0)
        have hcall := lexrun_any Lx.blank _ e34 lexblank_any s (a + m) w4 (by omega) (by omega)
        rw [Int.natCast_add] at hcall
        refine hcall.mono ?_
        rintro e w' ⟨rfl, rfl⟩
        clear hcall
        rw [← HR.out]
        have hfin : Below w.heap.size w w4 := hbe3.trans hb4
        clear hB hB4 t0 hown3 hbe3 hg4 hb4 hbe
        go_wp2
        go_roundw
        case rel => exact ⟨r, pre ++ [(k, a, t)], hrl.2, rfl, by simp; omega, by simpa [Lx.tkcs] using hown4, HN.out, HS.out, hfin⟩
        case measure => simp [intOf]; omega
    · have hae : a = s.size := by omega
      rw [List.drop_of_length_le (by rw [HLn.out]; omega), Lx.toks_nil] at hrel
      have hR : R = .ok pre := by rw [hrel]; show Except.ok (pre ++ []) = _; rw [List.append_nil]
      have HRR := Lib.hid hR
      have H3 := Lib.hid hown
      obtain ⟨A9, c9, rfl, h1, h2⟩ := own_slice hown
      clear hrel hR hnb hown hae
      go_wp2
      exact bodyPost_ret (v := .tuple #[.slice A9 pre.length c9, .int .i64 0, .int .i64 0]) (by simp [results, Try.results18, go_sem]) rfl (by rw [HRR.out]; exact ⟨⟨_, rfl, H3.out⟩, hbw⟩)
end Go.Proofs.Ytdipieplmmhnhaa
