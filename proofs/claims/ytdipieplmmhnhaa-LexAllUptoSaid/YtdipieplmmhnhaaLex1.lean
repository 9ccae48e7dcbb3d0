/-
  Package lex, walked: digit, letter, blank, run, number.
-/
import Derived.Test.YtdipieplmmhnhaaChecked
import Derived.Test.YtdipieplmmhnhaaBase2
import Derived.Test.YtdipieplmmhnhaaLexLaw
import Derived.WalkLawsBesides
namespace Go.Proofs.Ytdipieplmmhnhaa
set_option linter.unusedVariables false
set_option linter.unusedSimpArgs false
open Go.RowKit

namespace Lx
theorem le_int (a c : UInt8) : decide (a ≤ c) = decide ((a.toNat : Int) ≤ (c.toNat : Int)) := by
  rw [Bool.eq_iff_iff, decide_eq_true_iff, decide_eq_true_iff, UInt8.le_iff_toNat_le]; omega
theorem dig_int (c : UInt8) : dig c = (decide (48 ≤ (c.toNat : Int)) && decide ((c.toNat : Int) ≤ 57)) := by
  unfold dig; rw [le_int, le_int]; rfl
theorem ltr_int (c : UInt8) : ltr c = (decide (97 ≤ (c.toNat : Int)) && decide ((c.toNat : Int) ≤ 122)) := by
  unfold ltr; rw [le_int, le_int]; rfl
theorem eq_int (c : UInt8) (n : Nat) (hn : n < 256) : (c == UInt8.ofNat n) = ((c.toNat : Int) == (n : Int)) := by
  rw [Bool.eq_iff_iff, beq_iff_eq, beq_iff_eq]
  constructor
  · rintro rfl; simp [UInt8.toNat_ofNat']; omega
  · intro h
    apply UInt8.toNat_inj.1
    simp [UInt8.toNat_ofNat']; omega
theorem blank_int (c : UInt8) : blank c = (((c.toNat : Int) == 32) || (((c.toNat : Int) == 10) || ((c.toNat : Int) == 9))) := by
  unfold blank
  rw [show (32 : UInt8) = UInt8.ofNat 32 from rfl, show (10 : UInt8) = UInt8.ofNat 10 from rfl, show (9 : UInt8) = UInt8.ofNat 9 from rfl, eq_int _ _ (by omega), eq_int _ _ (by omega), eq_int _ _ (by omega)]
  rfl
/-- how far it goes on from a place -/
def run (p : UInt8 → Bool) (l : Bs) (a : Nat) : Nat := a + ((l.drop a).takeWhile p).length
theorem run_le (p : UInt8 → Bool) (l : Bs) (a : Nat) (h : a ≤ l.length) : a ≤ run p l a ∧ run p l a ≤ l.length := by
  unfold run
  obtain ⟨y, hy⟩ := takeWhile_prefix p (l.drop a)
  have := congrArg List.length hy
  simp at this
  omega
theorem run_yes (p : UInt8 → Bool) (l : Bs) (a : Nat) (h : a < l.length) (hp : p l[a] = true) : run p l a = run p l (a + 1) := by
  unfold run
  rw [List.drop_eq_getElem_cons h, List.takeWhile_cons, if_pos hp, List.length_cons]
  omega
theorem run_no (p : UInt8 → Bool) (l : Bs) (a : Nat) (h : ∀ h' : a < l.length, p l[a] = false) : run p l a = a := by
  unfold run
  by_cases h' : a < l.length
  · rw [List.drop_eq_getElem_cons h', List.takeWhile_cons, if_neg (by rw [h h']; simp)]; rfl
  · rw [List.drop_of_length_le (by omega)]; rfl
end Lx

theorem lexdigit_any (c : UInt8) (w : World) : Calls Try.prog 41 #[.int .u8 (c.toNat : Int)] w fun e w' => e = .returned (.bool (Lx.dig c)) ∧ w = w' := by
  rw [Lx.dig_int]
  obtain ⟨x, hx⟩ : ∃ x : Int, x = (c.toNat : Int) := ⟨_, rfl⟩
  rw [← hx]
  clear hx
  rcases h1 : decide (48 ≤ x) with _ | _
  all_goals
    go_enter Try.func41, Try.ntmps41
    go_wp2
    go_ret
    exact ⟨by simp, rfl⟩
theorem lexletter_any (c : UInt8) (w : World) : Calls Try.prog 43 #[.int .u8 (c.toNat : Int)] w fun e w' => e = .returned (.bool (Lx.ltr c)) ∧ w = w' := by
  rw [Lx.ltr_int]
  obtain ⟨x, hx⟩ : ∃ x : Int, x = (c.toNat : Int) := ⟨_, rfl⟩
  rw [← hx]
  clear hx
  rcases h1 : decide (97 ≤ x) with _ | _
  all_goals
    go_enter Try.func43, Try.ntmps43
    go_wp2
    go_ret
    exact ⟨by simp, rfl⟩
theorem lexblank_any (c : UInt8) (w : World) : Calls Try.prog 34 #[.int .u8 (c.toNat : Int)] w fun e w' => e = .returned (.bool (Lx.blank c)) ∧ w = w' := by
  rw [Lx.blank_int]
  obtain ⟨x, hx⟩ : ∃ x : Int, x = (c.toNat : Int) := ⟨_, rfl⟩
  rw [← hx]
  clear hx
  rcases h1 : x == 32 with _ | _
  · rcases h2 : x == 10 with _ | _
    all_goals
      go_enter Try.func34, Try.ntmps34
      go_wp2
      go_ret
      exact ⟨by simp, rfl⟩
  · go_enter Try.func34, Try.ntmps34
    go_wp2
    go_ret
    exact ⟨by simp, rfl⟩
theorem lexword_any (c : UInt8) (w : World) : Calls Try.prog 44 #[.int .u8 (c.toNat : Int)] w fun e w' => e = .returned (.bool (Lx.word c)) ∧ w = w' := by
  rcases h1 : Lx.ltr c with _ | _
  · have h2 := Lib.hid (show Lx.word c = Lx.dig c by unfold Lx.word; rw [h1]; rfl)
    have H1 := Lib.hid h1
    clear h1
    go_enter Try.func44, Try.ntmps44
    go_wp2_with fail
    refine (lexletter_any c _).mono ?_
    rintro e w' ⟨rfl, rfl⟩
    rw [H1.out]
    go_wp2_with fail
    refine (lexdigit_any c _).mono ?_
    rintro e w' ⟨rfl, rfl⟩
    go_wp2
    go_ret
    exact ⟨ret_bool h2.out.symm, rfl⟩
  · have h2 := Lib.hid (show Lx.word c = true by unfold Lx.word; rw [h1]; rfl)
    have H1 := Lib.hid h1
    clear h1
    go_enter Try.func44, Try.ntmps44
    go_wp2_with fail
    refine (lexletter_any c _).mono ?_
    rintro e w' ⟨rfl, rfl⟩
    rw [H1.out]
    go_wp2
    go_ret
    exact ⟨ret_bool h2.out.symm, rfl⟩

theorem lexrun_any (p : UInt8 → Bool) (f : FuncId) (hcf : ∀ (args : Array Value) (w : World), (callFunc f args).run Try.prog w = .ok (.enter f args) w) (hf : ∀ (c : UInt8) (w : World), Calls Try.prog f #[.int .u8 (c.toNat : Int)] w fun e w' => e = .returned (.bool (p c)) ∧ w = w')
    (s : ByteArray) (a : Nat) (w : World) (ha : a ≤ s.size) (hs : s.size ≤ 4611686018427387904) :
    Calls Try.prog 33 #[.string s, .int .i64 a, .func (.func f) #[] #[]] w fun e w' => e = .returned (.int .i64 (Lx.run p s.data.toList a : Nat)) ∧ w = w' := by
  have hl : s.data.toList.length = s.size := by simp
  have HLn := Lib.hid hl
  have HF := Lib.hid hf
  clear hf hl
  go_enter Try.func33, Try.ntmps33
  go_wp2
  go_loop [1] (fun i => ∃ k : Nat, k ≤ s.size ∧ i = .int .i64 k ∧ Lx.run p s.data.toList k = Lx.run p s.data.toList a) (fun i => s.size - (intOf i).toNat)
  case atStart => exact ⟨a, ha, rfl, rfl⟩
  case round =>
    obtain ⟨k, hk, rfl, hr⟩ := hrel
    have HR := Lib.hid hr
    clear hr
    by_cases hlt : k < s.size
    · have hlt2 : (k : Int) < (s.size : Int) := by omega
      have hlt3 : k < s.data.toList.length := by rw [HLn.out]; exact hlt
      go_wp2_with fail
      refine (HF.out s[k] _).mono ?_
      rintro e w' ⟨rfl, rfl⟩
      have hget : s.data.toList[k] = s[k] := rfl
      rcases hp : p s[k] with _ | _
      · have hend := Lx.run_no p s.data.toList k (fun h' => by rw [hget]; exact hp)
        rw [hend] at HR
        clear hp hget hend
        go_wp2
        go_ret
        exact ⟨ret_int (by rw [HR.out]), rfl⟩
      · have hstep := Lx.run_yes p s.data.toList k hlt3 (by rw [hget]; exact hp)
        rw [hstep] at HR
        clear hp hget hstep
        go_wp2
        go_round
        case rel => exact ⟨k + 1, by omega, by go_num, HR.out⟩
        case measure => simp [intOf]; omega
    · have hend := Lx.run_no p s.data.toList k (fun h' => by rw [HLn.out] at h'; omega)
      rw [hend] at HR
      have hge : ¬ (k : Int) < (s.size : Int) := by omega
      clear hend
      go_wp2
      go_ret
      exact ⟨ret_int (by rw [HR.out]), rfl⟩
end Go.Proofs.Ytdipieplmmhnhaa
