/-
  Additional blanks between tokens do not matter: the law, walked.
-/
import Derived.Test.YtdipieplmmhnhaaLexBack
namespace Go.Proofs.Ytdipieplmmhnhaa
set_option linter.unusedVariables false
set_option linter.unusedSimpArgs false
open Go.RowKit

namespace Lx
theorem app_list (a b : ByteArray) : (a ++ b).data.toList = a.data.toList ++ b.data.toList := by simp
theorem blank_pair {s t : Bs} (h : kinds number t = kinds number s) : (∃ k k', toks number 0 s = .error k ∧ toks number 0 t = .error k') ∨ (∃ l m, toks number 0 s = .ok l ∧ toks number 0 t = .ok m ∧ l.map strip = m.map strip) := by
  unfold kinds at h
  cases h1 : toks number 0 s with
  | error e =>
    cases h2 : toks number 0 t with
    | error e' => exact .inl ⟨e, e', rfl, rfl⟩
    | ok m => rw [h1, h2] at h; cases h
  | ok l =>
    cases h2 : toks number 0 t with
    | error e' => rw [h1, h2] at h; cases h
    | ok m => rw [h1, h2] at h; injection h with h; exact .inr ⟨l, m, rfl, rfl, h.symm⟩
theorem kinds_one (s : Bs) : kinds number ([32, 10] ++ s ++ [9]) = kinds number s := by
  rw [kinds_back number rfl]
  show kinds number (32 :: 10 :: s) = _
  rw [kinds_front number rfl, kinds_front number rfl]
theorem kinds_mid (x y : Bs) : kinds number ([9] ++ x ++ [10, 32] ++ (32 :: y) ++ [32]) = kinds number (x ++ 32 :: y) := by
  rw [kinds_back number rfl]
  have e : [9] ++ x ++ [10, 32] ++ (32 :: y) = 9 :: (x ++ 10 :: (32 :: (32 :: y))) := by simp
  rw [e, kinds_front number rfl, kinds_two number rfl, kinds_two number rfl, kinds_front number rfl, kinds_front number rfl]
end Lx

set_option maxRecDepth 100000 in
set_option maxHeartbeats 8000000 in
theorem lexBlanks_walk (s : ByteArray) (k : Int) (w : World) (hs : s.size ≤ 1048576) :
    Calls Try.prog 8 #[.string s, .int .i64 k] w fun e w' => e = .returned (.bool true) ∧ Below w.heap.size w w' := by
  have hl : s.data.toList.length = s.size := by simp
  have ht1 : ∀ T : ByteArray, T = ⟨#[32, 10]⟩ ++ s ++ ⟨#[9]⟩ → T.size ≤ 4194304 ∧ Lx.kinds Lx.number T.data.toList = Lx.kinds Lx.number s.data.toList := fun T hT => by
    have e : T.data.toList = [32, 10] ++ s.data.toList ++ [9] := by rw [hT, Lx.app_list, Lx.app_list]
    refine ⟨?_, by rw [e, Lx.kinds_one]⟩
    have : T.size = T.data.toList.length := by simp
    rw [this, e]
    simp
    omega
  have HT1 := Lib.hid ht1
  clear ht1
  by_cases h1 : k < 0
  · have g1 : decide (k < 0) = true := by simpa using h1
    obtain ⟨T, hT⟩ : ∃ T : ByteArray, T = ⟨#[32, 10]⟩ ++ s ++ ⟨#[9]⟩ := ⟨_, rfl⟩
    have hT2 : T.size ≤ 4194304 ∧ Lx.kinds Lx.number T.data.toList = Lx.kinds Lx.number s.data.toList := HT1.out T hT
    have HT := Lib.hid hT
    clear hT HT1 hl
    go_enter Try.func8, Try.ntmps8
    go_wp2_with fail
    refine (alive10_any _).mono ?_
    rintro e w1 ⟨rfl, hb1⟩
    go_wp2_with fail
    go_quiet (fail)
    go_wp2_with fail
    rw [← HT.out]
    have hbw1 := below_drewN hb1 nq
    clear hb1 HT
    have hTs := hT2.1
    rcases Lx.blank_pair hT2.2 with ⟨q, q', p1, p2⟩ | ⟨l, m, p1, p2, p3⟩
    · have c1 := fun w => tokens_any s w (by omega)
      have c2 := fun w => tokens_any T w hTs
      rw [p1] at c1
      rw [p2] at c2
      have C1 := Lib.hid c1
      have C2 := Lib.hid c2
      clear c1 c2 p1 p2 hT2 hTs
      refine (C1.out _).mono ?_
      rintro e w2 ⟨rfl, hb2⟩
      have hbw2 := below_next hb2 hbw1
      clear hb2 hbw1
      go_wp2_with fail
      refine (C2.out _).mono ?_
      rintro e w3 ⟨rfl, hb3⟩
      have hbw3 := below_next hb3 hbw2
      clear hb3 hbw2 C1 C2
      go_wp2_with fail
      refine (alike_any _ _ [] [] w3 (SlV.nil _ _) (SlV.nil _ _)).mono ?_
      rintro e w4 ⟨rfl, m4, rfl⟩
      have hbe := below_drewN hbw3 m4
      clear hbw3
      go_wp2
      go_ret
      exact ⟨rfl, hbe⟩
    · have c1 := fun w => tokens_any s w (by omega)
      have c2 := fun w => tokens_any T w hTs
      rw [p1] at c1
      rw [p2] at c2
      have c3 := fun v v' w h h' => alike_any v v' l m w h h'
      have h6 : decide (l.map Lx.strip = m.map Lx.strip) = true := by rw [p3]; simp
      rw [h6] at c3
      have C1 := Lib.hid c1
      have C2 := Lib.hid c2
      have C3 := Lib.hid c3
      clear c1 c2 c3 p1 p2 p3 hT2 hTs h6
      refine (C1.out _).mono ?_
      rintro e w2 ⟨⟨v2, rfl, o2⟩, hb2⟩
      have s2 := SlV.of_own o2
      have hbw2 := below_next hb2 hbw1
      clear hb2 hbw1 o2
      go_wp2_with fail
      refine (C2.out _).mono ?_
      rintro e w3 ⟨⟨v3, rfl, o3⟩, hb3⟩
      have s3 := SlV.of_own o3
      have s2' := s2.below hb3
      have hbw3 := below_next hb3 hbw2
      clear hb3 hbw2 C1 C2 o3 s2
      go_wp2_with fail
      refine (C3.out _ _ _ s2' s3).mono ?_
      rintro e w4 ⟨rfl, m4, rfl⟩
      have hbe := below_drewN hbw3 m4
      clear hbw3 s2' s3
      go_wp2
      go_ret
      exact ⟨rfl, hbe⟩
  have g1 : decide (k < 0) = false := by simpa using h1
  obtain ⟨a, rfl⟩ := Int.eq_ofNat_of_zero_le (show 0 ≤ k by omega)
  clear h1
  by_cases h2 : s.size ≤ a
  · have g2 : decide (s.size ≤ a) = true := by simpa using h2
    obtain ⟨T, hT⟩ : ∃ T : ByteArray, T = ⟨#[32, 10]⟩ ++ s ++ ⟨#[9]⟩ := ⟨_, rfl⟩
    have hT2 : T.size ≤ 4194304 ∧ Lx.kinds Lx.number T.data.toList = Lx.kinds Lx.number s.data.toList := HT1.out T hT
    have HT := Lib.hid hT
    clear hT HT1 hl
    go_enter Try.func8, Try.ntmps8
    go_wp2_with fail
    refine (alive10_any _).mono ?_
    rintro e w1 ⟨rfl, hb1⟩
    go_wp2_with fail
    go_quiet (fail)
    go_wp2_with fail
    rw [← HT.out]
    have hbw1 := below_drewN hb1 nq
    clear hb1 HT
    have hTs := hT2.1
    rcases Lx.blank_pair hT2.2 with ⟨q, q', p1, p2⟩ | ⟨l, m, p1, p2, p3⟩
    · have c1 := fun w => tokens_any s w (by omega)
      have c2 := fun w => tokens_any T w hTs
      rw [p1] at c1
      rw [p2] at c2
      have C1 := Lib.hid c1
      have C2 := Lib.hid c2
      clear c1 c2 p1 p2 hT2 hTs
      refine (C1.out _).mono ?_
      rintro e w2 ⟨rfl, hb2⟩
      have hbw2 := below_next hb2 hbw1
      clear hb2 hbw1
      go_wp2_with fail
      refine (C2.out _).mono ?_
      rintro e w3 ⟨rfl, hb3⟩
      have hbw3 := below_next hb3 hbw2
      clear hb3 hbw2 C1 C2
      go_wp2_with fail
      refine (alike_any _ _ [] [] w3 (SlV.nil _ _) (SlV.nil _ _)).mono ?_
      rintro e w4 ⟨rfl, m4, rfl⟩
      have hbe := below_drewN hbw3 m4
      clear hbw3
      go_wp2
      go_ret
      exact ⟨rfl, hbe⟩
    · have c1 := fun w => tokens_any s w (by omega)
      have c2 := fun w => tokens_any T w hTs
      rw [p1] at c1
      rw [p2] at c2
      have c3 := fun v v' w h h' => alike_any v v' l m w h h'
      have h6 : decide (l.map Lx.strip = m.map Lx.strip) = true := by rw [p3]; simp
      rw [h6] at c3
      have C1 := Lib.hid c1
      have C2 := Lib.hid c2
      have C3 := Lib.hid c3
      clear c1 c2 c3 p1 p2 p3 hT2 hTs h6
      refine (C1.out _).mono ?_
      rintro e w2 ⟨⟨v2, rfl, o2⟩, hb2⟩
      have s2 := SlV.of_own o2
      have hbw2 := below_next hb2 hbw1
      clear hb2 hbw1 o2
      go_wp2_with fail
      refine (C2.out _).mono ?_
      rintro e w3 ⟨⟨v3, rfl, o3⟩, hb3⟩
      have s3 := SlV.of_own o3
      have s2' := s2.below hb3
      have hbw3 := below_next hb3 hbw2
      clear hb3 hbw2 C1 C2 o3 s2
      go_wp2_with fail
      refine (C3.out _ _ _ s2' s3).mono ?_
      rintro e w4 ⟨rfl, m4, rfl⟩
      have hbe := below_drewN hbw3 m4
      clear hbw3 s2' s3
      go_wp2
      go_ret
      exact ⟨rfl, hbe⟩
  have g2 : decide (s.size ≤ a) = false := by simpa using h2
  have ha : a < s.size := by omega
  obtain ⟨c, hc⟩ : ∃ c, c = (s[a]'ha) := ⟨_, rfl⟩
  have hci : ((s[a]'ha).toNat : Int) = (c.toNat : Int) := by rw [hc]
  have hlt : a < s.data.toList.length := by rw [hl]; exact ha
  have hdc : s.data.toList.drop a = c :: s.data.toList.drop (a + 1) := by rw [hc]; exact List.drop_eq_getElem_cons hlt
  clear hc h2 hlt
  rcases h3 : ((c.toNat : Int) != 32) with _ | _
  rotate_left
  · clear hdc
    obtain ⟨T, hT⟩ : ∃ T : ByteArray, T = ⟨#[32, 10]⟩ ++ s ++ ⟨#[9]⟩ := ⟨_, rfl⟩
    have hT2 : T.size ≤ 4194304 ∧ Lx.kinds Lx.number T.data.toList = Lx.kinds Lx.number s.data.toList := HT1.out T hT
    have HT := Lib.hid hT
    clear hT HT1 hl
    go_enter Try.func8, Try.ntmps8
    go_wp2_with fail
    refine (alive10_any _).mono ?_
    rintro e w1 ⟨rfl, hb1⟩
    go_wp2_with fail
    go_quiet (fail)
    go_wp2_with fail
    rw [← HT.out]
    have hbw1 := below_drewN hb1 nq
    clear hb1 HT
    have hTs := hT2.1
    rcases Lx.blank_pair hT2.2 with ⟨q, q', p1, p2⟩ | ⟨l, m, p1, p2, p3⟩
    · have c1 := fun w => tokens_any s w (by omega)
      have c2 := fun w => tokens_any T w hTs
      rw [p1] at c1
      rw [p2] at c2
      have C1 := Lib.hid c1
      have C2 := Lib.hid c2
      clear c1 c2 p1 p2 hT2 hTs
      refine (C1.out _).mono ?_
      rintro e w2 ⟨rfl, hb2⟩
      have hbw2 := below_next hb2 hbw1
      clear hb2 hbw1
      go_wp2_with fail
      refine (C2.out _).mono ?_
      rintro e w3 ⟨rfl, hb3⟩
      have hbw3 := below_next hb3 hbw2
      clear hb3 hbw2 C1 C2
      go_wp2_with fail
      refine (alike_any _ _ [] [] w3 (SlV.nil _ _) (SlV.nil _ _)).mono ?_
      rintro e w4 ⟨rfl, m4, rfl⟩
      have hbe := below_drewN hbw3 m4
      clear hbw3
      go_wp2
      go_ret
      exact ⟨rfl, hbe⟩
    · have c1 := fun w => tokens_any s w (by omega)
      have c2 := fun w => tokens_any T w hTs
      rw [p1] at c1
      rw [p2] at c2
      have c3 := fun v v' w h h' => alike_any v v' l m w h h'
      have h6 : decide (l.map Lx.strip = m.map Lx.strip) = true := by rw [p3]; simp
      rw [h6] at c3
      have C1 := Lib.hid c1
      have C2 := Lib.hid c2
      have C3 := Lib.hid c3
      clear c1 c2 c3 p1 p2 p3 hT2 hTs h6
      refine (C1.out _).mono ?_
      rintro e w2 ⟨⟨v2, rfl, o2⟩, hb2⟩
      have s2 := SlV.of_own o2
      have hbw2 := below_next hb2 hbw1
      clear hb2 hbw1 o2
      go_wp2_with fail
      refine (C2.out _).mono ?_
      rintro e w3 ⟨⟨v3, rfl, o3⟩, hb3⟩
      have s3 := SlV.of_own o3
      have s2' := s2.below hb3
      have hbw3 := below_next hb3 hbw2
      clear hb3 hbw2 C1 C2 o3 s2
      go_wp2_with fail
      refine (C3.out _ _ _ s2' s3).mono ?_
      rintro e w4 ⟨rfl, m4, rfl⟩
      have hbe := below_drewN hbw3 m4
      clear hbw3 s2' s3
      go_wp2
      go_ret
      exact ⟨rfl, hbe⟩
  have hc32 : c = 32 := by
    have : (c.toNat : Int) = 32 := by simpa using h3
    apply UInt8.toNat_inj.1
    show c.toNat = 32
    omega
  rw [hc32] at hdc
  clear hc32
  by_cases h0 : a = 0
  · have g0 : ((a : Int) == 0) = true := by rw [h0]; rfl
    have g0' : (a == 0) = true := by rw [h0]; rfl
    clear hdc h0
    obtain ⟨T, hT⟩ : ∃ T : ByteArray, T = ⟨#[32, 10]⟩ ++ s ++ ⟨#[9]⟩ := ⟨_, rfl⟩
    have hT2 : T.size ≤ 4194304 ∧ Lx.kinds Lx.number T.data.toList = Lx.kinds Lx.number s.data.toList := HT1.out T hT
    have HT := Lib.hid hT
    clear hT HT1 hl
    go_enter Try.func8, Try.ntmps8
    go_wp2_with fail
    refine (alive10_any _).mono ?_
    rintro e w1 ⟨rfl, hb1⟩
    go_wp2_with fail
    go_quiet (fail)
    go_wp2_with fail
    rw [← HT.out]
    have hbw1 := below_drewN hb1 nq
    clear hb1 HT
    have hTs := hT2.1
    rcases Lx.blank_pair hT2.2 with ⟨q, q', p1, p2⟩ | ⟨l, m, p1, p2, p3⟩
    · have c1 := fun w => tokens_any s w (by omega)
      have c2 := fun w => tokens_any T w hTs
      rw [p1] at c1
      rw [p2] at c2
      have C1 := Lib.hid c1
      have C2 := Lib.hid c2
      clear c1 c2 p1 p2 hT2 hTs
      refine (C1.out _).mono ?_
      rintro e w2 ⟨rfl, hb2⟩
      have hbw2 := below_next hb2 hbw1
      clear hb2 hbw1
      go_wp2_with fail
      refine (C2.out _).mono ?_
      rintro e w3 ⟨rfl, hb3⟩
      have hbw3 := below_next hb3 hbw2
      clear hb3 hbw2 C1 C2
      go_wp2_with fail
      refine (alike_any _ _ [] [] w3 (SlV.nil _ _) (SlV.nil _ _)).mono ?_
      rintro e w4 ⟨rfl, m4, rfl⟩
      have hbe := below_drewN hbw3 m4
      clear hbw3
      go_wp2
      go_ret
      exact ⟨rfl, hbe⟩
    · have c1 := fun w => tokens_any s w (by omega)
      have c2 := fun w => tokens_any T w hTs
      rw [p1] at c1
      rw [p2] at c2
      have c3 := fun v v' w h h' => alike_any v v' l m w h h'
      have h6 : decide (l.map Lx.strip = m.map Lx.strip) = true := by rw [p3]; simp
      rw [h6] at c3
      have C1 := Lib.hid c1
      have C2 := Lib.hid c2
      have C3 := Lib.hid c3
      clear c1 c2 c3 p1 p2 p3 hT2 hTs h6
      refine (C1.out _).mono ?_
      rintro e w2 ⟨⟨v2, rfl, o2⟩, hb2⟩
      have s2 := SlV.of_own o2
      have hbw2 := below_next hb2 hbw1
      clear hb2 hbw1 o2
      go_wp2_with fail
      refine (C2.out _).mono ?_
      rintro e w3 ⟨⟨v3, rfl, o3⟩, hb3⟩
      have s3 := SlV.of_own o3
      have s2' := s2.below hb3
      have hbw3 := below_next hb3 hbw2
      clear hb3 hbw2 C1 C2 o3 s2
      go_wp2_with fail
      refine (C3.out _ _ _ s2' s3).mono ?_
      rintro e w4 ⟨rfl, m4, rfl⟩
      have hbe := below_drewN hbw3 m4
      clear hbw3 s2' s3
      go_wp2
      go_ret
      exact ⟨rfl, hbe⟩
  have g0 : ((a : Int) == 0) = false := by simp; omega
  have g0' : (a == 0) = false := by simpa using h0
  have ht2 : ∀ T : ByteArray, T = ⟨#[9]⟩ ++ s.extract 0 a ++ ⟨#[10, 32]⟩ ++ s.extract a s.size ++ ⟨#[32]⟩ → T.size ≤ 4194304 ∧ Lx.kinds Lx.number T.data.toList = Lx.kinds Lx.number s.data.toList := fun T hT => by
    have e1 : (s.extract 0 a).data.toList = s.data.toList.take a := by rw [Lx.extract_eq s 0 a (by omega) (by omega)]; simp
    have e2 : (s.extract a s.size).data.toList = s.data.toList.drop a := by rw [Lx.extract_eq s a s.size (Nat.le_refl _) (by omega)]; simp [List.take_of_length_le]
    have e : T.data.toList = [9] ++ s.data.toList.take a ++ [10, 32] ++ (32 :: s.data.toList.drop (a + 1)) ++ [32] := by
      rw [hT, Lx.app_list, Lx.app_list, Lx.app_list, Lx.app_list, e1, e2, hdc]
    refine ⟨?_, by rw [e, Lx.kinds_mid, ← hdc, List.take_append_drop]⟩
    have : T.size = T.data.toList.length := by simp
    rw [this, e]
    simp
    omega
  clear h0 HT1
  obtain ⟨T, hT⟩ : ∃ T : ByteArray, T = ⟨#[9]⟩ ++ s.extract 0 a ++ ⟨#[10, 32]⟩ ++ s.extract a s.size ++ ⟨#[32]⟩ := ⟨_, rfl⟩
  have hT2 : T.size ≤ 4194304 ∧ Lx.kinds Lx.number T.data.toList = Lx.kinds Lx.number s.data.toList := ht2 T hT
  have HT := Lib.hid hT
  clear hT hl hdc ht2
  go_enter Try.func8, Try.ntmps8
  go_wp2_with fail
  refine (alive10_any _).mono ?_
  rintro e w1 ⟨rfl, hb1⟩
  go_wp2_with fail
  go_quiet (fail)
  go_wp2_with fail
  rw [← HT.out]
  have hbw1 := below_drewN hb1 nq
  clear hb1 HT
  have hTs := hT2.1
  rcases Lx.blank_pair hT2.2 with ⟨q, q', p1, p2⟩ | ⟨l, m, p1, p2, p3⟩
  · have c1 := fun w => tokens_any s w (by omega)
    have c2 := fun w => tokens_any T w hTs
    rw [p1] at c1
    rw [p2] at c2
    have C1 := Lib.hid c1
    have C2 := Lib.hid c2
    clear c1 c2 p1 p2 hT2 hTs
    refine (C1.out _).mono ?_
    rintro e w2 ⟨rfl, hb2⟩
    have hbw2 := below_next hb2 hbw1
    clear hb2 hbw1
    go_wp2_with fail
    refine (C2.out _).mono ?_
    rintro e w3 ⟨rfl, hb3⟩
    have hbw3 := below_next hb3 hbw2
    clear hb3 hbw2 C1 C2
    go_wp2_with fail
    refine (alike_any _ _ [] [] w3 (SlV.nil _ _) (SlV.nil _ _)).mono ?_
    rintro e w4 ⟨rfl, m4, rfl⟩
    have hbe := below_drewN hbw3 m4
    clear hbw3
    go_wp2
    go_ret
    exact ⟨rfl, hbe⟩
  · have c1 := fun w => tokens_any s w (by omega)
    have c2 := fun w => tokens_any T w hTs
    rw [p1] at c1
    rw [p2] at c2
    have c3 := fun v v' w h h' => alike_any v v' l m w h h'
    have h6 : decide (l.map Lx.strip = m.map Lx.strip) = true := by rw [p3]; simp
    rw [h6] at c3
    have C1 := Lib.hid c1
    have C2 := Lib.hid c2
    have C3 := Lib.hid c3
    clear c1 c2 c3 p1 p2 p3 hT2 hTs h6
    refine (C1.out _).mono ?_
    rintro e w2 ⟨⟨v2, rfl, o2⟩, hb2⟩
    have s2 := SlV.of_own o2
    have hbw2 := below_next hb2 hbw1
    clear hb2 hbw1 o2
    go_wp2_with fail
    refine (C2.out _).mono ?_
    rintro e w3 ⟨⟨v3, rfl, o3⟩, hb3⟩
    have s3 := SlV.of_own o3
    have s2' := s2.below hb3
    have hbw3 := below_next hb3 hbw2
    clear hb3 hbw2 C1 C2 o3 s2
    go_wp2_with fail
    refine (C3.out _ _ _ s2' s3).mono ?_
    rintro e w4 ⟨rfl, m4, rfl⟩
    have hbe := below_drewN hbw3 m4
    clear hbw3 s2' s3
    go_wp2
    go_ret
    exact ⟨rfl, hbe⟩
end Go.Proofs.Ytdipieplmmhnhaa
