/-
  Tokenization inverts joining: the law, walked.
-/
import Derived.Test.YtdipieplmmhnhaaLex5
namespace Go.Proofs.Ytdipieplmmhnhaa
set_option linter.unusedVariables false
set_option linter.unusedSimpArgs false
open Go.RowKit

namespace Lx
theorem text_cons (x : Tk) (l : List Tk) : (text (x :: l)).length ≤ x.2.2.length + 1 + (text l).length := by
  cases l with
  | nil => show (x.2.2).length ≤ _; omega
  | cons y l => show (x.2.2 ++ 32 :: text (y :: l)).length ≤ _; rw [List.length_append, List.length_cons]; omega
theorem fits_text : ∀ (l : List Tk) (a : Nat) (s : Bs), Fits a s l → (text l).length ≤ s.length + l.length
  | [], _, _, _ => by simp [text, join]
  | x :: l, a, s, h => by
    obtain ⟨g, y, rfl, _, _, hl⟩ := h
    have h1 := fits_text l _ _ hl
    have h2 := text_cons x l
    simp only [List.length_append, List.length_cons]
    omega
theorem toks_small {s : Bs} {l : List Tk} (h : toks number 0 s = .ok l) : l.length ≤ s.length ∧ (text l).length ≤ 2 * s.length := by
  have hf := toks_fits number _ s 0 l (Nat.le_refl _) h
  have h1 := fits_length l 0 s hf (fun x hx => (tok_pos number (toks_self number _ s 0 l (Nat.le_refl _) h x hx)).1)
  have h2 := fits_text l 0 s hf
  omega
theorem text_strip (l : List Tk) : text l = join ((l.map strip).map (·.2)) := by
  unfold text
  rw [List.map_map]
  rfl
/-- joined and parted again -/
theorem toks_back {s : Bs} {l : List Tk} (h : toks number 0 s = .ok l) : ∃ m, toks number 0 (text l) = .ok m ∧ m.map strip = l.map strip ∧ text m = text l := by
  have hk := kinds_join number (l.map strip) (fun x hx => by
    obtain ⟨y, hy, rfl⟩ := List.mem_map.1 hx
    exact toks_self number _ s 0 l (Nat.le_refl _) h y hy)
  rw [← text_strip] at hk
  unfold kinds at hk
  cases hm : toks number 0 (text l) with
  | error e => rw [hm] at hk; cases hk
  | ok m =>
    rw [hm] at hk
    injection hk with hk
    exact ⟨m, rfl, hk, by rw [text_strip, hk, ← text_strip]⟩
end Lx

set_option maxRecDepth 100000 in
set_option maxHeartbeats 4000000 in
theorem lexBack_walk (s : ByteArray) (w : World) (hs : s.size ≤ 1048576) :
    Calls Try.prog 5 #[.string s] w fun e w' => e = .returned (.bool true) ∧ Below w.heap.size w w' := by
  have hl : s.data.toList.length = s.size := by simp
  have h1 := fun w => tokens_any s w (by omega)
  rcases htk : Lx.toks Lx.number 0 s.data.toList with k | l
  · rw [htk] at h1
    have hk := Lx.toks_error Lx.number _ _ _ _ (Nat.le_refl _) htk
    rw [hl] at hk
    have hk2 : decide (k < s.size) = true := by simp; omega
    have H1 := Lib.hid h1
    clear htk hk hl h1
    go_enter Try.func5, Try.ntmps5
    go_wp2_with fail
    refine (alive10_any _).mono ?_
    rintro e w1 ⟨rfl, hb1⟩
    go_wp2_with fail
    refine (H1.out _).mono ?_
    rintro e w2 ⟨rfl, hb2⟩
    have hbw := below_next hb2 hb1
    clear H1 hb1 hb2
    go_wp2
    go_ret
    exact ⟨rfl, hbw⟩
  · rw [htk] at h1
    obtain ⟨z1, z2⟩ := Lx.toks_small htk
    rw [hl] at z1 z2
    obtain ⟨m, hm, hst, htx⟩ := Lx.toks_back htk
    obtain ⟨J, hJ⟩ : ∃ J : ByteArray, J = ⟨(Lx.text l).toArray⟩ := ⟨_, rfl⟩
    have hJl : J.data.toList = Lx.text l := by rw [hJ]
    have hJs : J.size = (Lx.text l).length := by rw [hJ]; rfl
    have h2 := fun w => tokens_any J w (by omega)
    rw [hJl, hm] at h2
    have h3 := fun v w h => lexjoin_any v l w h (by omega)
    have h4 := fun v w h => lexjoin_any v m w h (by rw [htx]; omega)
    rw [htx] at h4
    rw [← hJ] at h3 h4
    have h5 := fun v v' w h h' => alike_any v v' l m w h h'
    have h6 : decide (l.map Lx.strip = m.map Lx.strip) = true := by rw [hst]; simp
    rw [h6] at h5
    have H1 := Lib.hid h1
    have H2 := Lib.hid h2
    have H3 := Lib.hid h3
    have H4 := Lib.hid h4
    have H5 := Lib.hid h5
    clear h1 h2 h3 h4 h5 h6 htk hm hst htx hJ hJl hJs hl z1 z2
    go_enter Try.func5, Try.ntmps5
    go_wp2_with fail
    refine (alive10_any _).mono ?_
    rintro e w1 ⟨rfl, hb1⟩
    go_wp2_with fail
    refine (H1.out _).mono ?_
    rintro e w2 ⟨⟨v, rfl, o2⟩, hb2⟩
    have s2 := SlV.of_own o2
    clear o2
    have hbw2 := below_next hb2 hb1
    clear hb1 hb2
    go_wp2_with fail
    refine (H3.out _ _ s2).mono ?_
    rintro e w3 ⟨rfl, hb3⟩
    have s3 := s2.below hb3
    have hbw3 := below_next hb3 hbw2
    clear s2 hb3 hbw2
    go_wp2_with fail
    refine (H2.out _).mono ?_
    rintro e w4 ⟨⟨v4, rfl, o4⟩, hb4⟩
    have t4 := SlV.of_own o4
    clear o4
    have s4 := s3.below hb4
    have hbw4 := below_next hb4 hbw3
    clear s3 hb4 hbw3
    go_wp2_with fail
    refine (H5.out _ _ _ s4 t4).mono ?_
    rintro e w5 ⟨rfl, m5, rfl⟩
    have s5 := s4.drewN m5
    have t5 := t4.drewN m5
    have hbw5 := below_drewN hbw4 m5
    clear s4 t4 hbw4
    go_wp2_with fail
    refine (H4.out _ _ t5).mono ?_
    rintro e w6 ⟨rfl, hb6⟩
    have s6 := s5.below hb6
    have hbw6 := below_next hb6 hbw5
    clear s5 t5 hb6 hbw5
    go_wp2_with fail
    refine (H3.out _ _ s6).mono ?_
    rintro e w7 ⟨rfl, hb7⟩
    have hbw7 := below_next hb7 hbw6
    clear s6 hb7 hbw6
    go_wp2
    go_ret
    exact ⟨rfl, hbw7⟩
end Go.Proofs.Ytdipieplmmhnhaa
