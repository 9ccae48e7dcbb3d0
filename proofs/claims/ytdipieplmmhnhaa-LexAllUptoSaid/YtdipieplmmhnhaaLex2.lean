/-
  Package lex, walked: number, next.
-/
import Derived.Test.YtdipieplmmhnhaaLex1
import Derived.Test.YtdipieplmmhnhaaSettle3
import Derived.Test.YtdipieplmmhnhaaShelf
import Derived.Deep.RegionWith
namespace Go.Proofs.Ytdipieplmmhnhaa
set_option linter.unusedVariables false
set_option linter.unusedSimpArgs false
open Go.RowKit

namespace Lx
def most : Bs := [57, 50, 50, 51, 51, 55, 50, 48, 51, 54, 56, 53, 52, 55, 55, 53, 56, 48, 55]
def number (t : Bs) : Bool := (t.length == 1 || t.head? != some 48) && (decide (t.length < 19) || (t.length == 19 && (Op.bytesLess t most || t == most)))
end Lx

theorem lexnumber_any (s : ByteArray) (w : World) (h0 : 0 < s.size) (hs : s.size ≤ 4611686018427387904) :
    Calls Try.prog 42 #[.string s] w fun e w' => e = .returned (.bool (Lx.number s.data.toList)) ∧ w = w' := by
  obtain ⟨n, hn⟩ : ∃ n, n = s.size := ⟨_, rfl⟩
  have hl : s.data.toList.length = n := by rw [hn]; simp
  obtain ⟨c, r, hcr⟩ : ∃ c r, s.data.toList = c :: r := by
    cases h : s.data.toList with
    | nil => rw [h] at hl; simp at hl; omega
    | cons c r => exact ⟨c, r, rfl⟩
  have hv : Lx.number s.data.toList = ((n == 1 || ((c.toNat : Int) != 48)) && (decide (n < 19) || (n == 19 && (Op.bytesLess s.data.toList Lx.most || s.data.toList == Lx.most)))) := by
    unfold Lx.number
    rw [hl]
    congr 2
    rw [hcr, List.head?_cons]
    rw [Bool.eq_iff_iff, bne_iff_ne, bne_iff_ne]
    constructor
    · intro h e; apply h; congr 1; apply UInt8.toNat_inj.1; simp; omega
    · rintro h e; apply h; injection e with e; rw [e]; rfl
  have hc : s[0]'(by omega) = c := by
    have h1 : s.data.toList[0]'(by rw [hl]; omega) = c := by simp [hcr]
    exact h1
  have b1 : ∀ k : Nat, ((s.size : Int) == (k : Int)) = (n == k) := fun k => by rw [Bool.eq_iff_iff, beq_iff_eq, beq_iff_eq]; omega
  have b2 : decide ((s.size : Int) < 19) = decide (n < 19) := by rw [Bool.eq_iff_iff, decide_eq_true_iff, decide_eq_true_iff]; omega
  have b3 : ((s.size : Int) == 1) = (n == 1) := b1 1
  have b4 : ((s.size : Int) == 19) = (n == 19) := b1 19
  have b5 : ((s[0]'(by omega)).toNat : Int) = (c.toNat : Int) := by rw [hc]
  have hz : (0 : Int) < (s.size : Int) := by omega
  have HV := Lib.hid hv
  clear hl hcr hv b1 hn hc
  rcases h1 : n == 1 with _ | _
  · rcases h2 : ((c.toNat : Int) != 48) with _ | _
    · rw [h1] at b3 HV
      rw [h2] at HV
      clear h1 b2 b4
      go_enter Try.func42, Try.ntmps42
      go_wp2
      go_ret
      exact ⟨ret_bool (by rw [HV.out]; simp), rfl⟩
    · rcases h3 : decide (n < 19) with _ | _
      · rcases h4 : n == 19 with _ | _
        · rw [h1] at b3 HV
          rw [h2, h3, h4] at HV
          rw [h3] at b2
          rw [h4] at b4
          clear h1 h3 h4
          go_enter Try.func42, Try.ntmps42
          go_wp2
          go_ret
          exact ⟨ret_bool (by rw [HV.out]; simp), rfl⟩
        · rw [h1] at b3 HV
          rw [h2, h3, h4] at HV
          rw [h3] at b2
          rw [h4] at b4
          clear h1 h3 h4
          go_enter Try.func42, Try.ntmps42
          go_wp2
          go_ret
          exact ⟨ret_bool (by rw [HV.out]; simp [ByteArray.toList_eq, Lx.most]), rfl⟩
      · rw [h1] at b3 HV
        rw [h2, h3] at HV
        rw [h3] at b2
        clear h1 h3 b4
        go_enter Try.func42, Try.ntmps42
        go_wp2
        go_ret
        exact ⟨ret_bool (by rw [HV.out]; simp), rfl⟩
  · have h3 : decide (n < 19) = true := by have := beq_iff_eq.1 h1; simp; omega
    rw [h1] at b3 HV
    rw [h3] at b2 HV
    clear h1 b4 h3
    go_enter Try.func42, Try.ntmps42
    go_wp2
    go_ret
    exact ⟨ret_bool (by rw [HV.out]; simp), rfl⟩

namespace Lx
def tkc (x : Tk) : List Value := [.int .i64 x.1, .int .i64 x.2.1, .string ⟨x.2.2.toArray⟩]
theorem extract_eq (s : ByteArray) (a b : Nat) (hb : b ≤ s.size) (hab : a ≤ b) : s.extract a b = ⟨((s.data.toList.drop a).take (b - a)).toArray⟩ := by
  apply ByteArray.ext
  apply Array.toList_inj.1
  simp [List.extract]
theorem takeWhile_take (p : UInt8 → Bool) : ∀ l : Bs, l.take (l.takeWhile p).length = l.takeWhile p
  | [] => rfl
  | x :: l => by
    rw [List.takeWhile_cons]
    split
    · rw [List.length_cons, List.take_succ_cons, takeWhile_take p l]
    · rfl
theorem run_gt (p : UInt8 → Bool) (l : Bs) (a : Nat) (h : a < l.length) (hp : p l[a] = true) : a < run p l a := by
  rw [run_yes p l a h hp]
  have := run_le p l (a + 1) h
  omega
theorem run_text (p : UInt8 → Bool) (s : ByteArray) (a : Nat) (ha : a ≤ s.size) : s.extract a (run p s.data.toList a) = ⟨((s.data.toList.drop a).takeWhile p).toArray⟩ := by
  have h := run_le p s.data.toList a (by simpa using ha)
  rw [extract_eq s a _ (by simpa using h.2) h.1]
  congr 2
  unfold run
  rw [Nat.add_sub_cancel_left, takeWhile_take]
/-- what 'next' answers -/
def NextIs (o : Option (Int × Bs)) (a : Nat) (v : Value) (b : Bool) : Prop := match o with | none => b = false ∧ ∃ (k : Int) (t : ByteArray), v = .agg #[.int .i64 k, .int .i64 a, .string t] | some (k, t) => b = true ∧ v = .agg (tkc (k, a, t)).toArray
theorem indexByte_nonneg (l : Bs) (c : UInt8) : decide (0 ≤ Lib.indexByte l c) = l.contains c := by
  induction l with
  | nil => rfl
  | cons x l ih =>
    rw [List.contains_cons, ← ih]
    have hge := Lib.indexByte_ge l c
    have e : Lib.indexByte (x :: l) c = if x == c then 0 else if Lib.indexByte l c == -1 then -1 else Lib.indexByte l c + 1 := rfl
    rw [e]
    have e2 : (c == x) = (x == c) := Bool.eq_iff_iff.2 (by rw [beq_iff_eq, beq_iff_eq]; exact ⟨Eq.symm, Eq.symm⟩)
    rw [e2]
    generalize Lib.indexByte l c = z at hge
    cases x == c with
    | true => rfl
    | false =>
      rw [if_neg (by simp), Bool.false_or, Bool.eq_iff_iff, decide_eq_true_iff, decide_eq_true_iff]
      cases hy : z == -1 with
      | true => have := beq_iff_eq.1 hy; rw [if_pos rfl]; omega
      | false =>
        have : z ≠ -1 := fun e => by rw [e] at hy; cases hy
        rw [if_neg (by simp)]
        omega
theorem sign_at (c : UInt8) : ∃ z : Int, Lib.indexByte (⟨#[123, 125, 91, 93, 40, 41, 59, 61, 60, 43, 45, 42, 47, 37]⟩ : ByteArray).data.toList ((c.toNat : Int).toNat.toUInt8) = z ∧ decide (0 ≤ z) = signs.contains c :=
  ⟨_, rfl, by rw [show ((c.toNat : Int).toNat.toUInt8) = c from by rw [Int.toNat_natCast]; exact UInt8.toNat_inj.1 (by simp)]; exact indexByte_nonneg signs c⟩
def NextPost (s : ByteArray) (a : Nat) (w : World) : Ending → World → Prop := fun e w' => (∃ v b, e = .returned (.tuple #[v, .bool b]) ∧ NextIs (tok number (s.data.toList.drop a)) a v b) ∧ Below w.heap.size w w'
theorem next_post {s : ByteArray} {a : Nat} {w : World} {o : Option (Int × Bs)} (h : tok number (s.data.toList.drop a) = o) {e : Ending} {w' : World} (h2 : (∃ v b, e = .returned (.tuple #[v, .bool b]) ∧ NextIs o a v b) ∧ Below w.heap.size w w') : NextPost s a w e w' := by
  subst h; exact h2
end Lx

set_option maxHeartbeats 4000000 in
theorem lexnext_any (s : ByteArray) (a : Nat) (w : World) (ha : a < s.size) (hs : s.size ≤ 4611686018427387904) :
    Calls Try.prog 35 #[.string s, .int .i64 a] w (Lx.NextPost s a w) := by
  have hl : s.data.toList.length = s.size := by simp
  have hlt : a < s.data.toList.length := by omega
  have hdrop : s.data.toList.drop a = (s[a]'ha) :: s.data.toList.drop (a + 1) := List.drop_eq_getElem_cons hlt
  have htk := Lx.tok_cons Lx.number (s[a]'ha) (s.data.toList.drop (a + 1))
  rw [← hdrop] at htk
  obtain ⟨c, hc⟩ : ∃ c, c = (s[a]'ha) := ⟨_, rfl⟩
  have hci : ((s[a]'ha).toNat : Int) = (c.toNat : Int) := by rw [hc]
  rw [← hc] at htk
  have e41 : ∀ (args : Array Value) (w : World), (callFunc 41 args).run Try.prog w = .ok (.enter 41 args) w := fun _ _ => by rfl
  have e44 : ∀ (args : Array Value) (w : World), (callFunc 44 args).run Try.prog w = .ok (.enter 44 args) w := fun _ _ => by rfl
  have hcl : c = s.data.toList[a]'hlt := hc
  have hdc : s.data.toList.drop a = c :: s.data.toList.drop (a + 1) := by rw [hc]; exact hdrop
  clear hl hc hdrop
  rcases h1 : Lx.dig c with _ | _
  rotate_left
  · rw [h1, if_pos rfl] at htk
    have HTK := Lib.hid htk
    clear htk
    obtain ⟨r, hr⟩ : ∃ r, r = Lx.run Lx.dig s.data.toList a := ⟨_, rfl⟩
    have hrl := Lx.run_le Lx.dig s.data.toList a (by simp; omega)
    rw [← hr] at hrl
    have h2 : (a : Int) ≤ (r : Int) := by omega
    have h3 : (r : Int) ≤ (s.size : Int) := by have := hrl.2; simp at this; omega
    obtain ⟨T, hT⟩ : ∃ T, T = s.extract a r := ⟨_, rfl⟩
    have hT2 : T = ⟨((s.data.toList.drop a).takeWhile Lx.dig).toArray⟩ := by rw [hT, hr, Lx.run_text Lx.dig s a (by omega)]
    have hT0 : 0 < T.size := by have := Lx.run_gt Lx.dig s.data.toList a hlt (by rw [← hcl]; exact h1); rw [hT]; simp; omega
    have hT1 : T.size ≤ s.size := by rw [hT]; simp; omega
    have HR := Lib.hid hr
    have HTT := Lib.hid hT
    have hfin : Lx.NextIs (if Lx.number ((s.data.toList.drop a).takeWhile Lx.dig) = true then some (1, (s.data.toList.drop a).takeWhile Lx.dig) else none) a (.agg #[.int .i64 1, .int .i64 a, .string T]) (Lx.number T.data.toList) := by
      have e : T.data.toList = (s.data.toList.drop a).takeWhile Lx.dig := by rw [hT2]
      rw [e]
      cases hN : Lx.number ((s.data.toList.drop a).takeWhile Lx.dig) with
      | true => rw [if_pos rfl]; exact ⟨rfl, by rw [hT2]; rfl⟩
      | false => rw [if_neg (by simp)]; exact ⟨rfl, _, _, rfl⟩
    have HF := Lib.hid hfin
    have H1 := Lib.hid h1
    clear h1 hr hrl hT2 hT hcl hlt hfin hdc
    go_enter Try.func35, Try.ntmps35
    go_wp2_with fail
    refine (lexdigit_any c _).mono ?_
    rintro e w' ⟨rfl, rfl⟩
    rw [H1.out]
    go_wp2_with fail
    go_region_with ((go_at_call 33; refine (lexrun_any Lx.dig _ e41 lexdigit_any s a _ (by omega) hs).mono ?_; rintro e w' ⟨rfl, rfl⟩; rw [← HR.out]))
    rw [← HTT.out]
    go_wp2_with fail
    go_region_with ((go_at_call 42; refine (lexnumber_any T _ hT0 (by omega)).mono ?_; rintro e w' ⟨rfl, rfl⟩))
    all_goals
      go_wp2
      exact bodyPost_ret (v := .tuple #[.agg #[.int .i64 1, .int .i64 a, .string T], .bool (Lx.number T.data.toList)]) (by simp [results, Try.results35, go_sem]) rfl (Lx.next_post HTK.out ⟨⟨_, _, rfl, HF.out⟩, (by repeat (first | exact Below.refl _ _ | apply below_drew | apply below_alloc))⟩)
  rw [h1, if_neg (by simp)] at htk
  have H1 := Lib.hid h1
  clear h1
  rcases h4 : Lx.ltr c with _ | _
  rotate_left
  · rw [h4, if_pos rfl] at htk
    have HTK := Lib.hid htk
    clear htk
    obtain ⟨r, hr⟩ : ∃ r, r = Lx.run Lx.word s.data.toList a := ⟨_, rfl⟩
    have hrl := Lx.run_le Lx.word s.data.toList a (by simp; omega)
    rw [← hr] at hrl
    have h2 : (a : Int) ≤ (r : Int) := by omega
    have h3 : (r : Int) ≤ (s.size : Int) := by have := hrl.2; simp at this; omega
    obtain ⟨T, hT⟩ : ∃ T, T = s.extract a r := ⟨_, rfl⟩
    have hT2 : T = ⟨((s.data.toList.drop a).takeWhile Lx.word).toArray⟩ := by rw [hT, hr, Lx.run_text Lx.word s a (by omega)]
    have hT0 : 0 < T.size := by have := Lx.run_gt Lx.word s.data.toList a hlt (by rw [← hcl]; exact (by simp [Lx.word, h4])); rw [hT]; simp; omega
    have hT1 : T.size ≤ s.size := by rw [hT]; simp; omega
    have HR := Lib.hid hr
    have HTT := Lib.hid hT
    have hfin : Lx.NextIs (some (2, (s.data.toList.drop a).takeWhile Lx.word)) a (.agg #[.int .i64 2, .int .i64 a, .string T]) true := ⟨rfl, by rw [hT2]; rfl⟩
    have HF := Lib.hid hfin
    have H4 := Lib.hid h4
    clear h4 hr hrl hT2 hT hcl hlt hfin hdc
    go_enter Try.func35, Try.ntmps35
    go_wp2_with fail
    refine (lexdigit_any c _).mono ?_
    rintro e w' ⟨rfl, rfl⟩
    rw [H1.out]
    go_wp2_with fail
    refine (lexletter_any c _).mono ?_
    rintro e w' ⟨rfl, rfl⟩
    rw [H4.out]
    go_wp2_with fail
    go_region_with ((go_at_call 33; refine (lexrun_any Lx.word _ e44 lexword_any s a _ (by omega) hs).mono ?_; rintro e w' ⟨rfl, rfl⟩; rw [← HR.out]))
    rw [← HTT.out]
    go_wp2
    exact bodyPost_ret (v := .tuple #[.agg #[.int .i64 2, .int .i64 a, .string T], .bool true]) (by simp [results, Try.results35, go_sem]) rfl (Lx.next_post HTK.out ⟨⟨_, _, rfl, HF.out⟩, (by repeat (first | exact Below.refl _ _ | apply below_drew | apply below_alloc))⟩)
  rw [h4, if_neg (by simp)] at htk
  have H4 := Lib.hid h4
  clear h4 hcl hlt
  obtain ⟨D, hD⟩ : ∃ D : ByteArray, D = s.extract a s.size := ⟨_, rfl⟩
  have hDl : D.data.toList = s.data.toList.drop a := by rw [hD, Lx.extract_eq s a s.size (Nat.le_refl _) (by omega)]; simp [List.take_of_length_le]
  rw [show [61, 61].isPrefixOf (s.data.toList.drop a) = [61, 61].isPrefixOf D.data.toList from by rw [hDl]] at htk
  have HD := Lib.hid hD
  clear hD
  rcases h5 : [61, 61].isPrefixOf D.data.toList with _ | _
  rotate_left
  · rw [h5, if_pos rfl] at htk
    have HTK := Lib.hid htk
    clear htk
    have hfin : Lx.NextIs (some (3, [61, 61])) a (.agg #[.int .i64 3, .int .i64 a, .string ⟨#[61, 61]⟩]) true := ⟨rfl, rfl⟩
    have HF := Lib.hid hfin
    have H5 := Lib.hid (show Lib.hasPrefix D.data.toList (⟨#[61, 61]⟩ : ByteArray).data.toList = true from h5)
    clear h5 hfin hdc hDl
    go_enter Try.func35, Try.ntmps35
    go_wp2_with fail
    refine (lexdigit_any c _).mono ?_
    rintro e w' ⟨rfl, rfl⟩
    rw [H1.out]
    go_wp2_with fail
    refine (lexletter_any c _).mono ?_
    rintro e w' ⟨rfl, rfl⟩
    rw [H4.out]
    go_wp2_with fail
    rw [← HD.out]
    refine (Try.strings_HasPrefix D _ _).mono ?_
    rintro e w' ⟨rfl, rfl⟩
    rw [H5.out]
    go_wp2
    exact bodyPost_ret (v := .tuple #[.agg #[.int .i64 3, .int .i64 a, .string ⟨#[61, 61]⟩], .bool true]) (by simp [results, Try.results35, go_sem]) rfl (Lx.next_post HTK.out ⟨⟨_, _, rfl, HF.out⟩, (by repeat (first | exact Below.refl _ _ | apply below_drew | apply below_alloc))⟩)
  rw [h5, if_neg (by simp)] at htk
  have H5 := Lib.hid (show Lib.hasPrefix D.data.toList (⟨#[61, 61]⟩ : ByteArray).data.toList = false from h5)
  clear h5
  obtain ⟨z, hz, hz2⟩ := Lx.sign_at c
  have HZ := Lib.hid hz
  clear hz
  rcases h6 : Lx.signs.contains c with _ | _
  · rw [h6, if_neg (by simp)] at htk
    have HTK := Lib.hid htk
    rw [h6] at hz2
    clear htk h6 hdc hDl
    go_enter Try.func35, Try.ntmps35
    go_wp2_with fail
    refine (lexdigit_any c _).mono ?_
    rintro e w' ⟨rfl, rfl⟩
    rw [H1.out]
    go_wp2_with fail
    refine (lexletter_any c _).mono ?_
    rintro e w' ⟨rfl, rfl⟩
    rw [H4.out]
    go_wp2_with fail
    rw [← HD.out]
    refine (Try.strings_HasPrefix D _ _).mono ?_
    rintro e w' ⟨rfl, rfl⟩
    rw [H5.out]
    go_wp2_with fail
    refine (Try.strings_IndexByte _ _ _).mono ?_
    rintro e w' ⟨rfl, rfl⟩
    rw [HZ.out]
    clear HZ
    go_wp2
    exact bodyPost_ret (v := .tuple #[.agg #[.int .i64 0, .int .i64 a, .string ⟨#[]⟩], .bool false]) (by simp [results, Try.results35, go_sem]) rfl (Lx.next_post HTK.out ⟨⟨_, _, rfl, ⟨rfl, _, _, rfl⟩⟩, (by repeat (first | exact Below.refl _ _ | apply below_drew | apply below_alloc))⟩)
  · rw [h6, if_pos rfl] at htk
    have HTK := Lib.hid htk
    rw [h6] at hz2
    have hx1 : s.extract a (a + 1) = ⟨#[c]⟩ := by
      rw [Lx.extract_eq s a (a + 1) (by omega) (by omega), hdc, Nat.add_sub_cancel_left]
      rfl
    have HX := Lib.hid hx1
    have q1 : IntKind.i64.wrap ((a : Int) + 1) = ((a + 1 : Nat) : Int) := by rw [IntWalk.i64_in _ (by omega)]; omega
    have q2 : ((a + 1 : Nat) : Int) ≤ (s.size : Int) := by omega
    have q3 : (a : Int) ≤ ((a + 1 : Nat) : Int) := by omega
    clear htk h6 hdc hDl hx1
    go_enter Try.func35, Try.ntmps35
    go_wp2_with fail
    refine (lexdigit_any c _).mono ?_
    rintro e w' ⟨rfl, rfl⟩
    rw [H1.out]
    go_wp2_with fail
    refine (lexletter_any c _).mono ?_
    rintro e w' ⟨rfl, rfl⟩
    rw [H4.out]
    go_wp2_with fail
    rw [← HD.out]
    refine (Try.strings_HasPrefix D _ _).mono ?_
    rintro e w' ⟨rfl, rfl⟩
    rw [H5.out]
    go_wp2_with fail
    refine (Try.strings_IndexByte _ _ _).mono ?_
    rintro e w' ⟨rfl, rfl⟩
    rw [HZ.out]
    clear HZ
    go_wp2_with fail
    go_region_with (fail)
    all_goals
      rw [HX.out]
      go_wp2
      exact bodyPost_ret (v := .tuple #[.agg #[.int .i64 3, .int .i64 a, .string ⟨#[c]⟩], .bool true]) (by simp [results, Try.results35, go_sem]) rfl (Lx.next_post HTK.out ⟨⟨_, _, rfl, ⟨rfl, rfl⟩⟩, (by repeat (first | exact Below.refl _ _ | apply below_drew | apply below_alloc))⟩)
end Go.Proofs.Ytdipieplmmhnhaa
