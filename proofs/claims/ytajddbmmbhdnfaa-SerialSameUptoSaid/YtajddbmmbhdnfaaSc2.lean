/-
  scope's walker: within, walked.
-/
import Derived.Test.YtajddbmmbhdnfaaSc1
import Derived.Test.YtajddbmmbhdnfaaMarkT
import Derived.Test.YtajddbmmbhdnfaaMh1
namespace Go.Proofs.Ytajddbmmbhdnfaa
set_option linter.unusedVariables false
set_option linter.unusedSimpArgs false
set_option maxRecDepth 100000
open Go.RowKit

namespace Sr
open Ex St
/-- what is bound behind statements -/
def bda : P → List ByteArray → List ByteArray
  | .nil, bd => bd
  | .cons k nm _ _ _ _ rest, bd => if k = 1 ∨ k = 2 then bda rest (bd ++ [ba nm]) else bda rest bd
theorem bda_grow : ∀ (p : P) (bd : List ByteArray), ∃ more, bda p bd = bd ++ more ∧ more.length ≤ p.size
  | .nil, bd => ⟨[], by simp [bda], Nat.zero_le _⟩
  | .cons k nm a b body els rest, bd => by
    unfold bda P.size
    split
    · obtain ⟨m, h1, h2⟩ := bda_grow rest (bd ++ [ba nm])
      exact ⟨ba nm :: m, by rw [h1]; simp, by rw [List.length_cons]; omega⟩
    · obtain ⟨m, h1, h2⟩ := bda_grow rest bd
      exact ⟨m, h1, by omega⟩
theorem use_length (bd acc : List ByteArray) (e : X) : (use bd acc e).length ≤ acc.length + e.leaves := by
  have h1 := fold_length bd (names [] e) acc
  have h2 := names_length [] e
  unfold use
  simp only [List.length_nil] at h2
  omega
theorem fr_length : ∀ (p : P) (bd acc : List ByteArray), (fr p bd acc).length ≤ acc.length + p.size
  | .nil, _, _ => Nat.le_refl _
  | .cons k nm a b body els rest, bd, acc => by
    unfold fr P.size
    have ha := use_length bd acc a
    have hb := use_length bd (use bd acc a) b
    split
    · have := fr_length rest (bd ++ [ba nm]) (use bd acc a)
      omega
    split
    · have := fr_length rest bd (use bd (use bd acc a) b)
      omega
    split
    · have h1 := fr_length body bd acc
      have := fr_length rest bd (fr body bd acc)
      omega
    split
    · have h1 := fr_length body bd (use bd acc a)
      have h2 := fr_length els bd (fr body bd (use bd acc a))
      have := fr_length rest bd (fr els bd (fr body bd (use bd acc a)))
      omega
    split
    · have h1 := fr_length body (bd ++ [ba nm]) (use bd (use bd acc a) b)
      have := fr_length rest bd (fr body (bd ++ [ba nm]) (use bd (use bd acc a) b))
      omega
    · have := fr_length rest bd acc
      omega
end Sr

def StmtsOK (p : St.P) : Prop := ∀ (w : World) (B n c g : Nat) (A : Option Addr) (vb vf : Value) (bd fs : List ByteArray), PR B w A n p → n ≤ c → c ≤ maxLen → WkO B w g vb bd vf fs → bd.length + p.size ≤ 549755813888 → fs.length + p.size ≤ 549755813888 →
  Calls Try.prog 51 #[.pointer (some ⟨g, 0, none⟩), .slice A n c] w (WkEnd B w (WkT g vb bd vf fs) g (Sr.bda p bd) (Sr.fr p bd fs))

set_option maxHeartbeats 2000000 in
theorem within_any (p : St.P) (ih : StmtsOK p) (w : World) (B n c g : Nat) (A : Option Addr) (vb vf vm : Value) (bd fs ms : List ByteArray) (hp : PR B w A n p) (hnc : n ≤ c) (hc : c ≤ maxLen) (hO : WkO B w g vb bd vf fs)
    (hm : SlV w 1 vm ms.length (strs ms)) (hbd : bd.length + ms.length + p.size ≤ 549755813888) (hfs : fs.length + p.size ≤ 549755813888) :
    Calls Try.prog 56 #[.pointer (some ⟨g, 0, none⟩), .slice A n c, vm] w (WkEnd B w (WkT g vb bd vf fs) g bd (Sr.fr p (bd ++ ms) fs)) := by
  have rb : w.ownsRow B 9 1 vb bd.length (strs bd) := hO.row 0 rfl
  have b0 : w.cell? ⟨g, 0, none⟩ = some vb := (hO.blk.cell 0).trans rfl
  have hbase := hO.base
  obtain ⟨VB, cb, rfl, -, -⟩ := own_slice rb
  obtain ⟨VM, cm, rfl, -, -, hml, hmc⟩ := hm
  have n63 : bd.length + ms.length ≤ maxLen := by unfold maxLen; omega
  have n47 : (bd.length + ms.length) * 16 ≤ 140737488355328 := by omega
  have hmid : ∀ (w4 : World), w.grownBy w4 (Value.slice VB bd.length cb).ownBlock → Blk w4 g 127 [.slice VB bd.length cb, vf] := fun w4 g4 => hO.blk.grown g4 (fun e => hO.ng _ List.mem_cons_self e.symm)
  have hend : ∀ (w4 : World) (v' : Value) (w5 : World), w4.ownsRow B 9 1 v' (bd.length + ms.length) (strs bd ++ strs ms) → w.grownBy w4 (Value.slice VB bd.length cb).ownBlock → (v'.ownBlock = (Value.slice VB bd.length cb).ownBlock ∨ v'.ownBlock = some w.heap.size) → Blk w5 g 127 [v', vf] → w4.grownBy w5 (some g) →
      WkTo B w (WkT g (.slice VB bd.length cb) bd vf fs) w5 g v' (bd ++ ms) vf fs := fun w4 v' w5 o4 g4 e4 b5 g5 =>
    hO.put_to (i := 0) (r := strRw (.slice VB bd.length cb) bd) rfl (n' := (bd ++ ms).length) (xs' := strs (bd ++ ms)) (by simpa [strs, strRw] using o4) g4 (e4.imp id fun e => ⟨_, Nat.le_refl _, e⟩) b5 g5
  have hlater : ∀ w5, Keeps (WkT g (.slice VB bd.length cb) bd vf fs) w w5 → PR B w5 A n p := fun w5 k => hp.later (hO.below k)
  have HE := Lib.hid (And.intro hmid (And.intro hend hlater))
  clear hmid hend hlater hO hp
  go_enter Try.func56, Try.ntmps56
  go_wp2_with (first | (at_builtin; refine wp_append w _ _ B _ _ _ _ _ Try.underlying116 info_str rfl (by decide) rb hmc hml (strs_one ms) n63 n47 hbase rfl rfl rfl rfl ?_; intro v' w4 hown4 hg4 hv4 _; have hB4 := HE.out.1 w4 hg4; obtain ⟨V', c', rfl, _, _⟩ := own_slice hown4) | (refine wpl_set_blk hB4 0 _ (by kernel_rfl) (by simp) rfl rfl rfl rfl rfl rfl ?_; intro w5 hB5 hg5) | fail)
  have hT5 := HE.out.2.1 w4 _ w5 hown4 hg4 hv4 hB5 hg5
  have hp5 := HE.out.2.2 w5 hT5.kp
  refine (ih w5 B n c g A _ _ (bd ++ ms) fs hp5 hnc hc hT5.own (by rw [List.length_append]; omega) hfs).mono ?_
  rintro r w6 ⟨rfl, vb6, vf6, hT6⟩
  have hT := hT5.step hT6
  obtain ⟨more, hmo, -⟩ := Sr.bda_grow p (bd ++ ms)
  have r6 : w6.ownsRow B 9 1 vb6 (Sr.bda p (bd ++ ms)).length (strs (Sr.bda p (bd ++ ms))) := hT.own.row 0 rfl
  have d0 : w6.cell? ⟨g, 0, none⟩ = some vb6 := (hT.own.blk.cell 0).trans rfl
  have hle : bd.length ≤ (Sr.bda p (bd ++ ms)).length := by rw [hmo]; simp
  obtain ⟨V6, c6, rfl, hc6, hm6⟩ := own_slice r6
  unfold maxLen at hm6
  have r7 := own_prefix r6 hle
  have e7 : (strs (Sr.bda p (bd ++ ms))).take (bd.length * 1) = strs bd := by rw [hmo]; simp [strs]
  rw [e7] at r7
  have hB6 := hT.own.blk
  have HF := Lib.hid (And.intro hT r7)
  obtain ⟨K6, hK6⟩ : ∃ K6, K6 = (Sr.bda p (bd ++ ms)).length := ⟨_, rfl⟩
  rw [← hK6] at hle hB6 hc6 d0
  have HK := Lib.hid hK6
  clear hT hT5 hT6 r6 r7 e7 hown4 hg4 hv4 hB4 hB5 hg5 hp5 rb b0 HE hmo hK6 hmc hml
  go_wp2_with (first | (refine wpl_set_blk hB6 0 _ (by kernel_rfl) (by simp) rfl rfl rfl rfl rfl rfl ?_; intro w7 hB7 hg7) | fail)
  go_end0
  refine ⟨rfl, .slice V6 bd.length c6, vf6, ?_⟩
  have := HF.out.1.own.put_to (i := 0) (r := strRw (.slice V6 (Sr.bda p (bd ++ ms)).length c6) (Sr.bda p (bd ++ ms))) rfl (v' := .slice V6 bd.length c6) (n' := bd.length) (xs' := strs bd) HF.out.2 (World.grownBy.refl w6 _) (.inl (by cases V6 <;> rfl)) hB7 hg7
  exact HF.out.1.step this
end Go.Proofs.Ytajddbmmbhdnfaa
