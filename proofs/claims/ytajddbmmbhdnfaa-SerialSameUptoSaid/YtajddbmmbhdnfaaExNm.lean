/-
  Names in expressions, in plain Lean.
-/
import Derived.Test.YtajddbmmbhdnfaaExLaw
import Derived.Test.YtajddbmmbhdnfaaBase
namespace Go.Proofs.Ytajddbmmbhdnfaa.Ex
set_option linter.unusedVariables false
set_option linter.unusedSimpArgs false
set_option maxRecDepth 100000
open Go

/-- where it stands first -/
def idx (s : ByteArray) (xs : List ByteArray) : Nat := xs.findIdx (fun x => s.toList == x.toList)
def has (s : ByteArray) (xs : List ByteArray) : Bool := xs.any (fun x => s.toList == x.toList)

theorem bytes_eq {x y : ByteArray} (h : (x.toList == y.toList) = true) : x = y := by
  have h1 : x.toList = y.toList := by simpa using h
  rw [ByteArray.toList_eq, ByteArray.toList_eq] at h1
  cases x
  cases y
  congr
  exact Array.toList_inj.1 h1
theorem snoc_eq {α : Type} {xs ys : List α} {k : Nat} {x y : α} (hx : xs[k]? = some x) (hy : ys[k]? = some y) (ht : xs.take k = ys.take k) (e : x = y) : xs.take (k + 1) = ys.take (k + 1) := by
  have hsn : ∀ (z : α) (l : List α), l[k]? = some z → l.take (k + 1) = l.take k ++ [z] := fun z l h => by
    obtain ⟨h', rfl⟩ := List.getElem?_eq_some_iff.1 h
    exact List.take_succ_eq_append_getElem h'
  rw [hsn _ _ hx, hsn _ _ hy, ht, e]

def ba (s : Bs) : ByteArray := ⟨s.toArray⟩
theorem ba_data (s : ByteArray) : ba s.data.toList = s := by cases s; simp [ba]
def names (acc : List ByteArray) : X → List ByteArray
  | .name s => if has (ba s) acc then acc else acc ++ [ba s]
  | .two _ a b => names (names acc a) b
  | _ => acc
theorem names_length (acc : List ByteArray) (e : X) : (names acc e).length ≤ acc.length + e.leaves := by
  induction e generalizing acc with
  | name s => unfold names X.leaves; split <;> simp
  | two k a b ia ib =>
    have h1 := ia acc
    have h2 := ib (names acc a)
    unfold names X.leaves; omega
  | num n => unfold names X.leaves; omega
  | bad => unfold names X.leaves; omega

/-! ### what does not occur -/
theorem has_names (s : ByteArray) : ∀ (e : X) (acc : List ByteArray), has s acc = true → has s (names acc e) = true
  | .num n, _, h => h
  | .bad, _, h => h
  | .name x, acc, h => by
    unfold names
    split
    · exact h
    · unfold has at *
      rw [List.any_append, h]
      rfl
  | .two k a b, acc, h => has_names s b _ (has_names s a _ h)
def occ (s : Bs) : X → Bool
  | .name x => x == s
  | .two _ a b => occ s a || occ s b
  | _ => false
theorem ba_beq (s : ByteArray) (x : Bs) : (s.toList == (ba x).toList) = (x == s.data.toList) := by
  rw [ByteArray.toList_eq, ByteArray.toList_eq, Bool.eq_iff_iff]
  simp only [beq_iff_eq, ba]
  exact eq_comm
theorem has_occ (s : ByteArray) : ∀ (e : X) (acc : List ByteArray), has s (names acc e) = (has s acc || occ s.data.toList e)
  | .num n, _ => by simp [names, occ]
  | .bad, _ => by simp [names, occ]
  | .name x, acc => by
    unfold names occ
    by_cases h : has (ba x) acc = true
    · rw [if_pos h]
      by_cases hx : (x == s.data.toList) = true
      · have : ba x = s := by
          have : x = s.data.toList := by simpa using hx
          rw [this, ba_data]
        rw [← this, h]
        rfl
      · rw [show (x == s.data.toList) = false by simpa using hx, Bool.or_false]
    · rw [if_neg h]
      unfold has
      rw [List.any_append, List.any_cons, List.any_nil, Bool.or_false, ba_beq]
  | .two k a b, acc => by
    show has s (names (names acc a) b) = _
    rw [has_occ s b, has_occ s a, occ, Bool.or_assoc]
end Go.Proofs.Ytajddbmmbhdnfaa.Ex
