/-
  forkwrightkeep's alive15, walked.
-/
import Derived.Test.YtcoijmnnnfogdaaRdP1
import Derived.Test.YtcoijmnnnfogdaaRdP2
import Derived.Test.YtcoijmnnnfogdaaChecked
import Derived.Laws.StructEq

namespace Go.Proofs.Ytcoijmnnnfogdaa.Stl
set_option linter.unusedVariables false
set_option linter.unusedSimpArgs false
set_option maxRecDepth 100000
open Sp

/-! ### what Go reckons with -/
structure Part where
  kind : Nat
  leaf : Int
  left : Nat
  right : Nat
  up : Int
  onR : Bool
  done : Bool

def sz : T → Nat
  | .nil => 1
  | .one _ _ _ => 1
  | .two _ l r => 1 + sz l + sz r
theorem sz_pos (t : T) : 0 < sz t := by cases t <;> simp [sz] <;> omega

/-- the parts of a term that lies at n, its leaves from m on -/
def partsOf : T → (n m : Nat) → (up : Int) → (onR : Bool) → List Part
  | .nil, _, _, up, onR => [⟨0, -1, 0, 0, up, onR, false⟩]
  | .one _ _ _, _, m, up, onR => [⟨1, (m : Int), 0, 0, up, onR, false⟩]
  | .two par l r, n, m, up, onR => ⟨if par then 3 else 2, -1, n + 1, n + 1 + sz l, up, onR, false⟩ :: (partsOf l (n + 1) m n false ++ partsOf r (n + 1 + sz l) (m + l.size) n true)
theorem partsOf_length : ∀ (t : T) (n m : Nat) (up : Int) (onR : Bool), (partsOf t n m up onR).length = sz t
  | .nil, _, _, _, _ => rfl
  | .one _ _ _, _, _, _, _ => rfl
  | .two par l r, n, m, up, onR => by simp [partsOf, partsOf_length l, partsOf_length r, sz]; omega

/-- what is done is marked -/
def mark (ps : List Part) (n : Nat) : List Part := match ps[n]? with
  | some p => ps.set n { p with done := true }
  | none => ps

/-- the parts, the worker's own queue, and where he goes on; none: it goes wrong, or takes too long -/
def ended : Nat → List Part → List Nat → Nat → Option (List Part × List Nat × Int)
  | 0, _, _, _ => none
  | f + 1, ps, q, n =>
    match ps[n]? with
    | none => none
    | some p =>
      if p.up < 0 then some (mark ps n, q, -1) else
      match (mark ps n)[p.up.toNat]? with
      | none => none
      | some u =>
        if u.kind = 2 then (if p.onR then ended f (mark ps n) q p.up.toNat else some (mark ps n, q, (u.right : Int)))
        else match (mark ps n)[u.left]?, (mark ps n)[u.right]? with
          | some a, some b =>
            if a.done && b.done then ended f (mark ps n) q p.up.toNat
            else if p.onR then some (mark ps n, q, -1)
            else match q.getLast? with
              | some k => some (mark ps n, q.dropLast, (k : Int))
              | none => some (mark ps n, q, -1)
          | _, _ => none
def settle : Nat → List Part → List Nat → Int → Option (List Part × List Nat × Int)
  | 0, _, _, _ => none
  | f + 1, ps, q, a =>
    if a < 0 then some (ps, q, a) else
    match ps[a.toNat]? with
    | none => none
    | some p =>
      if p.kind = 1 then some (ps, q, a)
      else if p.kind = 3 then (if q.length < 1099511627776 then settle f ps (q ++ [p.right]) (p.left : Int) else none)
      else if p.kind = 2 then settle f ps q (p.left : Int)
      else match ended (f + 1) ps q a.toNat with
        | none => none
        | some (ps', q', a') => settle f ps' q' a'

theorem ended_more : ∀ (f : Nat) (ps : List Part) (q : List Nat) (n : Nat) (r), ended f ps q n = some r → ∀ g, f ≤ g → ended g ps q n = some r
  | 0, ps, q, n, r, h, g, hg => by simp [ended] at h
  | f + 1, ps, q, n, r, h, 0, hg => by omega
  | f + 1, ps, q, n, r, h, g + 1, hg => by
    have ih := fun q n r h => ended_more f (mark ps n) q n r h g (by omega)
    unfold ended at h ⊢
    split
    · rename_i e; rw [e] at h; exact h
    · rename_i p e
      rw [e] at h
      dsimp only at h
      split
      · rename_i h1; rw [if_pos h1] at h; exact h
      · rename_i h1
        rw [if_neg h1] at h
        split
        · rename_i e2; rw [e2] at h; exact h
        · rename_i u e2
          rw [e2] at h
          dsimp only at h
          split
          · rename_i h2
            rw [if_pos h2] at h
            split
            · rename_i h3; rw [if_pos h3] at h; exact ended_more f _ _ _ _ h g (by omega)
            · rename_i h3; rw [if_neg h3] at h; exact h
          · rename_i h2
            rw [if_neg h2] at h
            split
            · rename_i a b e3 e4
              rw [e3, e4] at h
              dsimp only at h
              split
              · rename_i h3; rw [if_pos h3] at h; exact ended_more f _ _ _ _ h g (by omega)
              · rename_i h3; rw [if_neg h3] at h; exact h
            · rename_i hno
              split at h
              · rename_i e3 e4; exact absurd e4 (by intro e4; exact hno _ _ e3 e4)
              · exact h
theorem settle_more : ∀ (f : Nat) (ps : List Part) (q : List Nat) (a : Int) (r), settle f ps q a = some r → ∀ g, f ≤ g → settle g ps q a = some r
  | 0, ps, q, a, r, h, g, hg => by simp [settle] at h
  | f + 1, ps, q, a, r, h, 0, hg => by omega
  | f + 1, ps, q, a, r, h, g + 1, hg => by
    unfold settle at h ⊢
    split
    · rename_i h1; rw [if_pos h1] at h; exact h
    · rename_i h1
      rw [if_neg h1] at h
      split
      · rename_i e; rw [e] at h; exact h
      · rename_i p e
        rw [e] at h
        dsimp only at h
        split
        · rename_i h2; rw [if_pos h2] at h; exact h
        · rename_i h2
          rw [if_neg h2] at h
          split
          · rename_i h3
            rw [if_pos h3] at h
            split
            · rename_i h4; rw [if_pos h4] at h; exact settle_more f _ _ _ _ h g (by omega)
            · rename_i h4; rw [if_neg h4] at h; cases h
          · rename_i h3
            rw [if_neg h3] at h
            split
            · rename_i h4; rw [if_pos h4] at h; exact settle_more f _ _ _ _ h g (by omega)
            · rename_i h4
              rw [if_neg h4] at h
              rcases he : ended (f + 1) ps q a.toNat with _ | ⟨ps', q', a'⟩
              · rw [he] at h; simp at h
              · rw [he] at h
                rw [ended_more _ _ _ _ _ he (g + 1) (by omega)]
                exact settle_more f _ _ _ _ h g (by omega)
end Go.Proofs.Ytcoijmnnnfogdaa.Stl


namespace Go.Proofs.Ytcoijmnnnfogdaa.Stl
set_option linter.unusedVariables false
set_option linter.unusedSimpArgs false
set_option maxRecDepth 100000
open Sp

/-- how far a term is done -/
inductive S where
  | fresh
  | done
  | at (w : Nat)
  | seqL (s : S)
  | seqR (s : S)
  | parQ (s : S)
  | parB (a b : S)
deriving DecidableEq

def S.isD : S → Bool
  | .done => true
  | _ => false
def S.sl : S → S
  | .done => .done
  | .seqL s => s
  | .seqR _ => .done
  | .parQ s => s
  | .parB a _ => a
  | _ => .fresh
def S.sr : S → S
  | .done => .done
  | .seqR s => s
  | .parB _ b => b
  | _ => .fresh
def hd (t : T) (s : S) (n m : Nat) (up : Int) (onR : Bool) : Part := match t with
  | .nil => ⟨0, -1, 0, 0, up, onR, s.isD⟩
  | .one _ _ _ => ⟨1, (m : Int), 0, 0, up, onR, s.isD⟩
  | .two par l _ => ⟨if par then 3 else 2, -1, n + 1, n + 1 + sz l, up, onR, s.isD⟩
/-- the parts of a term, so far done -/
def img : T → S → (n m : Nat) → (up : Int) → (onR : Bool) → List Part
  | .nil, s, n, m, up, onR => [hd .nil s n m up onR]
  | .one c b l, s, n, m, up, onR => [hd (.one c b l) s n m up onR]
  | .two par l r, s, n, m, up, onR => hd (.two par l r) s n m up onR :: (img l s.sl (n + 1) m n false ++ img r s.sr (n + 1 + sz l) (m + l.size) n true)
def tl : T → S → (n m : Nat) → List Part
  | .nil, _, _, _ => []
  | .one _ _ _, _, _, _ => []
  | .two _ l r, s, n, m => img l s.sl (n + 1) m n false ++ img r s.sr (n + 1 + sz l) (m + l.size) n true
theorem img_cons (t : T) (s : S) (n m : Nat) (up : Int) (onR : Bool) : img t s n m up onR = hd t s n m up onR :: tl t s n m := by cases t <;> rfl
theorem img_fresh : ∀ (t : T) (n m : Nat) (up : Int) (onR : Bool), img t .fresh n m up onR = partsOf t n m up onR
  | .nil, _, _, _, _ => rfl
  | .one _ _ _, _, _, _, _ => rfl
  | .two par l r, n, m, up, onR => by
    show _ :: (img l .fresh _ _ _ _ ++ img r .fresh _ _ _ _) = _
    rw [img_fresh l, img_fresh r]
    rfl
theorem img_length : ∀ (t : T) (s : S) (n m : Nat) (up : Int) (onR : Bool), (img t s n m up onR).length = sz t
  | .nil, _, _, _, _, _ => rfl
  | .one _ _ _, _, _, _, _, _ => rfl
  | .two par l r, s, n, m, up, onR => by simp [img, img_length l, img_length r, sz]; omega
/-- all done but itself -/
def imgU (t : T) (n m : Nat) (up : Int) (onR : Bool) : List Part := hd t .fresh n m up onR :: tl t .done n m

section
variable {pre post : List Part} {x : Part} {n : Nat}
theorem get_at (h : pre.length = n) : (pre ++ x :: post)[n]? = some x := by subst h; simp
theorem mark_at (h : pre.length = n) : mark (pre ++ x :: post) n = pre ++ { x with done := true } :: post := by
  unfold mark
  rw [get_at h]
  subst h
  simp
end
theorem hd_mark (t : T) (s : S) (n m : Nat) (up : Int) (onR : Bool) : { hd t s n m up onR with done := true } = hd t .done n m up onR := by cases t <;> rfl
theorem hd_up (t : T) (s : S) (n m : Nat) (up : Int) (onR : Bool) : (hd t s n m up onR).up = up := by cases t <;> rfl
theorem hd_onR (t : T) (s : S) (n m : Nat) (up : Int) (onR : Bool) : (hd t s n m up onR).onR = onR := by cases t <;> rfl
theorem hd_done (t : T) (s : S) (n m : Nat) (up : Int) (onR : Bool) : (hd t s n m up onR).done = s.isD := by cases t <;> rfl

/-! ### runs -/
abbrev Out := List Part × List Nat × Int
def Runs (ps : List Part) (q : List Nat) (a : Int) (r : Out) : Prop := ∃ f, settle f ps q a = some r
def EndRuns (ps : List Part) (q : List Nat) (n : Nat) (r : Out) : Prop := ∃ f ps' q' a', ended f ps q n = some (ps', q', a') ∧ Runs ps' q' a' r

theorem Runs.idle (ps : List Part) (q : List Nat) (a : Int) (h : a < 0) : Runs ps q a (ps, q, a) := ⟨1, by simp [settle, h]⟩
theorem Runs.leaf {ps : List Part} {q : List Nat} {n : Nat} {p : Part} (h : ps[n]? = some p) (hk : p.kind = 1) : Runs ps q n (ps, q, n) :=
  ⟨1, by simp [settle, h, hk]⟩
theorem Runs.par {ps : List Part} {q : List Nat} {n : Nat} {p : Part} {r : Out} (h : ps[n]? = some p) (hk : p.kind = 3) (hL : q.length < 1099511627776) (hr : Runs ps (q ++ [p.right]) p.left r) : Runs ps q n r := by
  obtain ⟨f, hf⟩ := hr
  exact ⟨f + 1, by unfold settle; rw [if_neg (by omega), Int.toNat_natCast, h]; simp [hk, hf, hL]⟩
theorem Runs.seq {ps : List Part} {q : List Nat} {n : Nat} {p : Part} {r : Out} (h : ps[n]? = some p) (hk : p.kind = 2) (hr : Runs ps q p.left r) : Runs ps q n r := by
  obtain ⟨f, hf⟩ := hr
  exact ⟨f + 1, by unfold settle; rw [if_neg (by omega), Int.toNat_natCast, h]; simp [hk, hf]⟩
theorem Runs.none_ {ps : List Part} {q : List Nat} {n : Nat} {p : Part} {r : Out} (h : ps[n]? = some p) (hk : p.kind = 0) (hr : EndRuns ps q n r) : Runs ps q n r := by
  obtain ⟨f, ps', q', a', he, g, hg⟩ := hr
  refine ⟨f + g + 1, ?_⟩
  unfold settle
  rw [if_neg (by omega), Int.toNat_natCast, h]
  simp only [hk, if_neg (show ¬ (0 = 1) by omega), if_neg (show ¬ (0 = 3) by omega), if_neg (show ¬ (0 = 2) by omega)]
  rw [ended_more _ _ _ _ _ he _ (by omega)]
  exact settle_more _ _ _ _ _ hg _ (by omega)

/-- a left one of a row has ended -/
theorem EndRuns.seqL {ps : List Part} {q : List Nat} {n k : Nat} {p u : Part} {r : Out} (h : ps[n]? = some p) (hu : p.up = (k : Int)) (hk : (mark ps n)[k]? = some u) (h2 : u.kind = 2) (hr : p.onR = false) (h' : Runs (mark ps n) q u.right r) : EndRuns ps q n r :=
  ⟨1, _, _, _, by simp [ended, h, hu, hk, h2, hr], h'⟩
theorem EndRuns.seqR {ps : List Part} {q : List Nat} {n k : Nat} {p u : Part} {r : Out} (h : ps[n]? = some p) (hu : p.up = (k : Int)) (hk : (mark ps n)[k]? = some u) (h2 : u.kind = 2) (hr : p.onR = true) (h' : EndRuns (mark ps n) q k r) : EndRuns ps q n r := by
  obtain ⟨f, ps', q', a', he, hr'⟩ := h'
  exact ⟨f + 1, ps', q', a', by unfold ended; simp [h, hu, hk, h2, hr, he]; omega, hr'⟩
theorem EndRuns.both {ps : List Part} {q : List Nat} {n k : Nat} {p u a b : Part} {r : Out} (h : ps[n]? = some p) (hu : p.up = (k : Int)) (hk : (mark ps n)[k]? = some u) (h2 : u.kind = 3) (ha : (mark ps n)[u.left]? = some a) (hb : (mark ps n)[u.right]? = some b) (da : a.done = true) (db : b.done = true) (h' : EndRuns (mark ps n) q k r) : EndRuns ps q n r := by
  obtain ⟨f, ps', q', a', he, hr'⟩ := h'
  exact ⟨f + 1, ps', q', a', by unfold ended; simp [h, hu, hk, h2, ha, hb, da, db, he]; omega, hr'⟩
theorem EndRuns.onR {ps : List Part} {q : List Nat} {n k : Nat} {p u a b : Part} (h : ps[n]? = some p) (hu : p.up = (k : Int)) (hk : (mark ps n)[k]? = some u) (h2 : u.kind = 3) (ha : (mark ps n)[u.left]? = some a) (hb : (mark ps n)[u.right]? = some b) (da : a.done = false) (hr : p.onR = true) : EndRuns ps q n (mark ps n, q, -1) :=
  ⟨1, mark ps n, q, -1, by simp [ended, h, hu, hk, h2, ha, hb, da, hr], Runs.idle _ _ _ (by decide)⟩
theorem EndRuns.pop {ps : List Part} {q : List Nat} {n k j : Nat} {p u a b : Part} {r : Out} (h : ps[n]? = some p) (hu : p.up = (k : Int)) (hk : (mark ps n)[k]? = some u) (h2 : u.kind = 3) (ha : (mark ps n)[u.left]? = some a) (hb : (mark ps n)[u.right]? = some b) (db : b.done = false) (hr : p.onR = false) (h' : Runs (mark ps n) q j r) : EndRuns ps (q ++ [j]) n r :=
  ⟨1, mark ps n, q, (j : Int), by simp [ended, h, hu, hk, h2, ha, hb, db, hr], h'⟩
theorem EndRuns.dry {ps : List Part} {n k : Nat} {p u a b : Part} (h : ps[n]? = some p) (hu : p.up = (k : Int)) (hk : (mark ps n)[k]? = some u) (h2 : u.kind = 3) (ha : (mark ps n)[u.left]? = some a) (hb : (mark ps n)[u.right]? = some b) (db : b.done = false) (hr : p.onR = false) : EndRuns ps [] n (mark ps n, [], -1) :=
  ⟨1, mark ps n, [], -1, by simp [ended, h, hu, hk, h2, ha, hb, db, hr], Runs.idle _ _ _ (by decide)⟩
theorem EndRuns.root {ps : List Part} {q : List Nat} {n : Nat} {p : Part} (h : ps[n]? = some p) (hu : p.up < 0) : EndRuns ps q n (mark ps n, q, -1) :=
  ⟨1, mark ps n, q, -1, by simp [ended, h, hu], Runs.idle _ _ _ (by decide)⟩

/-! ### the tree goes on -/
def start (w : Nat) : T → S
  | .nil => .done
  | .one _ _ _ => .at w
  | .two false l r => match start w l with
    | .done => (match start w r with | .done => .done | s => .seqR s)
    | s => .seqL s
  | .two true l r => match start w l with
    | .done => (match start w r with | .done => .done | s => .parB .done s)
    | s => .parQ s
def S.main : S → Option Nat
  | .at w => some w
  | .seqL s => s.main
  | .seqR s => s.main
  | .parQ s => s.main
  | .parB a b => if a = .done then b.main else none
  | _ => none
def S.ws : S → List Nat
  | .at w => [w]
  | .seqL s => s.ws
  | .seqR s => s.ws
  | .parQ s => s.ws
  | .parB a b => a.ws ++ b.ws
  | _ => []
def Act : T → S → Prop
  | .one _ _ _, .at _ => True
  | .two false l _, .seqL s => Act l s
  | .two false _ r, .seqR s => Act r s
  | .two true l _, .parQ s => Act l s ∧ s.main ≠ none
  | .two true l r, .parB a b => (a = .done ∨ Act l a) ∧ (b = .done ∨ Act r b) ∧ ¬ (a = .done ∧ b = .done)
  | _, _ => False
def loc : T → S → Nat → Nat → Nat
  | .one _ _ _, .at _, n, _ => n
  | .two _ l _, .seqL s, n, w => loc l s (n + 1) w
  | .two _ l r, .seqR s, n, w => loc r s (n + 1 + sz l) w
  | .two _ l _, .parQ s, n, w => loc l s (n + 1) w
  | .two _ l r, .parB a b, n, w => if w ∈ a.ws then loc l a (n + 1) w else loc r b (n + 1 + sz l) w
  | _, _, n, _ => n
def seg : T → S → Nat → Nat → List Nat
  | .two _ l _, .seqL s, n, w => seg l s (n + 1) w
  | .two _ l r, .seqR s, n, w => seg r s (n + 1 + sz l) w
  | .two _ l _, .parQ s, n, w => (n + 1 + sz l) :: seg l s (n + 1) w
  | .two _ l r, .parB a b, n, w => if w ∈ a.ws then seg l a (n + 1) w else seg r b (n + 1 + sz l) w
  | _, _, _, _ => []

theorem Act.not_done {t : T} {s : S} (h : Act t s) : s ≠ .done := by
  rintro rfl
  cases t with
  | nil => exact h
  | one _ _ _ => exact h
  | two par l r => cases par <;> exact h
theorem Act.isD {t : T} {s : S} (h : Act t s) : s.isD = false := by
  cases s with
  | done => exact absurd rfl h.not_done
  | _ => rfl

theorem start_seq (w : Nat) (l r : T) : start w (.two false l r) = if start w l = .done then (if start w r = .done then .done else .seqR (start w r)) else .seqL (start w l) := by
  show (match start w l with | .done => (match start w r with | .done => S.done | s => S.seqR s) | s => S.seqL s) = _
  rcases start w l <;> rcases start w r <;> rfl
theorem start_par (w : Nat) (l r : T) : start w (.two true l r) = if start w l = .done then (if start w r = .done then .done else .parB .done (start w r)) else .parQ (start w l) := by
  show (match start w l with | .done => (match start w r with | .done => S.done | s => S.parB .done s) | s => S.parQ s) = _
  rcases start w l <;> rcases start w r <;> rfl

/-- what is begun by one is his alone -/
theorem start_ok (w : Nat) : ∀ t : T, start w t = .done ∨ (Act t (start w t) ∧ (start w t).main = some w ∧ (start w t).ws = [w])
  | .nil => .inl rfl
  | .one _ _ _ => .inr ⟨trivial, rfl, rfl⟩
  | .two false l r => by
    rw [start_seq]
    rcases start_ok w l with hl | ⟨h1, h2, h3⟩
    · rw [if_pos hl]
      rcases start_ok w r with hr | ⟨h1, h2, h3⟩
      · rw [if_pos hr]; exact .inl rfl
      · rw [if_neg h1.not_done]; exact .inr ⟨h1, h2, h3⟩
    · rw [if_neg h1.not_done]; exact .inr ⟨h1, h2, h3⟩
  | .two true l r => by
    rw [start_par]
    rcases start_ok w l with hl | ⟨h1, h2, h3⟩
    · rw [if_pos hl]
      rcases start_ok w r with hr | ⟨h1, h2, h3⟩
      · rw [if_pos hr]; exact .inl rfl
      · rw [if_neg h1.not_done]; exact .inr ⟨⟨.inl rfl, .inr h1, fun h => h1.not_done h.2⟩, h2, h3⟩
    · rw [if_neg h1.not_done]; exact .inr ⟨⟨h1, by rw [h2]; simp⟩, h2, h3⟩

theorem in_two (pre post : List Part) (par : Bool) (l r : T) (s : S) (n m : Nat) (up : Int) (onR : Bool) :
    pre ++ img (.two par l r) s n m up onR ++ post = (pre ++ [hd (.two par l r) s n m up onR]) ++ img l s.sl (n + 1) m n false ++ (img r s.sr (n + 1 + sz l) (m + l.size) n true ++ post) := by
  rw [img]; simp
theorem in_two' (pre post : List Part) (par : Bool) (l r : T) (s : S) (n m : Nat) (up : Int) (onR : Bool) :
    pre ++ img (.two par l r) s n m up onR ++ post = (pre ++ hd (.two par l r) s n m up onR :: img l s.sl (n + 1) m n false) ++ img r s.sr (n + 1 + sz l) (m + l.size) n true ++ post := by
  rw [img]; simp

theorem end_at {pre post : List Part} {t : T} {n m : Nat} {up : Int} {onR : Bool} (h : pre.length = n) : (pre ++ imgU t n m up onR ++ post)[n]? = some (hd t .fresh n m up onR) ∧ mark (pre ++ imgU t n m up onR ++ post) n = pre ++ img t .done n m up onR ++ post := by
  have e : pre ++ imgU t n m up onR ++ post = pre ++ hd t .fresh n m up onR :: (tl t .done n m ++ post) := by simp [imgU]
  rw [e, get_at h, mark_at h, hd_mark, img_cons]
  simp
theorem imgU_two (par : Bool) (l r : T) (n m : Nat) (up : Int) (onR : Bool) : imgU (.two par l r) n m up onR = hd (.two par l r) .fresh n m up onR :: (img l .done (n + 1) m n false ++ img r .done (n + 1 + sz l) (m + l.size) n true) := rfl
theorem hd_two (par : Bool) (l r : T) (s s' : S) (h : s.isD = s'.isD) (n m : Nat) (up : Int) (onR : Bool) : hd (.two par l r) s n m up onR = hd (.two par l r) s' n m up onR := by
  simp [hd, h]
theorem img_head {pre post : List Part} {t : T} {s : S} {n m : Nat} {up : Int} {onR : Bool} (h : pre.length = n) : (pre ++ img t s n m up onR ++ post)[n]? = some (hd t s n m up onR) := by
  rw [img_cons, show pre ++ hd t s n m up onR :: tl t s n m ++ post = pre ++ hd t s n m up onR :: (tl t s n m ++ post) by simp, get_at h]

/-- a term is begun -/
theorem start_runs (w : Nat) : ∀ (t : T) (n m : Nat) (up : Int) (onR : Bool) (pre post : List Part) (q : List Nat), pre.length = n → q.length + sz t ≤ 1099511627776 →
    (start w t ≠ .done → Runs (pre ++ img t .fresh n m up onR ++ post) q n (pre ++ img t (start w t) n m up onR ++ post, q ++ seg t (start w t) n w, (loc t (start w t) n w : Int))) ∧
    (start w t = .done → ∀ r, EndRuns (pre ++ imgU t n m up onR ++ post) q n r → Runs (pre ++ img t .fresh n m up onR ++ post) q n r)
  | .nil, n, m, up, onR, pre, post, q, h, hL => ⟨fun h => absurd rfl h, fun _ r hr => Runs.none_ (img_head h) rfl hr⟩
  | .one c b lb, n, m, up, onR, pre, post, q, h, hL => ⟨fun _ => by
      have := Runs.leaf (q := q) (img_head (pre := pre) (post := post) (t := .one c b lb) (s := .fresh) (m := m) (up := up) (onR := onR) h) rfl
      simpa [start, seg, loc, img, hd, S.isD] using this, fun h => by cases h⟩
  | .two false l r, n, m, up, onR, pre, post, q, h, hL => by
    rw [sz] at hL
    have hl : (pre ++ [hd (.two false l r) .fresh n m up onR]).length = n + 1 := by simp [h]
    have hr : (pre ++ hd (.two false l r) .fresh n m up onR :: img l .done (n + 1) m n false).length = n + 1 + sz l := by simp [h, img_length]; omega
    have IL := start_runs w l (n + 1) m n false _ (img r .fresh (n + 1 + sz l) (m + l.size) n true ++ post) q hl (by omega)
    have IR := start_runs w r (n + 1 + sz l) (m + l.size) n true _ post q hr (by omega)
    have go : ∀ o, Runs (pre ++ [hd (.two false l r) .fresh n m up onR] ++ img l .fresh (n + 1) m n false ++ (img r .fresh (n + 1 + sz l) (m + l.size) n true ++ post)) q (n + 1 : Nat) o → Runs (pre ++ img (.two false l r) .fresh n m up onR ++ post) q n o := fun o ho => by
      refine Runs.seq (img_head h) rfl ?_
      rw [in_two]
      exact ho
    have step : start w l = .done → ∀ o, Runs (pre ++ hd (.two false l r) .fresh n m up onR :: img l .done (n + 1) m n false ++ img r .fresh (n + 1 + sz l) (m + l.size) n true ++ post) q (n + 1 + sz l : Nat) o → Runs (pre ++ img (.two false l r) .fresh n m up onR ++ post) q n o := fun e o ho => by
      refine go o (IL.2 e o ?_)
      obtain ⟨e1, e2⟩ := end_at (post := img r .fresh (n + 1 + sz l) (m + l.size) n true ++ post) (t := l) (m := m) (up := (n : Int)) (onR := false) hl
      refine EndRuns.seqL (k := n) (u := hd (.two false l r) .fresh n m up onR) e1 (hd_up _ _ _ _ _ _) ?_ rfl (hd_onR _ _ _ _ _ _) ?_
      · rw [e2]; simp [← h]
      · rw [e2]; simpa [hd] using ho
    rw [start_seq]
    by_cases el : start w l = .done
    · rw [if_pos el]
      by_cases er : start w r = .done
      · rw [if_pos er]
        refine ⟨fun h => absurd rfl h, fun _ o ho => step el o (IR.2 er o ?_)⟩
        obtain ⟨e1, e2⟩ := end_at (post := post) (t := r) (m := m + l.size) (up := (n : Int)) (onR := true) hr
        refine EndRuns.seqR (k := n) (u := hd (.two false l r) .fresh n m up onR) e1 (hd_up _ _ _ _ _ _) ?_ rfl (hd_onR _ _ _ _ _ _) ?_
        · rw [e2]; simp [← h]
        · rw [e2]; rw [imgU_two] at ho; simpa using ho
      · rw [if_neg er]
        refine ⟨fun _ => step el _ ?_, fun h => by cases h⟩
        have := IR.1 er
        rw [in_two']
        exact this
    · rw [if_neg el]
      refine ⟨fun _ => go _ ?_, fun h => by cases h⟩
      have := IL.1 el
      rw [in_two]
      exact this
  | .two true l r, n, m, up, onR, pre, post, q, h, hL => by
    rw [sz] at hL
    have hl : (pre ++ [hd (.two true l r) .fresh n m up onR]).length = n + 1 := by simp [h]
    have hr : (pre ++ hd (.two true l r) .fresh n m up onR :: img l .done (n + 1) m n false).length = n + 1 + sz l := by simp [h, img_length]; omega
    have IL := start_runs w l (n + 1) m n false _ (img r .fresh (n + 1 + sz l) (m + l.size) n true ++ post) (q ++ [n + 1 + sz l]) hl (by rw [List.length_append, List.length_singleton]; omega)
    have IR := start_runs w r (n + 1 + sz l) (m + l.size) n true _ post q hr (by omega)
    have go : ∀ o, Runs (pre ++ [hd (.two true l r) .fresh n m up onR] ++ img l .fresh (n + 1) m n false ++ (img r .fresh (n + 1 + sz l) (m + l.size) n true ++ post)) (q ++ [n + 1 + sz l]) (n + 1 : Nat) o → Runs (pre ++ img (.two true l r) .fresh n m up onR ++ post) q n o := fun o ho => by
      refine Runs.par (img_head h) rfl (by omega) ?_
      rw [in_two]
      exact ho
    have step : start w l = .done → ∀ o, Runs (pre ++ hd (.two true l r) .fresh n m up onR :: img l .done (n + 1) m n false ++ img r .fresh (n + 1 + sz l) (m + l.size) n true ++ post) q (n + 1 + sz l : Nat) o → Runs (pre ++ img (.two true l r) .fresh n m up onR ++ post) q n o := fun e o ho => by
      refine go o (IL.2 e o ?_)
      obtain ⟨e1, e2⟩ := end_at (post := img r .fresh (n + 1 + sz l) (m + l.size) n true ++ post) (t := l) (m := m) (up := (n : Int)) (onR := false) hl
      refine EndRuns.pop (k := n) (u := hd (.two true l r) .fresh n m up onR) (a := hd l .done (n + 1) m n false) (b := hd r .fresh (n + 1 + sz l) (m + l.size) n true) e1 (hd_up _ _ _ _ _ _) ?_ rfl ?_ ?_ (hd_done _ _ _ _ _ _) (hd_onR _ _ _ _ _ _) ?_
      · rw [e2]; simp [← h]
      · rw [e2]; exact img_head hl
      · rw [e2]
        have := img_head (post := post) (t := r) (s := .fresh) (m := m + l.size) (up := (n : Int)) (onR := true) hr
        show _[n + 1 + sz l]? = _
        simpa using this
      · rw [e2]; simpa using ho
    rw [start_par]
    by_cases el : start w l = .done
    · rw [if_pos el]
      by_cases er : start w r = .done
      · rw [if_pos er]
        refine ⟨fun h => absurd rfl h, fun _ o ho => step el o (IR.2 er o ?_)⟩
        obtain ⟨e1, e2⟩ := end_at (post := post) (t := r) (m := m + l.size) (up := (n : Int)) (onR := true) hr
        refine EndRuns.both (k := n) (u := hd (.two true l r) .fresh n m up onR) (a := hd l .done (n + 1) m n false) (b := hd r .done (n + 1 + sz l) (m + l.size) n true) e1 (hd_up _ _ _ _ _ _) ?_ rfl ?_ ?_ (hd_done _ _ _ _ _ _) (hd_done _ _ _ _ _ _) ?_
        · rw [e2]; simp [← h]
        · rw [e2]
          have := img_head (post := img r .done (n + 1 + sz l) (m + l.size) n true ++ post) (t := l) (s := .done) (m := m) (up := (n : Int)) (onR := false) hl
          show _[n + 1]? = _
          simpa using this
        · rw [e2]; exact img_head hr
        · rw [e2]; rw [imgU_two] at ho; simpa using ho
      · rw [if_neg er]
        refine ⟨fun _ => step el _ ?_, fun h => by cases h⟩
        have := IR.1 er
        rw [in_two']
        simpa [seg, loc, S.ws, S.sl, S.sr, hd, S.isD] using this
    · rw [if_neg el]
      refine ⟨fun _ => go _ ?_, fun h => by cases h⟩
      have := IL.1 el
      rw [in_two]
      simpa [seg, loc, S.sl, S.sr, hd, S.isD] using this
end Go.Proofs.Ytcoijmnnnfogdaa.Stl


namespace Go.Proofs.Ytcoijmnnnfogdaa.Stl
set_option linter.unusedVariables false
set_option linter.unusedSimpArgs false
set_option maxRecDepth 100000
open Sp

def fin (w : Nat) : T → S → S
  | .one _ _ _, .at _ => .done
  | .two _ l r, .seqL s => if fin w l s = .done then (if start w r = .done then .done else .seqR (start w r)) else .seqL (fin w l s)
  | .two _ _ r, .seqR s => if fin w r s = .done then .done else .seqR (fin w r s)
  | .two _ l r, .parQ s => if fin w l s = .done then (if start w r = .done then .done else .parB .done (start w r)) else .parQ (fin w l s)
  | .two _ l r, .parB a b => if w ∈ a.ws then (if fin w l a = .done then (if b = .done then .done else .parB .done b) else .parB (fin w l a) b)
      else (if fin w r b = .done then (if a = .done then .done else .parB a .done) else .parB a (fin w r b))
  | _, s => s

theorem Act.seqL {l r : T} {s : S} (h : Act (.two false l r) (.seqL s)) : Act l s := h
theorem Act.seqR {l r : T} {s : S} (h : Act (.two false l r) (.seqR s)) : Act r s := h

/-- who has it all is alone in it -/
theorem main_only : ∀ (t : T) (s : S) (v : Nat), Act t s → s.main = some v → s.ws = [v]
  | .nil, s, v, h, _ => h.elim
  | .one _ _ _, s, v, h, hm => by
    cases s with
    | «at» w => simp only [S.main, Option.some.injEq] at hm; rw [hm]; rfl
    | _ => exact h.elim
  | .two false l r, s, v, h, hm => by
    cases s with
    | seqL s => exact main_only l s v h hm
    | seqR s => exact main_only r s v h hm
    | _ => exact h.elim
  | .two true l r, s, v, h, hm => by
    cases s with
    | parQ s => exact main_only l s v h.1 hm
    | parB a b =>
      obtain ⟨h1, h2, h3⟩ := h
      by_cases ha : a = .done
      · subst ha
        simp only [S.main, if_true] at hm
        rcases h2 with rfl | h2
        · exact absurd ⟨rfl, rfl⟩ h3
        · exact main_only r b v h2 hm
      · simp [S.main, ha] at hm
    | _ => exact h.elim

theorem act_ws : ∀ (t : T) (s : S), Act t s → s.ws ≠ []
  | .nil, s, h => h.elim
  | .one _ _ _, s, h => by
    cases s with
    | «at» w => simp [S.ws]
    | _ => exact h.elim
  | .two false l r, s, h => by
    cases s with
    | seqL s => exact act_ws l s h
    | seqR s => exact act_ws r s h
    | _ => exact h.elim
  | .two true l r, s, h => by
    cases s with
    | parQ s => exact act_ws l s h.1
    | parB a b =>
      obtain ⟨h1, h2, h3⟩ := h
      rcases h1 with rfl | h1
      · rcases h2 with rfl | h2
        · exact absurd ⟨rfl, rfl⟩ h3
        · have := act_ws r b h2; simpa [S.ws] using this
      · have := act_ws l a h1
        simp only [S.ws, ne_eq, List.append_eq_nil_iff]
        exact fun h => this h.1
    | _ => exact h.elim

structure FinOK (w : Nat) (t : T) (s : S) : Prop where
  act : fin w t s ≠ .done → Act t (fin w t s)
  sub : ∀ v ∈ (fin w t s).ws, v ∈ s.ws
  nodup : (fin w t s).ws.Nodup
  others : ∀ v ∈ s.ws, v ≠ w → v ∈ (fin w t s).ws
  same : ∀ n, ∀ v ∈ s.ws, v ≠ w → loc t (fin w t s) n v = loc t s n v ∧ seg t (fin w t s) n v = seg t s n v
  main : s.main = some w → fin w t s ≠ .done → (fin w t s).main = some w

theorem nodup_two {a b : List Nat} (h : (a ++ b).Nodup) : a.Nodup ∧ b.Nodup ∧ ∀ x ∈ a, x ∉ b := by
  rw [List.nodup_append] at h
  exact ⟨h.1, h.2.1, fun x hx hy => h.2.2 x hx x hy rfl⟩

theorem fin_ok (w : Nat) : ∀ (t : T) (s : S), Act t s → w ∈ s.ws → s.ws.Nodup → FinOK w t s
  | .nil, s, h, _, _ => h.elim
  | .one c b lb, s, h, hw, hd => by
    cases s with
    | «at» v =>
      have e : fin w (.one c b lb) (.at v) = .done := rfl
      have hv : w = v := by simpa [S.ws] using hw
      exact ⟨fun h => absurd e h, by rw [e]; simp [S.ws], by rw [e]; simp [S.ws], fun u hu hne => by simp [S.ws] at hu; omega, fun n u hu hne => by simp [S.ws] at hu; omega, fun _ h => absurd e h⟩
    | _ => exact h.elim
  | .two false l r, s, h, hw, hd => by
    cases s with
    | seqL s =>
      obtain ⟨f1, f2, f3, f4, f5, f6⟩ := fin_ok w l s h hw hd
      by_cases e : fin w l s = .done
      · have honly : ∀ v ∈ s.ws, v = w := fun v hv => Classical.byContradiction fun hne => by
          have := f4 v hv hne
          rw [e] at this
          cases this
        by_cases er : start w r = .done
        · have E : fin w (.two false l r) (.seqL s) = .done := by simp [fin, e, er]
          exact ⟨fun h => absurd E h, by rw [E]; simp [S.ws], by rw [E]; simp [S.ws], fun u hu hne => absurd (honly u hu) hne, fun n u hu hne => absurd (honly u hu) hne, fun _ h => absurd E h⟩
        · have E : fin w (.two false l r) (.seqL s) = .seqR (start w r) := by simp [fin, e, er]
          obtain ⟨g1, g2, g3⟩ := (start_ok w r).resolve_left er
          refine ⟨fun _ => by rw [E]; exact g1, ?_, ?_, fun u hu hne => absurd (honly u hu) hne, fun n u hu hne => absurd (honly u hu) hne, fun _ _ => by rw [E]; exact g2⟩
          · rw [E]; show ∀ v ∈ (start w r).ws, _; rw [g3]; intro v hv; simp at hv; rw [hv]; exact hw
          · rw [E]; show (start w r).ws.Nodup; rw [g3]; simp
      · have E : fin w (.two false l r) (.seqL s) = .seqL (fin w l s) := by simp [fin, e]
        refine ⟨fun _ => by rw [E]; exact f1 e, by rw [E]; exact f2, by rw [E]; exact f3, by rw [E]; exact f4, by rw [E]; exact fun n => f5 (n + 1), fun hm _ => by rw [E]; exact f6 hm e⟩
    | seqR s =>
      obtain ⟨f1, f2, f3, f4, f5, f6⟩ := fin_ok w r s h hw hd
      by_cases e : fin w r s = .done
      · have honly : ∀ v ∈ s.ws, v = w := fun v hv => Classical.byContradiction fun hne => by
          have := f4 v hv hne
          rw [e] at this
          cases this
        have E : fin w (.two false l r) (.seqR s) = .done := by simp [fin, e]
        exact ⟨fun h => absurd E h, by rw [E]; simp [S.ws], by rw [E]; simp [S.ws], fun u hu hne => absurd (honly u hu) hne, fun n u hu hne => absurd (honly u hu) hne, fun _ h => absurd E h⟩
      · have E : fin w (.two false l r) (.seqR s) = .seqR (fin w r s) := by simp [fin, e]
        refine ⟨fun _ => by rw [E]; exact f1 e, by rw [E]; exact f2, by rw [E]; exact f3, by rw [E]; exact f4, by rw [E]; exact fun n => f5 _, fun hm _ => by rw [E]; exact f6 hm e⟩
    | _ => exact h.elim
  | .two true l r, s, h, hw, hd => by
    cases s with
    | parQ s =>
      obtain ⟨f1, f2, f3, f4, f5, f6⟩ := fin_ok w l s h.1 hw hd
      have hmain : s.main = some w := by
        rcases hm : s.main with _ | v
        · exact absurd hm h.2
        · have := main_only l s v h.1 hm
          rw [S.ws, this] at hw
          rw [List.mem_singleton.1 hw]
      by_cases e : fin w l s = .done
      · have honly : ∀ v ∈ s.ws, v = w := fun v hv => Classical.byContradiction fun hne => by
          have := f4 v hv hne
          rw [e] at this
          cases this
        by_cases er : start w r = .done
        · have E : fin w (.two true l r) (.parQ s) = .done := by simp [fin, e, er]
          exact ⟨fun h => absurd E h, by rw [E]; simp [S.ws], by rw [E]; simp [S.ws], fun u hu hne => absurd (honly u hu) hne, fun n u hu hne => absurd (honly u hu) hne, fun _ h => absurd E h⟩
        · have E : fin w (.two true l r) (.parQ s) = .parB .done (start w r) := by simp [fin, e, er]
          obtain ⟨g1, g2, g3⟩ := (start_ok w r).resolve_left er
          refine ⟨fun _ => by rw [E]; exact ⟨.inl rfl, .inr g1, fun h => er h.2⟩, ?_, ?_, fun u hu hne => absurd (honly u hu) hne, fun n u hu hne => absurd (honly u hu) hne, fun _ _ => by rw [E]; exact g2⟩
          · rw [E]; show ∀ v ∈ [] ++ (start w r).ws, _; rw [g3]; intro v hv; simp at hv; rw [hv]; exact hw
          · rw [E]; show ([] ++ (start w r).ws).Nodup; rw [g3]; simp
      · have E : fin w (.two true l r) (.parQ s) = .parQ (fin w l s) := by simp [fin, e]
        refine ⟨fun _ => by rw [E]; exact ⟨f1 e, by rw [f6 hmain e]; simp⟩, by rw [E]; exact f2, by rw [E]; exact f3, by rw [E]; exact f4, by rw [E]; exact fun n u hu hne => ⟨(f5 (n + 1) u hu hne).1, by show (_ :: _) = _ :: _; rw [(f5 (n + 1) u hu hne).2]⟩, fun hm _ => by rw [E]; exact f6 hm e⟩
    | parB a b =>
      obtain ⟨h1, h2, h3⟩ := h
      obtain ⟨da, db, dab⟩ := nodup_two hd
      have hcl : ∀ (a' b' : S) (n v : Nat), loc (.two true l r) (.parB a' b') n v = if v ∈ a'.ws then loc l a' (n + 1) v else loc r b' (n + 1 + sz l) v := fun _ _ _ _ => rfl
      have hcs : ∀ (a' b' : S) (n v : Nat), seg (.two true l r) (.parB a' b') n v = if v ∈ a'.ws then seg l a' (n + 1) v else seg r b' (n + 1 + sz l) v := fun _ _ _ _ => rfl
      by_cases hwa : w ∈ a.ws
      · have ha : Act l a := h1.resolve_left (fun e => by rw [e] at hwa; cases hwa)
        obtain ⟨f1, f2, f3, f4, f5, f6⟩ := fin_ok w l a ha hwa da
        have hmn : (S.parB a b).main = none := by simp [S.main, ha.not_done]
        by_cases e : fin w l a = .done
        · have honly : ∀ v ∈ a.ws, v = w := fun v hv => Classical.byContradiction fun hne => by
            have := f4 v hv hne
            rw [e] at this
            cases this
          by_cases eb : b = .done
          · have E : fin w (.two true l r) (.parB a b) = .done := by simp [fin, hwa, e, eb]
            have hall : ∀ v ∈ (S.parB a b).ws, v = w := fun v hv => by
              rcases List.mem_append.1 hv with hv | hv
              · exact honly v hv
              · rw [eb] at hv; cases hv
            exact ⟨fun h => absurd E h, by rw [E]; simp [S.ws], by rw [E]; simp [S.ws], fun u hu hne => absurd (hall u hu) hne, fun n u hu hne => absurd (hall u hu) hne, fun _ h => absurd E h⟩
          · have E : fin w (.two true l r) (.parB a b) = .parB .done b := by simp [fin, hwa, e, eb]
            refine ⟨fun _ => by rw [E]; exact ⟨.inl rfl, h2, fun h => eb h.2⟩, ?_, ?_, ?_, ?_, fun h => by rw [hmn] at h; cases h⟩
            · rw [E]; intro v hv; exact List.mem_append_right _ (by simpa [S.ws] using hv)
            · rw [E]; simpa [S.ws] using db
            · rw [E]; intro v hv hne
              rcases List.mem_append.1 hv with hv | hv
              · exact absurd (honly v hv) hne
              · simpa [S.ws] using hv
            · rw [E]; intro n v hv hne
              have hva : v ∉ a.ws := fun h => hne (honly v h)
              rw [hcl, hcl, hcs, hcs, if_neg hva, if_neg hva]
              simp [S.ws]
        · have E : fin w (.two true l r) (.parB a b) = .parB (fin w l a) b := by simp [fin, hwa, e]
          refine ⟨fun _ => by rw [E]; exact ⟨.inr (f1 e), h2, fun h => e h.1⟩, ?_, ?_, ?_, ?_, fun h => by rw [hmn] at h; cases h⟩
          · rw [E]; intro v hv
            rcases List.mem_append.1 hv with hv | hv
            · exact List.mem_append_left _ (f2 v hv)
            · exact List.mem_append_right _ hv
          · rw [E]; exact List.nodup_append.2 ⟨f3, db, fun x hx y hy exy => dab x (f2 x hx) (by rw [exy]; exact hy)⟩
          · rw [E]; intro v hv hne
            rcases List.mem_append.1 hv with hv | hv
            · exact List.mem_append_left _ (f4 v hv hne)
            · exact List.mem_append_right _ hv
          · rw [E]; intro n v hv hne
            rw [hcl, hcl, hcs, hcs]
            by_cases hva : v ∈ a.ws
            · rw [if_pos hva, if_pos (f4 v hva hne), if_pos hva, if_pos (f4 v hva hne)]
              exact f5 (n + 1) v hva hne
            · rw [if_neg hva, if_neg (fun h => hva (f2 v h)), if_neg hva, if_neg (fun h => hva (f2 v h))]
              exact ⟨rfl, rfl⟩
      · have hwb : w ∈ b.ws := (List.mem_append.1 hw).resolve_left hwa
        have hb : Act r b := h2.resolve_left (fun e => by rw [e] at hwb; cases hwb)
        obtain ⟨f1, f2, f3, f4, f5, f6⟩ := fin_ok w r b hb hwb db
        by_cases e : fin w r b = .done
        · have honly : ∀ v ∈ b.ws, v = w := fun v hv => Classical.byContradiction fun hne => by
            have := f4 v hv hne
            rw [e] at this
            cases this
          by_cases ea : a = .done
          · have E : fin w (.two true l r) (.parB a b) = .done := by simp [fin, e, ea, S.ws]
            have hall : ∀ v ∈ (S.parB a b).ws, v = w := fun v hv => by
              rcases List.mem_append.1 hv with hv | hv
              · rw [ea] at hv; cases hv
              · exact honly v hv
            exact ⟨fun h => absurd E h, by rw [E]; simp [S.ws], by rw [E]; simp [S.ws], fun u hu hne => absurd (hall u hu) hne, fun n u hu hne => absurd (hall u hu) hne, fun _ h => absurd E h⟩
          · have E : fin w (.two true l r) (.parB a b) = .parB a .done := by simp [fin, hwa, e, ea]
            refine ⟨fun _ => by rw [E]; exact ⟨h1, .inl rfl, fun h => ea h.1⟩, ?_, ?_, ?_, ?_, fun h => by simp [S.main, ea] at h⟩
            · rw [E]; intro v hv; exact List.mem_append_left _ (by simpa [S.ws] using hv)
            · rw [E]; simpa [S.ws] using da
            · rw [E]; intro v hv hne
              rcases List.mem_append.1 hv with hv | hv
              · simpa [S.ws] using hv
              · exact absurd (honly v hv) hne
            · rw [E]; intro n v hv hne
              have hva : v ∈ a.ws := (List.mem_append.1 hv).resolve_right fun h => hne (honly v h)
              rw [hcl, hcl, hcs, hcs, if_pos hva, if_pos hva, if_pos hva, if_pos hva]
              exact ⟨rfl, rfl⟩
        · have E : fin w (.two true l r) (.parB a b) = .parB a (fin w r b) := by simp [fin, hwa, e]
          refine ⟨fun _ => by rw [E]; exact ⟨h1, .inr (f1 e), fun h => e h.2⟩, ?_, ?_, ?_, ?_, ?_⟩
          · rw [E]; intro v hv
            rcases List.mem_append.1 hv with hv | hv
            · exact List.mem_append_left _ hv
            · exact List.mem_append_right _ (f2 v hv)
          · rw [E]; exact List.nodup_append.2 ⟨da, f3, fun x hx y hy exy => dab x hx (f2 x (by rw [exy]; exact hy))⟩
          · rw [E]; intro v hv hne
            rcases List.mem_append.1 hv with hv | hv
            · exact List.mem_append_left _ hv
            · exact List.mem_append_right _ (f4 v hv hne)
          · rw [E]; intro n v hv hne
            rw [hcl, hcl, hcs, hcs]
            by_cases hva : v ∈ a.ws
            · rw [if_pos hva, if_pos hva, if_pos hva, if_pos hva]; exact ⟨rfl, rfl⟩
            · rw [if_neg hva, if_neg hva, if_neg hva, if_neg hva]
              exact f5 _ v ((List.mem_append.1 hv).resolve_left hva) hne
          · intro hm _
            rw [E]
            by_cases ea : a = .done
            · subst ea
              simp only [S.main, if_true] at hm ⊢
              exact f6 hm e
            · simp [S.main, ea] at hm
    | _ => exact h.elim
end Go.Proofs.Ytcoijmnnnfogdaa.Stl


namespace Go.Proofs.Ytcoijmnnnfogdaa.Stl
set_option linter.unusedVariables false
set_option linter.unusedSimpArgs false
set_option maxRecDepth 100000
open Sp

section
variable {pre post : List Part} {n m : Nat} {l r : T} {x : Part}
/-- both kids' parts -/
abbrev duo (pre post : List Part) (x : Part) (l r : T) (a b : S) (n m : Nat) : List Part := pre ++ x :: img l a (n + 1) m n false ++ img r b (n + 1 + sz l) (m + l.size) n true ++ post
theorem duo_l (a b : S) : duo pre post x l r a b n m = (pre ++ [x]) ++ img l a (n + 1) m n false ++ (img r b (n + 1 + sz l) (m + l.size) n true ++ post) := by simp [duo]
theorem len_l (h : pre.length = n) : (pre ++ [x]).length = n + 1 := by simp [h]
theorem len_r (h : pre.length = n) (a : S) : (pre ++ x :: img l a (n + 1) m n false).length = n + 1 + sz l := by simp [h, img_length]; omega
theorem duo_at (h : pre.length = n) (a b : S) : (duo pre post x l r a b n m)[n]? = some x ∧ (duo pre post x l r a b n m)[n + 1]? = some (hd l a (n + 1) m n false) ∧ (duo pre post x l r a b n m)[n + 1 + sz l]? = some (hd r b (n + 1 + sz l) (m + l.size) n true) := by
  refine ⟨?_, ?_, img_head (len_r h a)⟩
  · simp [duo, ← h]
  · rw [duo_l]; exact img_head (len_l h)
theorem endL (h : pre.length = n) (b : S) : ((pre ++ [x]) ++ imgU l (n + 1) m n false ++ (img r b (n + 1 + sz l) (m + l.size) n true ++ post))[n + 1]? = some (hd l .fresh (n + 1) m n false) ∧
    mark ((pre ++ [x]) ++ imgU l (n + 1) m n false ++ (img r b (n + 1 + sz l) (m + l.size) n true ++ post)) (n + 1) = duo pre post x l r .done b n m := by
  obtain ⟨e1, e2⟩ := end_at (post := img r b (n + 1 + sz l) (m + l.size) n true ++ post) (t := l) (m := m) (up := (n : Int)) (onR := false) (len_l (x := x) h)
  exact ⟨e1, by rw [e2, duo_l]⟩
theorem endR (h : pre.length = n) (a : S) : ((pre ++ x :: img l a (n + 1) m n false) ++ imgU r (n + 1 + sz l) (m + l.size) n true ++ post)[n + 1 + sz l]? = some (hd r .fresh (n + 1 + sz l) (m + l.size) n true) ∧
    mark ((pre ++ x :: img l a (n + 1) m n false) ++ imgU r (n + 1 + sz l) (m + l.size) n true ++ post) (n + 1 + sz l) = duo pre post x l r a .done n m :=
  end_at (post := post) (t := r) (m := m + l.size) (up := (n : Int)) (onR := true) (len_r (x := x) h a)

variable {q : List Nat} {o : Out}
theorem stepSeqL (h : pre.length = n) (h2 : x.kind = 2) (hr : x.right = n + 1 + sz l) {b : S} (ho : Runs (duo pre post x l r .done b n m) q (n + 1 + sz l : Nat) o) :
    EndRuns ((pre ++ [x]) ++ imgU l (n + 1) m n false ++ (img r b (n + 1 + sz l) (m + l.size) n true ++ post)) q (n + 1) o := by
  obtain ⟨e1, e2⟩ := endL (x := x) (l := l) (r := r) (m := m) (post := post) h b
  exact EndRuns.seqL (k := n) (u := x) e1 (hd_up _ _ _ _ _ _) (by rw [e2]; exact (duo_at h _ _).1) h2 (hd_onR _ _ _ _ _ _) (by rw [e2, hr]; exact ho)
theorem stepSeqR (h : pre.length = n) (h2 : x.kind = 2) {a : S} (ho : EndRuns (duo pre post x l r a .done n m) q n o) :
    EndRuns ((pre ++ x :: img l a (n + 1) m n false) ++ imgU r (n + 1 + sz l) (m + l.size) n true ++ post) q (n + 1 + sz l) o := by
  obtain ⟨e1, e2⟩ := endR (x := x) (l := l) (r := r) (m := m) (post := post) h a
  exact EndRuns.seqR (k := n) (u := x) e1 (hd_up _ _ _ _ _ _) (by rw [e2]; exact (duo_at h _ _).1) h2 (hd_onR _ _ _ _ _ _) (by rw [e2]; exact ho)
theorem stepPop (h : pre.length = n) (h3 : x.kind = 3) (hl : x.left = n + 1) (hr : x.right = n + 1 + sz l) {b : S} (hb : b.isD = false) (ho : Runs (duo pre post x l r .done b n m) q (n + 1 + sz l : Nat) o) :
    EndRuns ((pre ++ [x]) ++ imgU l (n + 1) m n false ++ (img r b (n + 1 + sz l) (m + l.size) n true ++ post)) (q ++ [n + 1 + sz l]) (n + 1) o := by
  obtain ⟨e1, e2⟩ := endL (x := x) (l := l) (r := r) (m := m) (post := post) h b
  obtain ⟨a1, a2, a3⟩ := duo_at (x := x) (l := l) (r := r) (m := m) (post := post) h .done b
  exact EndRuns.pop (k := n) (u := x) e1 (hd_up _ _ _ _ _ _) (by rw [e2]; exact a1) h3 (by rw [e2, hl]; exact a2) (by rw [e2, hr]; exact a3) ((hd_done _ _ _ _ _ _).trans hb) (hd_onR _ _ _ _ _ _) (by rw [e2]; exact ho)
theorem stepDry (h : pre.length = n) (h3 : x.kind = 3) (hl : x.left = n + 1) (hr : x.right = n + 1 + sz l) {b : S} (hb : b.isD = false) :
    EndRuns ((pre ++ [x]) ++ imgU l (n + 1) m n false ++ (img r b (n + 1 + sz l) (m + l.size) n true ++ post)) [] (n + 1) (duo pre post x l r .done b n m, [], -1) := by
  obtain ⟨e1, e2⟩ := endL (x := x) (l := l) (r := r) (m := m) (post := post) h b
  obtain ⟨a1, a2, a3⟩ := duo_at (x := x) (l := l) (r := r) (m := m) (post := post) h .done b
  have := EndRuns.dry (k := n) (u := x) e1 (hd_up _ _ _ _ _ _) (by rw [e2]; exact a1) h3 (by rw [e2, hl]; exact a2) (by rw [e2, hr]; exact a3) ((hd_done _ _ _ _ _ _).trans hb) (hd_onR _ _ _ _ _ _)
  rwa [e2] at this
theorem stepBothL (h : pre.length = n) (h3 : x.kind = 3) (hl : x.left = n + 1) (hr : x.right = n + 1 + sz l) (ho : EndRuns (duo pre post x l r .done .done n m) q n o) :
    EndRuns ((pre ++ [x]) ++ imgU l (n + 1) m n false ++ (img r .done (n + 1 + sz l) (m + l.size) n true ++ post)) q (n + 1) o := by
  obtain ⟨e1, e2⟩ := endL (x := x) (l := l) (r := r) (m := m) (post := post) h .done
  obtain ⟨a1, a2, a3⟩ := duo_at (x := x) (l := l) (r := r) (m := m) (post := post) h .done .done
  exact EndRuns.both (k := n) (u := x) e1 (hd_up _ _ _ _ _ _) (by rw [e2]; exact a1) h3 (by rw [e2, hl]; exact a2) (by rw [e2, hr]; exact a3) (hd_done _ _ _ _ _ _) (hd_done _ _ _ _ _ _) (by rw [e2]; exact ho)
theorem stepBothR (h : pre.length = n) (h3 : x.kind = 3) (hl : x.left = n + 1) (hr : x.right = n + 1 + sz l) (ho : EndRuns (duo pre post x l r .done .done n m) q n o) :
    EndRuns ((pre ++ x :: img l .done (n + 1) m n false) ++ imgU r (n + 1 + sz l) (m + l.size) n true ++ post) q (n + 1 + sz l) o := by
  obtain ⟨e1, e2⟩ := endR (x := x) (l := l) (r := r) (m := m) (post := post) h .done
  obtain ⟨a1, a2, a3⟩ := duo_at (x := x) (l := l) (r := r) (m := m) (post := post) h .done .done
  exact EndRuns.both (k := n) (u := x) e1 (hd_up _ _ _ _ _ _) (by rw [e2]; exact a1) h3 (by rw [e2, hl]; exact a2) (by rw [e2, hr]; exact a3) (hd_done _ _ _ _ _ _) (hd_done _ _ _ _ _ _) (by rw [e2]; exact ho)
theorem stepWait (h : pre.length = n) (h3 : x.kind = 3) (hl : x.left = n + 1) (hr : x.right = n + 1 + sz l) {a : S} (ha : a.isD = false) :
    EndRuns ((pre ++ x :: img l a (n + 1) m n false) ++ imgU r (n + 1 + sz l) (m + l.size) n true ++ post) q (n + 1 + sz l) (duo pre post x l r a .done n m, q, -1) := by
  obtain ⟨e1, e2⟩ := endR (x := x) (l := l) (r := r) (m := m) (post := post) h a
  obtain ⟨a1, a2, a3⟩ := duo_at (x := x) (l := l) (r := r) (m := m) (post := post) h a .done
  have := EndRuns.onR (q := q) (k := n) (u := x) e1 (hd_up _ _ _ _ _ _) (by rw [e2]; exact a1) h3 (by rw [e2, hl]; exact a2) (by rw [e2, hr]; exact a3) ((hd_done _ _ _ _ _ _).trans ha) (hd_onR _ _ _ _ _ _)
  rwa [e2] at this
end

/-- what lies there of two, not all done -/
theorem img_duo (pre post : List Part) (par : Bool) (l r : T) (s : S) (n m : Nat) (up : Int) (onR : Bool) (hs : s.isD = false) : pre ++ img (.two par l r) s n m up onR ++ post = duo pre post (hd (.two par l r) .fresh n m up onR) l r s.sl s.sr n m := by
  rw [img, hd_two par l r s .fresh hs]; simp [duo]
theorem imgU_duo (pre post : List Part) (par : Bool) (l r : T) (n m : Nat) (up : Int) (onR : Bool) : pre ++ imgU (.two par l r) n m up onR ++ post = duo pre post (hd (.two par l r) .fresh n m up onR) l r .done .done n m := by
  rw [imgU_two]; simp [duo]

theorem fin_runs (w : Nat) : ∀ (t : T) (s : S) (n m : Nat) (up : Int) (onR : Bool) (pre post : List Part) (q0 : List Nat), pre.length = n → Act t s → w ∈ s.ws → s.ws.Nodup → (s.main = some w ∨ q0 = []) → q0.length + sz t ≤ 1099511627776 →
    (fin w t s ≠ .done → EndRuns (pre ++ img t s n m up onR ++ post) (q0 ++ seg t s n w) (loc t s n w) (pre ++ img t (fin w t s) n m up onR ++ post, (if w ∈ (fin w t s).ws then q0 ++ seg t (fin w t s) n w else []), (if w ∈ (fin w t s).ws then (loc t (fin w t s) n w : Int) else -1))) ∧
    (fin w t s = .done → ∀ o, EndRuns (pre ++ imgU t n m up onR ++ post) q0 n o → EndRuns (pre ++ img t s n m up onR ++ post) (q0 ++ seg t s n w) (loc t s n w) o)
  | .nil, s, _, _, _, _, _, _, _, _, h, _, _, _, _ => h.elim
  | .one c b lb, s, n, m, up, onR, pre, post, q0, hn, h, hw, hd_, hm, hL => by
    cases s with
    | «at» v => exact ⟨fun h => absurd rfl h, fun _ o ho => by simpa [seg, loc, img, imgU, tl, hd, S.isD] using ho⟩
    | _ => exact h.elim
  | .two false l r, s, n, m, up, onR, pre, post, q0, hn, h, hw, hd_, hm, hL => by
    rw [sz] at hL
    obtain ⟨x, hx⟩ : ∃ x, x = hd (.two false l r) .fresh n m up onR := ⟨_, rfl⟩
    have x2 : x.kind = 2 := by rw [hx]; rfl
    have xr : x.right = n + 1 + sz l := by rw [hx]; rfl
    have IR := start_runs w r (n + 1 + sz l) (m + l.size) n true (pre ++ x :: img l .done (n + 1) m n false) post q0 (len_r hn .done) (by omega)
    cases s with
    | seqL s =>
      have IL := fin_runs w l s (n + 1) m n false (pre ++ [x]) (img r .fresh (n + 1 + sz l) (m + l.size) n true ++ post) q0 (len_l hn) h hw hd_ hm (by omega)
      have hs : ∀ s' : S, pre ++ img (.two false l r) (.seqL s') n m up onR ++ post = (pre ++ [x]) ++ img l s' (n + 1) m n false ++ (img r .fresh (n + 1 + sz l) (m + l.size) n true ++ post) := fun s' => by
        rw [img_duo _ _ _ _ _ _ _ _ _ _ rfl, ← hx, duo_l]; rfl
      by_cases e : fin w l s = .done
      · by_cases er : start w r = .done
        · have E : fin w (.two false l r) (.seqL s) = .done := by simp [fin, e, er]
          rw [E]
          refine ⟨fun h => absurd rfl h, fun _ o ho => ?_⟩
          rw [hs]
          refine IL.2 e o (stepSeqL hn x2 xr (IR.2 er o (stepSeqR hn x2 ?_)))
          rw [imgU_duo, ← hx] at ho
          exact ho
        · have E : fin w (.two false l r) (.seqL s) = .seqR (start w r) := by simp [fin, e, er]
          obtain ⟨g1, g2, g3⟩ := (start_ok w r).resolve_left er
          rw [E]
          refine ⟨fun _ => ?_, fun h => by cases h⟩
          rw [hs]
          refine IL.2 e _ (stepSeqL hn x2 xr ?_)
          have := IR.1 er
          rw [img_duo _ _ _ _ _ _ _ _ _ _ rfl, ← hx]
          have hin : w ∈ (S.seqR (start w r)).ws := by show w ∈ (start w r).ws; rw [g3]; simp
          rw [if_pos hin, if_pos hin]
          exact this
      · have E : fin w (.two false l r) (.seqL s) = .seqL (fin w l s) := by simp [fin, e]
        rw [E]
        refine ⟨fun _ => ?_, fun h => by cases h⟩
        rw [hs, hs]
        exact IL.1 e
    | seqR s =>
      have IL := fin_runs w r s (n + 1 + sz l) (m + l.size) n true (pre ++ x :: img l .done (n + 1) m n false) post q0 (len_r hn .done) h hw hd_ hm (by omega)
      have hs : ∀ s' : S, pre ++ img (.two false l r) (.seqR s') n m up onR ++ post = (pre ++ x :: img l .done (n + 1) m n false) ++ img r s' (n + 1 + sz l) (m + l.size) n true ++ post := fun s' => by
        rw [img_duo _ _ _ _ _ _ _ _ _ _ rfl, ← hx]; rfl
      by_cases e : fin w r s = .done
      · have E : fin w (.two false l r) (.seqR s) = .done := by simp [fin, e]
        rw [E]
        refine ⟨fun h => absurd rfl h, fun _ o ho => ?_⟩
        rw [hs]
        refine IL.2 e o (stepSeqR hn x2 ?_)
        rw [imgU_duo, ← hx] at ho
        exact ho
      · have E : fin w (.two false l r) (.seqR s) = .seqR (fin w r s) := by simp [fin, e]
        rw [E]
        refine ⟨fun _ => ?_, fun h => by cases h⟩
        rw [hs, hs]
        exact IL.1 e
    | _ => exact h.elim
  | .two true l r, s, n, m, up, onR, pre, post, q0, hn, h, hw, hd_, hm, hL => by
    rw [sz] at hL
    obtain ⟨x, hx⟩ : ∃ x, x = hd (.two true l r) .fresh n m up onR := ⟨_, rfl⟩
    have x3 : x.kind = 3 := by rw [hx]; rfl
    have xl : x.left = n + 1 := by rw [hx]; rfl
    have xr : x.right = n + 1 + sz l := by rw [hx]; rfl
    have IR := start_runs w r (n + 1 + sz l) (m + l.size) n true (pre ++ x :: img l .done (n + 1) m n false) post q0 (len_r hn .done) (by omega)
    cases s with
    | parQ s =>
      have hmain : s.main = some w := by
        rcases hm' : s.main with _ | v
        · exact absurd hm' h.2
        · have := main_only l s v h.1 hm'
          rw [S.ws, this] at hw
          rw [List.mem_singleton.1 hw]
      have FO := fin_ok w l s h.1 hw hd_
      have IL := fin_runs w l s (n + 1) m n false (pre ++ [x]) (img r .fresh (n + 1 + sz l) (m + l.size) n true ++ post) (q0 ++ [n + 1 + sz l]) (len_l hn) h.1 hw hd_ (.inl hmain) (by rw [List.length_append, List.length_singleton]; omega)
      have hs : ∀ s' : S, pre ++ img (.two true l r) (.parQ s') n m up onR ++ post = (pre ++ [x]) ++ img l s' (n + 1) m n false ++ (img r .fresh (n + 1 + sz l) (m + l.size) n true ++ post) := fun s' => by
        rw [img_duo _ _ _ _ _ _ _ _ _ _ rfl, ← hx, duo_l]; rfl
      have hq : q0 ++ seg (.two true l r) (.parQ s) n w = (q0 ++ [n + 1 + sz l]) ++ seg l s (n + 1) w := by
        show q0 ++ (_ :: _) = _; simp
      rw [hq]
      by_cases e : fin w l s = .done
      · by_cases er : start w r = .done
        · have E : fin w (.two true l r) (.parQ s) = .done := by simp [fin, e, er]
          rw [E]
          refine ⟨fun h => absurd rfl h, fun _ o ho => ?_⟩
          rw [hs]
          refine IL.2 e o (stepPop hn x3 xl xr rfl (IR.2 er o (stepBothR hn x3 xl xr ?_)))
          rw [imgU_duo, ← hx] at ho
          exact ho
        · have E : fin w (.two true l r) (.parQ s) = .parB .done (start w r) := by simp [fin, e, er]
          obtain ⟨g1, g2, g3⟩ := (start_ok w r).resolve_left er
          rw [E]
          refine ⟨fun _ => ?_, fun h => by cases h⟩
          rw [hs]
          refine IL.2 e _ (stepPop hn x3 xl xr rfl ?_)
          have := IR.1 er
          rw [img_duo _ _ _ _ _ _ _ _ _ _ rfl, ← hx]
          have hin : w ∈ (S.parB .done (start w r)).ws := by show w ∈ [] ++ (start w r).ws; rw [g3]; simp
          rw [if_pos hin, if_pos hin]
          exact this
      · have E : fin w (.two true l r) (.parQ s) = .parQ (fin w l s) := by simp [fin, e]
        rw [E]
        refine ⟨fun _ => ?_, fun h => by cases h⟩
        have := IL.1 e
        have hin : w ∈ (fin w l s).ws := by
          rw [main_only l _ w (FO.act e) (FO.main hmain e)]; simp
        rw [if_pos hin, if_pos hin] at this
        rw [hs, hs, if_pos (show w ∈ (S.parQ (fin w l s)).ws from hin), if_pos (show w ∈ (S.parQ (fin w l s)).ws from hin)]
        have hq' : q0 ++ seg (.two true l r) (.parQ (fin w l s)) n w = (q0 ++ [n + 1 + sz l]) ++ seg l (fin w l s) (n + 1) w := by
          show q0 ++ (_ :: _) = _; simp
        rw [hq']
        exact this
    | parB a b =>
      obtain ⟨h1, h2, h3⟩ := h
      obtain ⟨da, db, dab⟩ := nodup_two hd_
      have hs : ∀ a' b' : S, pre ++ img (.two true l r) (.parB a' b') n m up onR ++ post = duo pre post x l r a' b' n m := fun a' b' => by
        rw [img_duo _ _ _ _ _ _ _ _ _ _ rfl, ← hx]; rfl
      have hcl : ∀ (a' b' : S), loc (.two true l r) (.parB a' b') n w = if w ∈ a'.ws then loc l a' (n + 1) w else loc r b' (n + 1 + sz l) w := fun _ _ => rfl
      have hcs : ∀ (a' b' : S), seg (.two true l r) (.parB a' b') n w = if w ∈ a'.ws then seg l a' (n + 1) w else seg r b' (n + 1 + sz l) w := fun _ _ => rfl
      by_cases hwa : w ∈ a.ws
      · have ha : Act l a := h1.resolve_left (fun e => by rw [e] at hwa; cases hwa)
        have hwb : w ∉ b.ws := dab w hwa
        have hq0 : q0 = [] := hm.resolve_left fun e => by simp [S.main, ha.not_done] at e
        subst hq0
        have IL := fin_runs w l a (n + 1) m n false (pre ++ [x]) (img r b (n + 1 + sz l) (m + l.size) n true ++ post) [] (len_l hn) ha hwa da (.inr rfl) (by simp at hL ⊢; omega)
        rw [hcl, hcs, if_pos hwa, if_pos hwa, hs]
        by_cases e : fin w l a = .done
        · by_cases eb : b = .done
          · have E : fin w (.two true l r) (.parB a b) = .done := by simp [fin, hwa, e, eb]
            rw [E]
            refine ⟨fun h => absurd rfl h, fun _ o ho => ?_⟩
            rw [duo_l]
            refine IL.2 e o ?_
            subst eb
            rw [imgU_duo, ← hx] at ho
            exact stepBothL hn x3 xl xr ho
          · have E : fin w (.two true l r) (.parB a b) = .parB .done b := by simp [fin, hwa, e, eb]
            rw [E]
            refine ⟨fun _ => ?_, fun h => by cases h⟩
            have hin : w ∉ (S.parB .done b).ws := by simpa [S.ws] using hwb
            rw [if_neg hin, if_neg hin, hs, duo_l]
            exact IL.2 e _ (stepDry hn x3 xl xr ((h2.resolve_left eb).isD))
        · have E : fin w (.two true l r) (.parB a b) = .parB (fin w l a) b := by simp [fin, hwa, e]
          rw [E]
          refine ⟨fun _ => ?_, fun h => by cases h⟩
          have := IL.1 e
          rw [hs, duo_l, duo_l]
          by_cases hin : w ∈ (fin w l a).ws
          · have hin' : w ∈ (S.parB (fin w l a) b).ws := List.mem_append_left _ hin
            rw [if_pos hin, if_pos hin] at this
            rw [if_pos hin', if_pos hin', hcl, hcs, if_pos hin, if_pos hin]
            exact this
          · have hin' : w ∉ (S.parB (fin w l a) b).ws := fun h => (List.mem_append.1 h).elim hin hwb
            rw [if_neg hin, if_neg hin] at this
            rw [if_neg hin', if_neg hin']
            exact this
      · have hwb : w ∈ b.ws := (List.mem_append.1 hw).resolve_left hwa
        have hb : Act r b := h2.resolve_left (fun e => by rw [e] at hwb; cases hwb)
        have hmb : b.main = some w ∨ q0 = [] := by
          rcases hm with hm | hm
          · left
            by_cases ea : a = .done
            · subst ea; simpa [S.main] using hm
            · simp [S.main, ea] at hm
          · exact .inr hm
        have IL := fin_runs w r b (n + 1 + sz l) (m + l.size) n true (pre ++ x :: img l a (n + 1) m n false) post q0 (len_r hn a) hb hwb db hmb (by omega)
        rw [hcl, hcs, if_neg hwa, if_neg hwa, hs]
        by_cases e : fin w r b = .done
        · by_cases ea : a = .done
          · have E : fin w (.two true l r) (.parB a b) = .done := by simp [fin, e, ea, S.ws]
            rw [E]
            refine ⟨fun h => absurd rfl h, fun _ o ho => IL.2 e o ?_⟩
            subst ea
            rw [imgU_duo, ← hx] at ho
            exact stepBothR hn x3 xl xr ho
          · have E : fin w (.two true l r) (.parB a b) = .parB a .done := by simp [fin, hwa, e, ea]
            have hq0 : q0 = [] := hm.resolve_left fun e => by simp [S.main, ea] at e
            rw [E]
            refine ⟨fun _ => ?_, fun h => by cases h⟩
            have hin : w ∉ (S.parB a .done).ws := by simpa [S.ws] using hwa
            rw [if_neg hin, if_neg hin, hs]
            have := IL.2 e _ (stepWait (q := q0) hn x3 xl xr ((h1.resolve_left ea).isD))
            rw [hq0] at this ⊢
            exact this
        · have E : fin w (.two true l r) (.parB a b) = .parB a (fin w r b) := by simp [fin, hwa, e]
          rw [E]
          refine ⟨fun _ => ?_, fun h => by cases h⟩
          have := IL.1 e
          rw [hs]
          by_cases hin : w ∈ (fin w r b).ws
          · have hin' : w ∈ (S.parB a (fin w r b)).ws := List.mem_append_right _ hin
            rw [if_pos hin, if_pos hin] at this
            rw [if_pos hin', if_pos hin', hcl, hcs, if_neg hwa, if_neg hwa]
            exact this
          · have hin' : w ∉ (S.parB a (fin w r b)).ws := fun h => (List.mem_append.1 h).elim hwa hin
            rw [if_neg hin, if_neg hin] at this
            rw [if_neg hin', if_neg hin']
            exact this
    | _ => exact h.elim
end Go.Proofs.Ytcoijmnnnfogdaa.Stl


namespace Go.Proofs.Ytcoijmnnnfogdaa.Stl
set_option linter.unusedVariables false
set_option linter.unusedSimpArgs false
set_option maxRecDepth 100000
open Sp

def steal (v w : Nat) : T → S → S
  | .two _ l _, .seqL s => .seqL (steal v w l s)
  | .two _ _ r, .seqR s => .seqR (steal v w r s)
  | .two _ _ r, .parQ s => .parB s (start v r)
  | .two _ l r, .parB a b => if w ∈ a.ws then .parB (steal v w l a) b else .parB a (steal v w r b)
  | _, s => s

structure StealOK (v w : Nat) (t : T) (s : S) : Prop where
  act : Act t (steal v w t s)
  sub : ∀ u ∈ (steal v w t s).ws, u = v ∨ u ∈ s.ws
  nodup : (steal v w t s).ws.Nodup
  keep : ∀ u ∈ s.ws, u ∈ (steal v w t s).ws
  loc : ∀ n, ∀ u ∈ s.ws, loc t (steal v w t s) n u = loc t s n u
  seg : ∀ n, ∀ u ∈ s.ws, seg t (steal v w t s) n u = if u = w then (seg t s n u).tail else seg t s n u

theorem steal_ok (v w : Nat) : ∀ (t : T) (s : S) (n0 : Nat), Act t s → w ∈ s.ws → s.ws.Nodup → seg t s n0 w ≠ [] → v ∉ s.ws → StealOK v w t s
  | .nil, s, _, h, _, _, _, _ => h.elim
  | .one _ _ _, s, _, h, _, _, hs, _ => by
    cases s with
    | «at» u => exact absurd rfl hs
    | _ => exact h.elim
  | .two false l r, s, n0, h, hw, hd, hs, hv => by
    cases s with
    | seqL s =>
      obtain ⟨f1, f2, f3, f4, f5, f6⟩ := steal_ok v w l s (n0 + 1) h hw hd hs hv
      exact ⟨f1, f2, f3, f4, fun n => f5 _, fun n => f6 _⟩
    | seqR s =>
      obtain ⟨f1, f2, f3, f4, f5, f6⟩ := steal_ok v w r s (n0 + 1 + sz l) h hw hd hs hv
      exact ⟨f1, f2, f3, f4, fun n => f5 _, fun n => f6 _⟩
    | _ => exact h.elim
  | .two true l r, s, n0, h, hw, hd, hs, hv => by
    cases s with
    | parQ s =>
      have E : steal v w (.two true l r) (.parQ s) = .parB s (start v r) := rfl
      have hone : s.ws = [w] := by
        rcases hm : s.main with _ | u
        · exact absurd hm h.2
        · have := main_only l s u h.1 hm
          have hw' : w ∈ s.ws := hw
          rw [this] at hw' ⊢
          rw [List.mem_singleton.1 hw']
      have hst : ∀ u ∈ (start v r).ws, u = v := fun u hu => by
        rcases start_ok v r with e | ⟨-, -, e⟩
        · rw [e] at hu; cases hu
        · rw [e] at hu; simpa using hu
      have hsn : (start v r).ws.Nodup := by
        rcases start_ok v r with e | ⟨-, -, e⟩
        · rw [e]; simp [S.ws]
        · rw [e]; simp
      refine ⟨?_, ?_, ?_, ?_, ?_, ?_⟩
      · rw [E]
        refine ⟨.inr h.1, ?_, fun e => h.1.not_done e.1⟩
        rcases start_ok v r with e | ⟨e, -, -⟩
        · exact .inl e
        · exact .inr e
      · rw [E]; intro u hu
        rcases List.mem_append.1 hu with hu | hu
        · exact .inr hu
        · exact .inl (hst u hu)
      · rw [E]
        exact List.nodup_append.2 ⟨hd, hsn, fun x hx y hy e => by rw [e, hst y hy] at hx; exact hv hx⟩
      · rw [E]; exact fun u hu => List.mem_append_left _ hu
      · rw [E]; intro n u hu
        show (if u ∈ s.ws then _ else _) = _
        rw [if_pos (show u ∈ s.ws from hu)]; rfl
      · rw [E]; intro n u hu
        have hu' : u ∈ s.ws := hu
        have : u = w := by rw [hone] at hu'; simpa using hu'
        show (if u ∈ s.ws then seg l s (n + 1) u else _) = _
        rw [if_pos hu', if_pos this]
        rfl
    | parB a b =>
      obtain ⟨h1, h2, h3⟩ := h
      obtain ⟨da, db, dab⟩ := nodup_two hd
      have hva : v ∉ a.ws := fun h => hv (List.mem_append_left _ h)
      have hvb : v ∉ b.ws := fun h => hv (List.mem_append_right _ h)
      have hcl : ∀ (a' b' : S) (n u : Nat), Stl.loc (.two true l r) (.parB a' b') n u = if u ∈ a'.ws then Stl.loc l a' (n + 1) u else Stl.loc r b' (n + 1 + sz l) u := fun _ _ _ _ => rfl
      have hcs : ∀ (a' b' : S) (n u : Nat), Stl.seg (.two true l r) (.parB a' b') n u = if u ∈ a'.ws then Stl.seg l a' (n + 1) u else Stl.seg r b' (n + 1 + sz l) u := fun _ _ _ _ => rfl
      rw [hcs] at hs
      by_cases hwa : w ∈ a.ws
      · have ha : Act l a := h1.resolve_left (fun e => by rw [e] at hwa; cases hwa)
        rw [if_pos hwa] at hs
        obtain ⟨f1, f2, f3, f4, f5, f6⟩ := steal_ok v w l a (n0 + 1) ha hwa da hs hva
        have E : steal v w (.two true l r) (.parB a b) = .parB (steal v w l a) b := by simp [steal, hwa]
        refine ⟨?_, ?_, ?_, ?_, ?_, ?_⟩
        · rw [E]; exact ⟨.inr f1, h2, fun e => f1.not_done e.1⟩
        · rw [E]; intro u hu
          rcases List.mem_append.1 hu with hu | hu
          · exact (f2 u hu).imp id (List.mem_append_left _)
          · exact .inr (List.mem_append_right _ hu)
        · rw [E]; exact List.nodup_append.2 ⟨f3, db, fun x hx y hy e => by
            rcases f2 x hx with h | h
            · rw [← e, h] at hy; exact hvb hy
            · exact dab x h (by rw [e]; exact hy)⟩
        · rw [E]; intro u hu
          rcases List.mem_append.1 hu with hu | hu
          · exact List.mem_append_left _ (f4 u hu)
          · exact List.mem_append_right _ hu
        · rw [E]; intro n u hu
          rw [hcl, hcl]
          by_cases hua : u ∈ a.ws
          · rw [if_pos hua, if_pos (f4 u hua)]; exact f5 _ u hua
          · have hub : u ∈ b.ws := (List.mem_append.1 hu).resolve_left hua
            rw [if_neg hua, if_neg (fun h => (f2 u h).elim (fun e => hvb (e ▸ hub)) hua)]
        · rw [E]; intro n u hu
          rw [hcs, hcs]
          by_cases hua : u ∈ a.ws
          · rw [if_pos hua, if_pos (f4 u hua)]; exact f6 _ u hua
          · have hub : u ∈ b.ws := (List.mem_append.1 hu).resolve_left hua
            rw [if_neg hua, if_neg (fun h => (f2 u h).elim (fun e => hvb (e ▸ hub)) hua), if_neg (fun e => hua (by rw [e]; exact hwa))]
      · have hwb : w ∈ b.ws := (List.mem_append.1 hw).resolve_left hwa
        have hb : Act r b := h2.resolve_left (fun e => by rw [e] at hwb; cases hwb)
        rw [if_neg hwa] at hs
        obtain ⟨f1, f2, f3, f4, f5, f6⟩ := steal_ok v w r b (n0 + 1 + sz l) hb hwb db hs hvb
        have E : steal v w (.two true l r) (.parB a b) = .parB a (steal v w r b) := by simp [steal, hwa]
        refine ⟨?_, ?_, ?_, ?_, ?_, ?_⟩
        · rw [E]; exact ⟨h1, .inr f1, fun e => f1.not_done e.2⟩
        · rw [E]; intro u hu
          rcases List.mem_append.1 hu with hu | hu
          · exact .inr (List.mem_append_left _ hu)
          · exact (f2 u hu).imp id (List.mem_append_right _)
        · rw [E]; exact List.nodup_append.2 ⟨da, f3, fun x hx y hy e => by
            rcases f2 y hy with h | h
            · rw [e, h] at hx; exact hva hx
            · exact dab x hx (by rw [e]; exact h)⟩
        · rw [E]; intro u hu
          rcases List.mem_append.1 hu with hu | hu
          · exact List.mem_append_left _ hu
          · exact List.mem_append_right _ (f4 u hu)
        · rw [E]; intro n u hu
          rw [hcl, hcl]
          by_cases hua : u ∈ a.ws
          · rw [if_pos hua, if_pos hua]
          · rw [if_neg hua, if_neg hua]
            exact f5 _ u ((List.mem_append.1 hu).resolve_left hua)
        · rw [E]; intro n u hu
          rw [hcs, hcs]
          by_cases hua : u ∈ a.ws
          · rw [if_pos hua, if_pos hua, if_neg (fun e => hwa (by rw [← e]; exact hua))]
          · rw [if_neg hua, if_neg hua]
            exact f6 _ u ((List.mem_append.1 hu).resolve_left hua)
    | _ => exact h.elim

theorem steal_runs (v w : Nat) : ∀ (t : T) (s : S) (n m : Nat) (up : Int) (onR : Bool) (pre post : List Part) (k : Nat) (rest : List Nat), pre.length = n → Act t s → w ∈ s.ws → s.ws.Nodup → seg t s n w = k :: rest → v ∉ s.ws → sz t ≤ 1099511627776 →
    Runs (pre ++ img t s n m up onR ++ post) [] k (pre ++ img t (steal v w t s) n m up onR ++ post, (if v ∈ (steal v w t s).ws then seg t (steal v w t s) n v else []), (if v ∈ (steal v w t s).ws then (loc t (steal v w t s) n v : Int) else -1))
  | .nil, s, _, _, _, _, _, _, _, _, _, h, _, _, _, _, _ => h.elim
  | .one _ _ _, s, n, m, up, onR, pre, post, k, rest, hn, h, hw, hd, hs, hv, hL => by
    cases s with
    | «at» u => simp [seg] at hs
    | _ => exact h.elim
  | .two false l r, s, n, m, up, onR, pre, post, k, rest, hn, h, hw, hd_, hs, hv, hL => by
    rw [sz] at hL
    obtain ⟨x, hx⟩ : ∃ x, x = hd (.two false l r) .fresh n m up onR := ⟨_, rfl⟩
    cases s with
    | seqL s =>
      have hs' : ∀ s' : S, pre ++ img (.two false l r) (.seqL s') n m up onR ++ post = (pre ++ [x]) ++ img l s' (n + 1) m n false ++ (img r .fresh (n + 1 + sz l) (m + l.size) n true ++ post) := fun s' => by
        rw [img_duo _ _ _ _ _ _ _ _ _ _ rfl, ← hx, duo_l]; rfl
      have := steal_runs v w l s (n + 1) m n false (pre ++ [x]) (img r .fresh (n + 1 + sz l) (m + l.size) n true ++ post) k rest (len_l hn) h hw hd_ hs hv (by omega)
      show Runs _ _ _ (pre ++ img (.two false l r) (.seqL (steal v w l s)) n m up onR ++ post, _)
      rw [hs', hs']
      exact this
    | seqR s =>
      have hs' : ∀ s' : S, pre ++ img (.two false l r) (.seqR s') n m up onR ++ post = (pre ++ x :: img l .done (n + 1) m n false) ++ img r s' (n + 1 + sz l) (m + l.size) n true ++ post := fun s' => by
        rw [img_duo _ _ _ _ _ _ _ _ _ _ rfl, ← hx]; rfl
      have := steal_runs v w r s (n + 1 + sz l) (m + l.size) n true (pre ++ x :: img l .done (n + 1) m n false) post k rest (len_r hn .done) h hw hd_ hs hv (by omega)
      show Runs _ _ _ (pre ++ img (.two false l r) (.seqR (steal v w r s)) n m up onR ++ post, _)
      rw [hs', hs']
      exact this
    | _ => exact h.elim
  | .two true l r, s, n, m, up, onR, pre, post, k, rest, hn, h, hw, hd_, hs, hv, hL => by
    rw [sz] at hL
    obtain ⟨x, hx⟩ : ∃ x, x = hd (.two true l r) .fresh n m up onR := ⟨_, rfl⟩
    have x3 : x.kind = 3 := by rw [hx]; rfl
    have xl : x.left = n + 1 := by rw [hx]; rfl
    have xr : x.right = n + 1 + sz l := by rw [hx]; rfl
    have hcl : ∀ (a' b' : S), loc (.two true l r) (.parB a' b') n v = if v ∈ a'.ws then loc l a' (n + 1) v else loc r b' (n + 1 + sz l) v := fun _ _ => rfl
    have hcs : ∀ (a' b' : S) (u : Nat), seg (.two true l r) (.parB a' b') n u = if u ∈ a'.ws then seg l a' (n + 1) u else seg r b' (n + 1 + sz l) u := fun _ _ _ => rfl
    have hs' : ∀ a' b' : S, pre ++ img (.two true l r) (.parB a' b') n m up onR ++ post = duo pre post x l r a' b' n m := fun a' b' => by
      rw [img_duo _ _ _ _ _ _ _ _ _ _ rfl, ← hx]; rfl
    cases s with
    | parQ s =>
      have hk : k = n + 1 + sz l := by
        have : (n + 1 + sz l) :: seg l s (n + 1) w = k :: rest := hs
        injection this with e _
        exact e.symm
      have hvs : v ∉ s.ws := hv
      have IR := start_runs v r (n + 1 + sz l) (m + l.size) n true (pre ++ x :: img l s (n + 1) m n false) post [] (len_r hn s) (by simp; omega)
      have e0 : pre ++ img (.two true l r) (.parQ s) n m up onR ++ post = duo pre post x l r s .fresh n m := by
        rw [img_duo _ _ _ _ _ _ _ _ _ _ rfl, ← hx]; rfl
      show Runs _ _ _ (pre ++ img (.two true l r) (.parB s (start v r)) n m up onR ++ post, (if v ∈ (S.parB s (start v r)).ws then seg (.two true l r) (.parB s (start v r)) n v else []), (if v ∈ (S.parB s (start v r)).ws then (loc (.two true l r) (.parB s (start v r)) n v : Int) else -1))
      rw [e0, hs', hk]
      by_cases er : start v r = .done
      · have hin : v ∉ (S.parB s (start v r)).ws := fun h => by
          rcases List.mem_append.1 h with h | h
          · exact hvs h
          · rw [er] at h; cases h
        rw [if_neg hin, if_neg hin, er]
        exact IR.2 er _ (stepWait (q := []) hn x3 xl xr h.1.isD)
      · obtain ⟨g1, g2, g3⟩ := (start_ok v r).resolve_left er
        have hin : v ∈ (S.parB s (start v r)).ws := List.mem_append_right _ (by rw [g3]; simp)
        rw [if_pos hin, if_pos hin, hcl, hcs, if_neg hvs, if_neg hvs]
        exact IR.1 er
    | parB a b =>
      obtain ⟨h1, h2, h3⟩ := h
      obtain ⟨da, db, dab⟩ := nodup_two hd_
      have hva : v ∉ a.ws := fun h => hv (List.mem_append_left _ h)
      have hvb : v ∉ b.ws := fun h => hv (List.mem_append_right _ h)
      rw [hcs] at hs
      by_cases hwa : w ∈ a.ws
      · have ha : Act l a := h1.resolve_left (fun e => by rw [e] at hwa; cases hwa)
        rw [if_pos hwa] at hs
        have E : steal v w (.two true l r) (.parB a b) = .parB (steal v w l a) b := by simp [steal, hwa]
        have := steal_runs v w l a (n + 1) m n false (pre ++ [x]) (img r b (n + 1 + sz l) (m + l.size) n true ++ post) k rest (len_l hn) ha hwa da hs hva (by omega)
        rw [E, hs', hs', duo_l, duo_l]
        by_cases hin : v ∈ (steal v w l a).ws
        · have hin' : v ∈ (S.parB (steal v w l a) b).ws := List.mem_append_left _ hin
          rw [if_pos hin, if_pos hin] at this
          rw [if_pos hin', if_pos hin', hcl, hcs, if_pos hin, if_pos hin]
          exact this
        · have hin' : v ∉ (S.parB (steal v w l a) b).ws := fun h => (List.mem_append.1 h).elim hin hvb
          rw [if_neg hin, if_neg hin] at this
          rw [if_neg hin', if_neg hin']
          exact this
      · have hwb : w ∈ b.ws := (List.mem_append.1 hw).resolve_left hwa
        have hb : Act r b := h2.resolve_left (fun e => by rw [e] at hwb; cases hwb)
        rw [if_neg hwa] at hs
        have E : steal v w (.two true l r) (.parB a b) = .parB a (steal v w r b) := by simp [steal, hwa]
        have := steal_runs v w r b (n + 1 + sz l) (m + l.size) n true (pre ++ x :: img l a (n + 1) m n false) post k rest (len_r hn a) hb hwb db hs hvb (by omega)
        rw [E, hs', hs']
        by_cases hin : v ∈ (steal v w r b).ws
        · have hin' : v ∈ (S.parB a (steal v w r b)).ws := List.mem_append_right _ hin
          rw [if_pos hin, if_pos hin] at this
          rw [if_pos hin', if_pos hin', hcl, hcs, if_neg hva, if_neg hva]
          exact this
        · have hin' : v ∉ (S.parB a (steal v w r b)).ws := fun h => (List.mem_append.1 h).elim hva hin
          rw [if_neg hin, if_neg hin] at this
          rw [if_neg hin', if_neg hin']
          exact this
    | _ => exact h.elim
end Go.Proofs.Ytcoijmnnnfogdaa.Stl


namespace Go.Proofs.Ytcoijmnnnfogdaa.Stl
set_option linter.unusedVariables false
set_option linter.unusedSimpArgs false
set_option maxRecDepth 100000
open Sp

structure Y where
  ps : List Part
  at_ : List Int
  qs : List (List Nat)
  log : List (Nat × Int)

/-- one pick: whoever is picked does a leaf, or steals; none: it goes wrong, or takes too long -/
def pickF (f : Nat) (y : Y) (who whom : Int) : Option Y :=
  if who < 0 ∨ y.at_.length ≤ who then some y else
  match y.at_[who.toNat]?, y.qs[who.toNat]? with
  | some a, some q =>
    if 0 ≤ a then
      match y.ps[a.toNat]?, ended f y.ps q a.toNat with
      | some p, some (ps1, q1, a1) => match settle f ps1 q1 a1 with
        | some (ps2, q2, a2) => some ⟨ps2, y.at_.set who.toNat a2, y.qs.set who.toNat q2, y.log ++ [(who.toNat, p.leaf)]⟩
        | none => none
      | _, _ => none
    else if 0 ≤ whom ∧ whom < y.at_.length ∧ whom ≠ who then
      match y.qs[whom.toNat]? with
      | some (k :: rest) => match settle f y.ps q (k : Int) with
        | some (ps2, q2, a2) => some ⟨ps2, y.at_.set who.toNat a2, (y.qs.set whom.toNat rest).set who.toNat q2, y.log⟩
        | none => none
      | some [] => some y
      | none => none
    else some y
  | _, _ => none

def leafOf : T → S → Nat → Nat → Nat
  | .two _ l _, .seqL s, m, w => leafOf l s m w
  | .two _ l r, .seqR s, m, w => leafOf r s (m + l.size) w
  | .two _ l _, .parQ s, m, w => leafOf l s m w
  | .two _ l r, .parB a b, m, w => if w ∈ a.ws then leafOf l a m w else leafOf r b (m + l.size) w
  | _, _, m, _ => m

/-- whose leaf it is -/
theorem loc_leaf (w : Nat) : ∀ (t : T) (s : S) (n m : Nat) (up : Int) (onR : Bool) (pre post : List Part), pre.length = n → Act t s → w ∈ s.ws →
    ∃ p, (pre ++ img t s n m up onR ++ post)[loc t s n w]? = some p ∧ p.leaf = (leafOf t s m w : Nat) ∧ p.kind = 1
  | .nil, s, _, _, _, _, _, _, _, h, _ => h.elim
  | .one c b lb, s, n, m, up, onR, pre, post, hn, h, hw => by
    cases s with
    | «at» u => exact ⟨_, img_head hn, rfl, rfl⟩
    | _ => exact h.elim
  | .two false l r, s, n, m, up, onR, pre, post, hn, h, hw => by
    obtain ⟨x, hx⟩ : ∃ x, x = hd (.two false l r) .fresh n m up onR := ⟨_, rfl⟩
    cases s with
    | seqL s =>
      rw [img_duo _ _ _ _ _ _ _ _ _ _ rfl, ← hx, duo_l]
      exact loc_leaf w l s (n + 1) m n false _ _ (len_l hn) h hw
    | seqR s =>
      rw [img_duo _ _ _ _ _ _ _ _ _ _ rfl, ← hx]
      exact loc_leaf w r s (n + 1 + sz l) (m + l.size) n true _ _ (len_r hn .done) h hw
    | _ => exact h.elim
  | .two true l r, s, n, m, up, onR, pre, post, hn, h, hw => by
    obtain ⟨x, hx⟩ : ∃ x, x = hd (.two true l r) .fresh n m up onR := ⟨_, rfl⟩
    cases s with
    | parQ s =>
      rw [img_duo _ _ _ _ _ _ _ _ _ _ rfl, ← hx, duo_l]
      exact loc_leaf w l s (n + 1) m n false _ _ (len_l hn) h.1 hw
    | parB a b =>
      obtain ⟨h1, h2, h3⟩ := h
      rw [img_duo _ _ _ _ _ _ _ _ _ _ rfl, ← hx]
      have hcl : loc (.two true l r) (.parB a b) n w = if w ∈ a.ws then loc l a (n + 1) w else loc r b (n + 1 + sz l) w := rfl
      have hcf : leafOf (.two true l r) (.parB a b) m w = if w ∈ a.ws then leafOf l a m w else leafOf r b (m + l.size) w := rfl
      by_cases hwa : w ∈ a.ws
      · rw [hcl, hcf, if_pos hwa, if_pos hwa, duo_l]
        exact loc_leaf w l a (n + 1) m n false _ _ (len_l hn) (h1.resolve_left (fun e => by rw [e] at hwa; cases hwa)) hwa
      · have hwb : w ∈ b.ws := (List.mem_append.1 hw).resolve_left hwa
        rw [hcl, hcf, if_neg hwa, if_neg hwa]
        exact loc_leaf w r b (n + 1 + sz l) (m + l.size) n true _ _ (len_r hn a) (h2.resolve_left (fun e => by rw [e] at hwb; cases hwb)) hwb
    | _ => exact h.elim

structure Good (t : T) (W : Nat) (s : S) : Prop where
  act : s = .done ∨ Act t s
  nodup : s.ws.Nodup
  lt : ∀ w ∈ s.ws, w < W
/-- the yard of a tree -/
def yard (t : T) (W : Nat) (s : S) (log : List (Nat × Int)) : Y :=
  ⟨img t s 0 0 (-1) false, (List.range W).map fun w => if w ∈ s.ws then (loc t s 0 w : Int) else -1, (List.range W).map fun w => if w ∈ s.ws then seg t s 0 w else [], log⟩

def nextS (t : T) (W : Nat) (s : S) (who whom : Int) : S :=
  if 0 ≤ who ∧ who < W then
    if who.toNat ∈ s.ws then fin who.toNat t s
    else if 0 ≤ whom ∧ whom < W ∧ whom ≠ who ∧ whom.toNat ∈ s.ws ∧ seg t s 0 whom.toNat ≠ [] then steal who.toNat whom.toNat t s else s
  else s
def nextL (t : T) (W : Nat) (s : S) (who : Int) : List (Nat × Int) :=
  if 0 ≤ who ∧ who < W ∧ who.toNat ∈ s.ws then [(who.toNat, (leafOf t s 0 who.toNat : Int))] else []

theorem good_act {t : T} {W : Nat} {s : S} (h : Good t W s) {w : Nat} (hw : w ∈ s.ws) : Act t s := h.act.resolve_left (fun e => by rw [e] at hw; cases hw)

theorem set_range {α : Type} (W w : Nat) (f g : Nat → α) (h : ∀ v, v < W → v ≠ w → g v = f v) : ((List.range W).map f).set w (g w) = (List.range W).map g := by
  apply List.ext_getElem?
  intro i
  rw [List.getElem?_set]
  by_cases hi : i < W
  · by_cases e : w = i
    · subst e; simp [hi]
    · rw [if_neg e]; simp [hi, h i hi (fun e' => e e'.symm)]
  · rw [List.getElem?_eq_none (by simp; omega), List.getElem?_eq_none (by simp; omega)]
    simp only [List.length_map, List.length_range]
    split <;> (try split) <;> first | rfl | omega

theorem nextS_good {t : T} {W : Nat} {s : S} (h : Good t W s) (who whom : Int) : Good t W (nextS t W s who whom) := by
  unfold nextS
  split
  · rename_i hr
    split
    · rename_i hw
      have := fin_ok who.toNat t s (good_act h hw) hw h.nodup
      exact ⟨(Classical.em _).imp id this.act, this.nodup, fun v hv => h.lt v (this.sub v hv)⟩
    · rename_i hv
      split
      · rename_i hc
        have := steal_ok who.toNat whom.toNat t s 0 (good_act h hc.2.2.2.1) hc.2.2.2.1 h.nodup hc.2.2.2.2 hv
        exact ⟨.inr this.act, this.nodup, fun v hv => by
          rcases this.sub v hv with e | e
          · subst e; omega
          · exact h.lt v e⟩
      · exact h
  · exact h

theorem pick_yard {t : T} {W : Nat} {s : S} (hL : sz t ≤ 1099511627776) (h : Good t W s) (log : List (Nat × Int)) (who whom : Int) : ∃ f, pickF f (yard t W s log) who whom = some (yard t W (nextS t W s who whom) (log ++ nextL t W s who)) := by
  by_cases hr : 0 ≤ who ∧ who < W
  rotate_left
  · refine ⟨0, ?_⟩
    have e1 : nextS t W s who whom = s := by unfold nextS; rw [if_neg hr]
    have e2 : nextL t W s who = [] := by unfold nextL; rw [if_neg (fun h => hr ⟨h.1, h.2.1⟩)]
    rw [e1, e2, List.append_nil]
    unfold pickF
    rw [if_pos (by simp [yard]; omega)]
  obtain ⟨w, rfl⟩ : ∃ w : Nat, who = w := ⟨who.toNat, by omega⟩
  have hwW : w < W := by omega
  have hlen : (yard t W s log).at_.length = W := by simp [yard]
  have hnr : ¬ ((w : Int) < 0 ∨ ((yard t W s log).at_.length : Int) ≤ w) := by rw [hlen]; omega
  have hat : (yard t W s log).at_[w]? = some (if w ∈ s.ws then (loc t s 0 w : Int) else -1) := by simp [yard, hwW]
  have hq : (yard t W s log).qs[w]? = some (if w ∈ s.ws then seg t s 0 w else []) := by simp [yard, hwW]
  by_cases hw : w ∈ s.ws
  · have ha := good_act h hw
    have FO := fin_ok w t s ha hw h.nodup
    rw [if_pos hw] at hat hq
    obtain ⟨p, hp, hpl, hpk⟩ := loc_leaf w t s 0 0 (-1) false [] [] rfl ha hw
    rw [List.nil_append, List.append_nil] at hp
    have hfr := fin_runs w t s 0 0 (-1) false [] [] [] rfl ha hw h.nodup (.inr rfl) (by simpa using hL)
    simp only [List.nil_append, List.append_nil] at hfr
    have hend : EndRuns (img t s 0 0 (-1) false) (seg t s 0 w) (loc t s 0 w) (img t (fin w t s) 0 0 (-1) false, (if w ∈ (fin w t s).ws then seg t (fin w t s) 0 w else []), (if w ∈ (fin w t s).ws then (loc t (fin w t s) 0 w : Int) else -1)) := by
      by_cases e : fin w t s = .done
      · rw [e]
        refine hfr.2 e _ ?_
        obtain ⟨e1, e2⟩ := end_at (pre := []) (post := []) (t := t) (n := 0) (m := 0) (up := -1) (onR := false) rfl
        simp only [List.nil_append, List.append_nil] at e1 e2
        have := EndRuns.root (q := []) e1 (by rw [hd_up]; decide)
        rw [e2] at this
        simpa [S.ws] using this
      · exact hfr.1 e
    obtain ⟨f1, ps1, q1, a1, he, f2, hf⟩ := hend
    have he' := ended_more _ _ _ _ _ he (f1 + f2) (by omega)
    have hf' := settle_more _ _ _ _ _ hf (f1 + f2) (by omega)
    have e1 : nextS t W s w whom = fin w t s := by unfold nextS; rw [if_pos hr, Int.toNat_natCast, if_pos hw]
    have e2 : nextL t W s w = [(w, (leafOf t s 0 w : Int))] := by unfold nextL; rw [if_pos (by rw [Int.toNat_natCast]; exact ⟨hr.1, hr.2, hw⟩), Int.toNat_natCast]
    refine ⟨f1 + f2, ?_⟩
    unfold pickF
    rw [if_neg hnr, Int.toNat_natCast, hat, hq]
    dsimp only
    rw [if_pos (by omega), Int.toNat_natCast]
    have hps : (yard t W s log).ps = img t s 0 0 (-1) false := rfl
    rw [hps, hp, he']
    dsimp only
    rw [hf', e1, e2]
    dsimp only
    rw [hpl]
    have k1 : (yard t W s log).at_.set w (if w ∈ (fin w t s).ws then (loc t (fin w t s) 0 w : Int) else -1) = (yard t W (fin w t s) (log ++ [(w, (leafOf t s 0 w : Int))])).at_ := by
      refine set_range W w (fun v => if v ∈ s.ws then (loc t s 0 v : Int) else -1) (fun v => if v ∈ (fin w t s).ws then (loc t (fin w t s) 0 v : Int) else -1) fun v hv hne => ?_
      by_cases hvs : v ∈ s.ws
      · simp only [if_pos hvs, if_pos (FO.others v hvs hne), (FO.same 0 v hvs hne).1]
      · simp only [if_neg hvs, if_neg (fun h => hvs (FO.sub v h))]
    have k2 : (yard t W s log).qs.set w (if w ∈ (fin w t s).ws then seg t (fin w t s) 0 w else []) = (yard t W (fin w t s) (log ++ [(w, (leafOf t s 0 w : Int))])).qs := by
      refine set_range W w (fun v => if v ∈ s.ws then seg t s 0 v else []) (fun v => if v ∈ (fin w t s).ws then seg t (fin w t s) 0 v else []) fun v hv hne => ?_
      by_cases hvs : v ∈ s.ws
      · simp only [if_pos hvs, if_pos (FO.others v hvs hne), (FO.same 0 v hvs hne).2]
      · simp only [if_neg hvs, if_neg (fun h => hvs (FO.sub v h))]
    rw [k1, k2]
    rfl
  · rw [if_neg hw] at hat hq
    have e2 : nextL t W s w = [] := by unfold nextL; rw [if_neg (by rw [Int.toNat_natCast]; exact fun h => hw h.2.2)]
    rw [e2, List.append_nil]
    by_cases hc : 0 ≤ whom ∧ whom < W ∧ whom ≠ (w : Int)
    · obtain ⟨u, rfl⟩ : ∃ u : Nat, whom = u := ⟨whom.toNat, by omega⟩
      have huW : u < W := by omega
      have huw : u ≠ w := fun e => hc.2.2 (by rw [e])
      have hqu : (yard t W s log).qs[u]? = some (if u ∈ s.ws then seg t s 0 u else []) := by simp [yard, huW]
      by_cases hu : u ∈ s.ws ∧ seg t s 0 u ≠ []
      · obtain ⟨hus, hne⟩ := hu
        obtain ⟨k, rest, hseg⟩ : ∃ k rest, seg t s 0 u = k :: rest := by
          rcases hsg : seg t s 0 u with _ | ⟨k, rest⟩
          · exact absurd hsg hne
          · exact ⟨k, rest, rfl⟩
        rw [if_pos hus, hseg] at hqu
        have ha := good_act h hus
        have SO := steal_ok w u t s 0 ha hus h.nodup hne hw
        have hsr := steal_runs w u t s 0 0 (-1) false [] [] k rest rfl ha hus h.nodup hseg hw hL
        simp only [List.nil_append, List.append_nil] at hsr
        obtain ⟨f, hf⟩ := hsr
        have e1 : nextS t W s w u = steal w u t s := by
          unfold nextS
          rw [if_pos hr, Int.toNat_natCast, if_neg hw, Int.toNat_natCast, if_pos ⟨hc.1, hc.2.1, hc.2.2, hus, hne⟩]
        refine ⟨f, ?_⟩
        unfold pickF
        rw [if_neg hnr, Int.toNat_natCast, hat, hq]
        dsimp only
        rw [if_neg (by omega), if_pos (by rw [hlen]; exact hc), Int.toNat_natCast, hqu]
        dsimp only
        have hps : (yard t W s log).ps = img t s 0 0 (-1) false := rfl
        rw [hps, hf, e1]
        dsimp only
        have k1 : (yard t W s log).at_.set w (if w ∈ (steal w u t s).ws then (loc t (steal w u t s) 0 w : Int) else -1) = (yard t W (steal w u t s) log).at_ := by
          refine set_range W w (fun v => if v ∈ s.ws then (loc t s 0 v : Int) else -1) (fun v => if v ∈ (steal w u t s).ws then (loc t (steal w u t s) 0 v : Int) else -1) fun v hv hne => ?_
          by_cases hvs : v ∈ s.ws
          · simp only [if_pos hvs, if_pos (SO.keep v hvs), SO.loc 0 v hvs]
          · simp only [if_neg hvs, if_neg (fun h => (SO.sub v h).elim hne hvs)]
        have k2 : ((yard t W s log).qs.set u rest).set w (if w ∈ (steal w u t s).ws then seg t (steal w u t s) 0 w else []) = (yard t W (steal w u t s) log).qs := by
          have j1 : (yard t W s log).qs.set u rest = (List.range W).map fun v => if v = u then rest else if v ∈ s.ws then seg t s 0 v else [] := by
            have := set_range W u (fun v => if v ∈ s.ws then seg t s 0 v else []) (fun v => if v = u then rest else if v ∈ s.ws then seg t s 0 v else []) (fun v _ hne => by simp only [if_neg hne])
            simp only [if_true] at this
            exact this
          rw [j1]
          refine set_range W w (fun v => if v = u then rest else if v ∈ s.ws then seg t s 0 v else []) (fun v => if v ∈ (steal w u t s).ws then seg t (steal w u t s) 0 v else []) fun v hv hne => ?_
          by_cases hvs : v ∈ s.ws
          · simp only [if_pos hvs, if_pos (SO.keep v hvs), SO.seg 0 v hvs]
            by_cases e : v = u
            · subst e; simp [hseg]
            · simp [e]
          · have hvu : v ≠ u := fun e => hvs (by rw [e]; exact hus)
            simp only [if_neg hvs, if_neg hvu, if_neg (fun h => (SO.sub v h).elim hne hvs)]
        rw [k1, k2]
        rfl
      · have hqe : (yard t W s log).qs[u]? = some [] := by
          rw [hqu]
          by_cases hus : u ∈ s.ws
          · rw [if_pos hus]
            congr 1
            exact Classical.byContradiction fun h => hu ⟨hus, h⟩
          · rw [if_neg hus]
        have e1 : nextS t W s w u = s := by
          unfold nextS
          rw [if_pos hr, Int.toNat_natCast, if_neg hw, Int.toNat_natCast, if_neg (fun h => hu h.2.2.2)]
        refine ⟨0, ?_⟩
        unfold pickF
        rw [if_neg hnr, Int.toNat_natCast, hat, hq]
        dsimp only
        rw [if_neg (by omega), if_pos (by rw [hlen]; exact hc), Int.toNat_natCast, hqe, e1]
    · have e1 : nextS t W s w whom = s := by
        unfold nextS
        rw [if_pos hr, Int.toNat_natCast, if_neg hw, if_neg (fun h => hc ⟨h.1, h.2.1, h.2.2.1⟩)]
      refine ⟨0, ?_⟩
      unfold pickF
      rw [if_neg hnr, Int.toNat_natCast, hat, hq]
      dsimp only
      rw [if_neg (by omega), if_neg (by rw [hlen]; exact hc), e1]

/-! ### all picks -/
structure Pk where
  who : Int
  whom : Int
def afterS (t : T) (W : Nat) (s : S) (ps : List Pk) : S := ps.foldl (fun s p => nextS t W s p.who p.whom) s
def logS (t : T) (W : Nat) : S → List Pk → List (Nat × Int)
  | _, [] => []
  | s, p :: ps => nextL t W s p.who ++ logS t W (nextS t W s p.who p.whom) ps
theorem afterS_append (t : T) (W : Nat) (s : S) (a b : List Pk) : afterS t W s (a ++ b) = afterS t W (afterS t W s a) b := by simp [afterS]
theorem logS_append (t : T) (W : Nat) (s : S) (a b : List Pk) : logS t W s (a ++ b) = logS t W s a ++ logS t W (afterS t W s a) b := by
  induction a generalizing s with
  | nil => rfl
  | cons p a ih => simp [logS, afterS, ih]
theorem after_good {t : T} {W : Nat} {s : S} (h : Good t W s) (ps : List Pk) : Good t W (afterS t W s ps) := by
  induction ps generalizing s with
  | nil => exact h
  | cons p ps ih => exact ih (nextS_good h _ _)
/-- the first state -/
theorem first_good (t : T) (W : Nat) (h : 0 < W) : Good t W (start 0 t) := by
  rcases start_ok 0 t with e | ⟨e1, -, e3⟩
  · exact ⟨.inl e, by rw [e]; simp [S.ws], by rw [e]; simp [S.ws]⟩
  · exact ⟨.inr e1, by rw [e3]; simp, by rw [e3]; simpa using h⟩
theorem first_runs (t : T) (hL : sz t ≤ 1099511627776) : Runs (partsOf t 0 0 (-1) false) [] 0 (img t (start 0 t) 0 0 (-1) false, (if 0 ∈ (start 0 t).ws then seg t (start 0 t) 0 0 else []), (if 0 ∈ (start 0 t).ws then (loc t (start 0 t) 0 0 : Int) else -1)) := by
  have hs := start_runs 0 t 0 0 (-1) false [] [] [] rfl (by simpa using hL)
  simp only [List.nil_append, List.append_nil] at hs
  rw [← img_fresh]
  by_cases e : start 0 t = .done
  · rw [e]
    refine hs.2 e _ ?_
    obtain ⟨e1, e2⟩ := end_at (pre := []) (post := []) (t := t) (n := 0) (m := 0) (up := -1) (onR := false) rfl
    simp only [List.nil_append, List.append_nil] at e1 e2
    have := EndRuns.root (q := []) e1 (by rw [hd_up]; decide)
    rw [e2] at this
    simpa [S.ws] using this
  · obtain ⟨-, -, h3⟩ := (start_ok 0 t).resolve_left e
    have := hs.1 e
    rw [if_pos (by rw [h3]; simp), if_pos (by rw [h3]; simp)]
    exact this
end Go.Proofs.Ytcoijmnnnfogdaa.Stl


namespace Go.Proofs.Ytcoijmnnnfogdaa.Stl
set_option linter.unusedVariables false
set_option linter.unusedSimpArgs false
set_option maxRecDepth 100000
open Sp

/-! ### which leaves are done -/
def LD : T → S → Nat → Nat → Prop
  | .nil, _, _, _ => False
  | .one _ _ _, s, m, j => s = .done ∧ j = m
  | .two _ l r, s, m, j => LD l s.sl m j ∨ LD r s.sr (m + l.size) j
def dn : T → S → Nat
  | .nil, _ => 0
  | .one _ _ _, s => if s = .done then 1 else 0
  | .two _ l r, s => dn l s.sl + dn r s.sr

theorem LD_done : ∀ (t : T) (m j : Nat), LD t .done m j ↔ m ≤ j ∧ j < m + t.size
  | .nil, m, j => by simp [LD, T.size, T.leaves]
  | .one _ _ _, m, j => by simp [LD, T.size, T.leaves]; omega
  | .two p l r, m, j => by
    show (LD l .done m j ∨ LD r .done (m + l.size) j) ↔ _
    rw [LD_done l, LD_done r, T.size_two]
    omega
theorem LD_fresh : ∀ (t : T) (m j : Nat), ¬ LD t .fresh m j
  | .nil, _, _, h => h
  | .one _ _ _, _, _, h => by cases h.1
  | .two p l r, m, j, h => h.elim (LD_fresh l _ _) (LD_fresh r _ _)
theorem dn_done : ∀ t : T, dn t .done = t.size
  | .nil => rfl
  | .one _ _ _ => rfl
  | .two p l r => by show dn l .done + dn r .done = _; rw [dn_done l, dn_done r, T.size_two]
theorem dn_fresh : ∀ t : T, dn t .fresh = 0
  | .nil => rfl
  | .one _ _ _ => rfl
  | .two p l r => by show dn l .fresh + dn r .fresh = _; rw [dn_fresh l, dn_fresh r]
theorem start_size (w : Nat) : ∀ t : T, start w t = .done → t.size = 0
  | .nil, _ => rfl
  | .one _ _ _, h => by cases h
  | .two false l r, h => by
    rw [start_seq] at h
    split at h
    · rename_i h1
      split at h
      · rename_i h2
        rw [T.size_two, start_size w l h1, start_size w r h2]
      · cases h
    · cases h
  | .two true l r, h => by
    rw [start_par] at h
    split at h
    · rename_i h1
      split at h
      · rename_i h2
        rw [T.size_two, start_size w l h1, start_size w r h2]
      · cases h
    · cases h
theorem start_no (w : Nat) : ∀ (t : T), (∀ m j, ¬ LD t (start w t) m j) ∧ dn t (start w t) = 0
  | .nil => ⟨fun _ _ h => h, rfl⟩
  | .one _ _ _ => ⟨fun _ _ h => absurd (And.left h) (by simp [start]), by simp [start, dn]⟩
  | .two false l r => by
    obtain ⟨l1, l2⟩ := start_no w l
    obtain ⟨r1, r2⟩ := start_no w r
    have hl : start w l = .done → (∀ m j, ¬ LD l .done m j) ∧ dn l .done = 0 := fun e => by
      have := start_size w l e
      exact ⟨fun m j h => by rw [LD_done] at h; omega, by rw [dn_done]; exact this⟩
    have hr : start w r = .done → (∀ m j, ¬ LD r .done m j) ∧ dn r .done = 0 := fun e => by
      have := start_size w r e
      exact ⟨fun m j h => by rw [LD_done] at h; omega, by rw [dn_done]; exact this⟩
    rw [start_seq]
    split
    · rename_i e
      obtain ⟨a1, a2⟩ := hl e
      split
      · rename_i e'
        obtain ⟨b1, b2⟩ := hr e'
        exact ⟨fun m j h => h.elim (a1 _ _) (b1 _ _), by show dn l .done + dn r .done = 0; omega⟩
      · exact ⟨fun m j h => h.elim (a1 _ _) (r1 _ _), by show dn l .done + dn r (start w r) = 0; omega⟩
    · exact ⟨fun m j h => h.elim (l1 _ _) (LD_fresh r _ _), by show dn l (start w l) + dn r .fresh = 0; rw [dn_fresh]; omega⟩
  | .two true l r => by
    obtain ⟨l1, l2⟩ := start_no w l
    obtain ⟨r1, r2⟩ := start_no w r
    have hl : start w l = .done → (∀ m j, ¬ LD l .done m j) ∧ dn l .done = 0 := fun e => by
      have := start_size w l e
      exact ⟨fun m j h => by rw [LD_done] at h; omega, by rw [dn_done]; exact this⟩
    have hr : start w r = .done → (∀ m j, ¬ LD r .done m j) ∧ dn r .done = 0 := fun e => by
      have := start_size w r e
      exact ⟨fun m j h => by rw [LD_done] at h; omega, by rw [dn_done]; exact this⟩
    rw [start_par]
    split
    · rename_i e
      obtain ⟨a1, a2⟩ := hl e
      split
      · rename_i e'
        obtain ⟨b1, b2⟩ := hr e'
        exact ⟨fun m j h => h.elim (a1 _ _) (b1 _ _), by show dn l .done + dn r .done = 0; omega⟩
      · exact ⟨fun m j h => h.elim (a1 _ _) (r1 _ _), by show dn l .done + dn r (start w r) = 0; omega⟩
    · exact ⟨fun m j h => h.elim (l1 _ _) (LD_fresh r _ _), by show dn l (start w l) + dn r .fresh = 0; rw [dn_fresh]; omega⟩

theorem LD_lt : ∀ (t : T) (s : S) (m j : Nat), LD t s m j → m ≤ j ∧ j < m + t.size
  | .nil, _, _, _, h => h.elim
  | .one _ _ _, s, m, j, h => by obtain ⟨_, rfl⟩ := h; simp [T.size, T.leaves]
  | .two p l r, s, m, j, h => by
    rw [T.size_two]
    rcases h with h | h
    · have := LD_lt l _ _ _ h; omega
    · have := LD_lt r _ _ _ h; omega
theorem dn_le : ∀ (t : T) (s : S), dn t s ≤ t.size
  | .nil, _ => Nat.le_refl _
  | .one _ _ _, s => by unfold dn; split <;> simp [T.size, T.leaves]
  | .two p l r, s => by
    rw [T.size_two]
    have := dn_le l s.sl
    have := dn_le r s.sr
    unfold dn; omega

/-- what a worker's doing his leaf does -/
structure Does (w : Nat) (t : T) (s : S) : Prop where
  ld : ∀ m j, LD t (fin w t s) m j ↔ LD t s m j ∨ j = leafOf t s m w
  new : ∀ m, ¬ LD t s m (leafOf t s m w)
  lt : ∀ m, m ≤ leafOf t s m w ∧ leafOf t s m w < m + t.size
  dn : dn t (fin w t s) = dn t s + 1
  main : s.main = some w → ∀ m, leafOf t s m w = m + Stl.dn t s
  ahead : ∀ m j, (LD t s m j ∨ j = leafOf t s m w) → ∀ i, m ≤ i → t.bf (i - m) (j - m) → LD t s m i

theorem rk_l {p : Bool} {l r : T} {i : Nat} (hi : i < l.size) : (T.two p l r).rk i = l.rk i + (if p then r.size else 0) := by rw [T.rk, if_pos hi]
theorem rk_r {p : Bool} {l r : T} {i : Nat} (hi : l.size ≤ i) : (T.two p l r).rk i = r.rk (i - l.size) + (if p then 0 else l.size) := by rw [T.rk, if_neg (by omega)]
theorem bf_ll {p : Bool} {l r : T} {i j : Nat} (hi : i < l.size) (hj : j < l.size) (h : (T.two p l r).bf i j) : l.bf i j := by
  obtain ⟨h1, h2⟩ := h
  rw [rk_l hi, rk_l hj] at h2
  exact ⟨h1, by omega⟩
theorem bf_rr {p : Bool} {l r : T} {i j : Nat} (hi : l.size ≤ i) (hj : l.size ≤ j) (h : (T.two p l r).bf i j) : r.bf (i - l.size) (j - l.size) := by
  obtain ⟨h1, h2⟩ := h
  rw [rk_r hi, rk_r hj] at h2
  exact ⟨by omega, by omega⟩
theorem bf_lr {l r : T} {i j : Nat} (hi : i < l.size) (hj : l.size ≤ j) (hj2 : j - l.size < r.size) : ¬ (T.two true l r).bf i j := by
  rintro ⟨h1, h2⟩
  rw [rk_l hi, rk_r hj] at h2
  have := r.rk_lt _ hj2
  simp at h2
  omega
theorem bf_lt {t : T} {i j : Nat} (h : t.bf i j) : i < j := h.1

theorem does (w : Nat) : ∀ (t : T) (s : S), Act t s → w ∈ s.ws → s.ws.Nodup → Does w t s
  | .nil, s, h, _, _ => h.elim
  | .one c b lb, s, h, hw, _ => by
    cases s with
    | «at» u =>
      refine ⟨fun m j => ?_, fun m h => ?_, fun m => ?_, rfl, fun _ m => rfl, fun m j hj i hi hb => ?_⟩
      · show (S.done = S.done ∧ j = m) ↔ (S.at u = S.done ∧ j = m) ∨ j = m
        simp
      · exact absurd (And.left h) (by simp)
      · show m ≤ m ∧ m < m + 1
        omega
      · have : j = m := by
          rcases hj with h | h
          · exact absurd (And.left h) (by simp)
          · exact h
        have := bf_lt hb
        omega
    | _ => exact h.elim
  | .two false l r, s, h, hw, hd => by
    cases s with
    | seqL s =>
      obtain ⟨f1, f2, f3, f4, f5, f6⟩ := does w l s h hw hd
      have e0 : ∀ m, leafOf (.two false l r) (.seqL s) m w = leafOf l s m w := fun _ => rfl
      have e1 : ∀ m j, LD (.two false l r) (.seqL s) m j ↔ LD l s m j := fun m j => by
        show (LD l s m j ∨ LD r .fresh (m + l.size) j) ↔ _
        simp [LD_fresh]
      have e2 : dn (.two false l r) (.seqL s) = dn l s := by show dn l s + dn r .fresh = _; rw [dn_fresh, Nat.add_zero]
      have hfin : ∀ m j, LD (.two false l r) (fin w (.two false l r) (.seqL s)) m j ↔ LD l (fin w l s) m j := fun m j => by
        by_cases e : fin w l s = .done
        · by_cases er : start w r = .done
          · have hz := start_size w r er
            rw [show fin w (.two false l r) (.seqL s) = .done by simp [fin, e, er], e]
            show (LD l .done m j ∨ LD r .done (m + l.size) j) ↔ _
            rw [LD_done r]
            constructor
            · rintro (h | h)
              · exact h
              · omega
            · exact .inl
          · rw [show fin w (.two false l r) (.seqL s) = .seqR (start w r) by simp [fin, e, er], e]
            show (LD l .done m j ∨ LD r (start w r) (m + l.size) j) ↔ _
            simp [(start_no w r).1]
        · rw [show fin w (.two false l r) (.seqL s) = .seqL (fin w l s) by simp [fin, e]]
          show (LD l (fin w l s) m j ∨ LD r .fresh (m + l.size) j) ↔ _
          simp [LD_fresh]
      have hdn : dn (.two false l r) (fin w (.two false l r) (.seqL s)) = dn l (fin w l s) := by
        by_cases e : fin w l s = .done
        · by_cases er : start w r = .done
          · have hz := start_size w r er
            rw [show fin w (.two false l r) (.seqL s) = .done by simp [fin, e, er], e]
            show dn l .done + dn r .done = _
            rw [dn_done r, hz, Nat.add_zero]
          · rw [show fin w (.two false l r) (.seqL s) = .seqR (start w r) by simp [fin, e, er], e]
            show dn l .done + dn r (start w r) = _
            rw [(start_no w r).2, Nat.add_zero]
        · rw [show fin w (.two false l r) (.seqL s) = .seqL (fin w l s) by simp [fin, e]]
          show dn l (fin w l s) + dn r .fresh = _
          rw [dn_fresh, Nat.add_zero]
      refine ⟨fun m j => by rw [hfin, e0, e1]; exact f1 m j, fun m => by rw [e0, e1]; exact f2 m, fun m => by rw [e0, T.size_two]; have := f3 m; omega, by rw [hdn, e2]; exact f4, fun hm m => by rw [e0, e2]; exact f5 hm m, fun m j hj i hi hb => ?_⟩
      rw [e0, e1] at hj
      rw [e1]
      have hjl : j < m + l.size ∧ m ≤ j := by
        rcases hj with hj | hj
        · have := LD_lt l s m j hj; omega
        · have := f3 m; omega
      have := bf_lt hb
      exact f6 m j hj i hi (bf_ll (by omega) (by omega) hb)
    | seqR s =>
      obtain ⟨f1, f2, f3, f4, f5, f6⟩ := does w r s h hw hd
      have e0 : ∀ m, leafOf (.two false l r) (.seqR s) m w = leafOf r s (m + l.size) w := fun _ => rfl
      have e1 : ∀ m j, LD (.two false l r) (.seqR s) m j ↔ (m ≤ j ∧ j < m + l.size) ∨ LD r s (m + l.size) j := fun m j => by
        show (LD l .done m j ∨ LD r s (m + l.size) j) ↔ _
        rw [LD_done]
      have e2 : dn (.two false l r) (.seqR s) = l.size + dn r s := by show dn l .done + dn r s = _; rw [dn_done]
      have hfin : ∀ m j, LD (.two false l r) (fin w (.two false l r) (.seqR s)) m j ↔ (m ≤ j ∧ j < m + l.size) ∨ LD r (fin w r s) (m + l.size) j := fun m j => by
        by_cases e : fin w r s = .done
        · rw [show fin w (.two false l r) (.seqR s) = .done by simp [fin, e], e]
          show (LD l .done m j ∨ LD r .done (m + l.size) j) ↔ _
          rw [LD_done l]
        · rw [show fin w (.two false l r) (.seqR s) = .seqR (fin w r s) by simp [fin, e]]
          show (LD l .done m j ∨ LD r (fin w r s) (m + l.size) j) ↔ _
          rw [LD_done l]
      have hdn : dn (.two false l r) (fin w (.two false l r) (.seqR s)) = l.size + dn r (fin w r s) := by
        by_cases e : fin w r s = .done
        · rw [show fin w (.two false l r) (.seqR s) = .done by simp [fin, e], e]
          show dn l .done + dn r .done = _
          rw [dn_done l]
        · rw [show fin w (.two false l r) (.seqR s) = .seqR (fin w r s) by simp [fin, e]]
          show dn l .done + dn r (fin w r s) = _
          rw [dn_done l]
      refine ⟨fun m j => by rw [hfin, e0, e1, f1 (m + l.size) j, or_assoc], fun m h => ?_, fun m => by rw [e0, T.size_two]; have := f3 (m + l.size); omega, by rw [hdn, e2, f4]; omega, fun hm m => by rw [e0, e2, f5 hm (m + l.size)]; omega, fun m j hj i hi hb => ?_⟩
      · rw [e0, e1] at h
        rcases h with h | h
        · have := f3 (m + l.size); omega
        · exact f2 _ h
      · rw [e0, e1, or_assoc] at hj
        rw [e1]
        by_cases hil : i < m + l.size
        · exact .inl ⟨hi, hil⟩
        · refine .inr ?_
          have hlt := bf_lt hb
          have hj' := hj.resolve_left (by omega)
          exact f6 (m + l.size) j hj' i (by omega) (by
            have := bf_rr (by omega) (by omega) hb
            rwa [show i - m - l.size = i - (m + l.size) by omega, show j - m - l.size = j - (m + l.size) by omega] at this)
    | _ => exact h.elim
  | .two true l r, s, h, hw, hd => by
    have sep : ∀ (m i j : Nat), m ≤ i → i < m + l.size → m + l.size ≤ j → j < m + l.size + r.size → ¬ (T.two true l r).bf (i - m) (j - m) := fun m i j h1 h2 h3 h4 => bf_lr (by omega) (by omega) (by omega)
    cases s with
    | parQ s =>
      obtain ⟨f1, f2, f3, f4, f5, f6⟩ := does w l s h.1 hw hd
      have e0 : ∀ m, leafOf (.two true l r) (.parQ s) m w = leafOf l s m w := fun _ => rfl
      have e1 : ∀ m j, LD (.two true l r) (.parQ s) m j ↔ LD l s m j := fun m j => by
        show (LD l s m j ∨ LD r .fresh (m + l.size) j) ↔ _
        simp [LD_fresh]
      have e2 : dn (.two true l r) (.parQ s) = dn l s := by show dn l s + dn r .fresh = _; rw [dn_fresh, Nat.add_zero]
      have hfin : ∀ m j, LD (.two true l r) (fin w (.two true l r) (.parQ s)) m j ↔ LD l (fin w l s) m j := fun m j => by
        by_cases e : fin w l s = .done
        · by_cases er : start w r = .done
          · have hz := start_size w r er
            rw [show fin w (.two true l r) (.parQ s) = .done by simp [fin, e, er], e]
            show (LD l .done m j ∨ LD r .done (m + l.size) j) ↔ _
            rw [LD_done r]
            constructor
            · rintro (h | h)
              · exact h
              · omega
            · exact .inl
          · rw [show fin w (.two true l r) (.parQ s) = .parB .done (start w r) by simp [fin, e, er], e]
            show (LD l .done m j ∨ LD r (start w r) (m + l.size) j) ↔ _
            simp [(start_no w r).1]
        · rw [show fin w (.two true l r) (.parQ s) = .parQ (fin w l s) by simp [fin, e]]
          show (LD l (fin w l s) m j ∨ LD r .fresh (m + l.size) j) ↔ _
          simp [LD_fresh]
      have hdn : dn (.two true l r) (fin w (.two true l r) (.parQ s)) = dn l (fin w l s) := by
        by_cases e : fin w l s = .done
        · by_cases er : start w r = .done
          · have hz := start_size w r er
            rw [show fin w (.two true l r) (.parQ s) = .done by simp [fin, e, er], e]
            show dn l .done + dn r .done = _
            rw [dn_done r, hz, Nat.add_zero]
          · rw [show fin w (.two true l r) (.parQ s) = .parB .done (start w r) by simp [fin, e, er], e]
            show dn l .done + dn r (start w r) = _
            rw [(start_no w r).2, Nat.add_zero]
        · rw [show fin w (.two true l r) (.parQ s) = .parQ (fin w l s) by simp [fin, e]]
          show dn l (fin w l s) + dn r .fresh = _
          rw [dn_fresh, Nat.add_zero]
      refine ⟨fun m j => by rw [hfin, e0, e1]; exact f1 m j, fun m => by rw [e0, e1]; exact f2 m, fun m => by rw [e0, T.size_two]; have := f3 m; omega, by rw [hdn, e2]; exact f4, fun hm m => by rw [e0, e2]; exact f5 hm m, fun m j hj i hi hb => ?_⟩
      rw [e0, e1] at hj
      rw [e1]
      have hjl : j < m + l.size ∧ m ≤ j := by
        rcases hj with hj | hj
        · have := LD_lt l s m j hj; omega
        · have := f3 m; omega
      have := bf_lt hb
      exact f6 m j hj i hi (bf_ll (by omega) (by omega) hb)
    | parB a b =>
      obtain ⟨h1, h2, h3⟩ := h
      obtain ⟨da, db, dab⟩ := nodup_two hd
      have e1 : ∀ (a b : S) (m j : Nat), LD (.two true l r) (.parB a b) m j ↔ LD l a m j ∨ LD r b (m + l.size) j := fun _ _ _ _ => Iff.rfl
      have e1d : ∀ (m j : Nat), LD (.two true l r) .done m j ↔ LD l .done m j ∨ LD r .done (m + l.size) j := fun _ _ => Iff.rfl
      have e2 : ∀ (a b : S), dn (.two true l r) (.parB a b) = dn l a + dn r b := fun _ _ => rfl
      have e2d : dn (.two true l r) .done = dn l .done + dn r .done := rfl
      have hcf : ∀ m, leafOf (.two true l r) (.parB a b) m w = if w ∈ a.ws then leafOf l a m w else leafOf r b (m + l.size) w := fun _ => rfl
      -- what is done of either part, is done as it must
      have cl : ∀ (t : T) (c : S), (c = .done ∨ Act t c) → c.ws.Nodup → (∀ w ∈ c.ws, Does w t c) → ∀ m j, LD t c m j → ∀ i, m ≤ i → t.bf (i - m) (j - m) → LD t c m i := fun t c hc hn hdo m j hj i hi hb => by
        rcases hc with rfl | hc
        · rw [LD_done] at hj ⊢
          have := bf_lt hb
          omega
        · obtain ⟨v, hv⟩ := List.exists_mem_of_ne_nil _ (act_ws t c hc)
          exact (hdo v hv).ahead m j (.inl hj) i hi hb
      have cla := cl l a h1 da (fun v hv => does v l a (h1.resolve_left (fun e => by rw [e] at hv; cases hv)) hv da)
      have clb := cl r b h2 db (fun v hv => does v r b (h2.resolve_left (fun e => by rw [e] at hv; cases hv)) hv db)
      by_cases hwa : w ∈ a.ws
      · have ha : Act l a := h1.resolve_left (fun e => by rw [e] at hwa; cases hwa)
        obtain ⟨f1, f2, f3, f4, f5, f6⟩ := does w l a ha hwa da
        have e0 : ∀ m, leafOf (.two true l r) (.parB a b) m w = leafOf l a m w := fun m => by rw [hcf, if_pos hwa]
        have hfin : ∀ m j, LD (.two true l r) (fin w (.two true l r) (.parB a b)) m j ↔ LD l (fin w l a) m j ∨ LD r b (m + l.size) j := fun m j => by
          by_cases e : fin w l a = .done
          · by_cases eb : b = .done
            · rw [show fin w (.two true l r) (.parB a b) = .done by simp [fin, hwa, e, eb], e, eb]; exact Iff.rfl
            · rw [show fin w (.two true l r) (.parB a b) = .parB .done b by simp [fin, hwa, e, eb], e]; exact Iff.rfl
          · rw [show fin w (.two true l r) (.parB a b) = .parB (fin w l a) b by simp [fin, hwa, e]]; exact Iff.rfl
        have hdn : dn (.two true l r) (fin w (.two true l r) (.parB a b)) = dn l (fin w l a) + dn r b := by
          by_cases e : fin w l a = .done
          · by_cases eb : b = .done
            · rw [show fin w (.two true l r) (.parB a b) = .done by simp [fin, hwa, e, eb], e, eb]; rfl
            · rw [show fin w (.two true l r) (.parB a b) = .parB .done b by simp [fin, hwa, e, eb], e]; rfl
          · rw [show fin w (.two true l r) (.parB a b) = .parB (fin w l a) b by simp [fin, hwa, e]]; rfl
        refine ⟨fun m j => ?_, fun m h => ?_, fun m => by rw [e0, T.size_two]; have := f3 m; omega, by rw [hdn, e2, f4]; omega, fun hm => by simp [S.main, ha.not_done] at hm, fun m j hj i hi hb => ?_⟩
        · rw [hfin, e0, e1, f1 m j]
          exact or_right_comm
        · rw [e0, e1] at h
          rcases h with h | h
          · exact f2 m h
          · have := LD_lt r b _ _ h
            have := f3 m
            omega
        · rw [e0, e1] at hj
          rw [e1]
          have hlt := bf_lt hb
          by_cases hjl : j < m + l.size
          · refine .inl (f6 m j ?_ i hi (bf_ll (by omega) (by omega) hb))
            rcases hj with (hj | hj) | hj
            · exact .inl hj
            · have := LD_lt r b _ _ hj; omega
            · exact .inr hj
          · have hjr : LD r b (m + l.size) j := by
              rcases hj with (hj | hj) | hj
              · have := LD_lt l a _ _ hj; omega
              · exact hj
              · have := f3 m; omega
            have hjb := LD_lt r b _ _ hjr
            by_cases hil : i < m + l.size
            · exact absurd hb (sep m i j hi hil (by omega) (by omega))
            · refine .inr (clb (m + l.size) j hjr i (by omega) ?_)
              have := bf_rr (by omega) (by omega) hb
              rwa [show i - m - l.size = i - (m + l.size) by omega, show j - m - l.size = j - (m + l.size) by omega] at this
      · have hwb : w ∈ b.ws := (List.mem_append.1 hw).resolve_left hwa
        have hb_ : Act r b := h2.resolve_left (fun e => by rw [e] at hwb; cases hwb)
        obtain ⟨f1, f2, f3, f4, f5, f6⟩ := does w r b hb_ hwb db
        have e0 : ∀ m, leafOf (.two true l r) (.parB a b) m w = leafOf r b (m + l.size) w := fun m => by rw [hcf, if_neg hwa]
        have hfin : ∀ m j, LD (.two true l r) (fin w (.two true l r) (.parB a b)) m j ↔ LD l a m j ∨ LD r (fin w r b) (m + l.size) j := fun m j => by
          by_cases e : fin w r b = .done
          · by_cases ea : a = .done
            · rw [show fin w (.two true l r) (.parB a b) = .done by simp [fin, e, ea, S.ws], e, ea]; exact Iff.rfl
            · rw [show fin w (.two true l r) (.parB a b) = .parB a .done by simp [fin, hwa, e, ea], e]; exact Iff.rfl
          · rw [show fin w (.two true l r) (.parB a b) = .parB a (fin w r b) by simp [fin, hwa, e]]; exact Iff.rfl
        have hdn : dn (.two true l r) (fin w (.two true l r) (.parB a b)) = dn l a + dn r (fin w r b) := by
          by_cases e : fin w r b = .done
          · by_cases ea : a = .done
            · rw [show fin w (.two true l r) (.parB a b) = .done by simp [fin, e, ea, S.ws], e, ea]; rfl
            · rw [show fin w (.two true l r) (.parB a b) = .parB a .done by simp [fin, hwa, e, ea], e]; rfl
          · rw [show fin w (.two true l r) (.parB a b) = .parB a (fin w r b) by simp [fin, hwa, e]]; rfl
        refine ⟨fun m j => by rw [hfin, e0, e1, f1 (m + l.size) j, or_assoc], fun m h => ?_, fun m => by rw [e0, T.size_two]; have := f3 (m + l.size); omega, by rw [hdn, e2, f4]; omega, fun hm m => ?_, fun m j hj i hi hb => ?_⟩
        · rw [e0, e1] at h
          rcases h with h | h
          · have := LD_lt l a _ _ h
            have := f3 (m + l.size)
            omega
          · exact f2 _ h
        · by_cases ea : a = .done
          · subst ea
            rw [e0, e2, dn_done, f5 (by simpa [S.main] using hm) (m + l.size)]
            omega
          · simp [S.main, ea] at hm
        · rw [e0, e1] at hj
          rw [e1]
          have hlt := bf_lt hb
          by_cases hjl : j < m + l.size
          · have hja : LD l a m j := by
              rcases hj with (hj | hj) | hj
              · exact hj
              · have := LD_lt r b _ _ hj; omega
              · have := f3 (m + l.size); omega
            exact .inl (cla m j hja i hi (bf_ll (by omega) (by omega) hb))
          · have hjr : LD r b (m + l.size) j ∨ j = leafOf r b (m + l.size) w := by
              rcases hj with (hj | hj) | hj
              · have := LD_lt l a _ _ hj; omega
              · exact .inl hj
              · exact .inr hj
            have hjb : j < m + l.size + r.size := by
              rcases hjr with hj | hj
              · have := LD_lt r b _ _ hj; omega
              · have := f3 (m + l.size); omega
            by_cases hil : i < m + l.size
            · exact absurd hb (sep m i j hi hil (by omega) hjb)
            · refine .inr (f6 (m + l.size) j hjr i (by omega) ?_)
              have := bf_rr (by omega) (by omega) hb
              rwa [show i - m - l.size = i - (m + l.size) by omega, show j - m - l.size = j - (m + l.size) by omega] at this
    | _ => exact h.elim

theorem steal_LD (v w : Nat) : ∀ (t : T) (s : S), Act t s → (∀ m j, LD t (steal v w t s) m j ↔ LD t s m j) ∧ dn t (steal v w t s) = dn t s
  | .nil, s, h => h.elim
  | .one _ _ _, s, h => by
    cases s with
    | «at» u => exact ⟨fun _ _ => Iff.rfl, rfl⟩
    | _ => exact h.elim
  | .two false l r, s, h => by
    cases s with
    | seqL s =>
      obtain ⟨h1, h2⟩ := steal_LD v w l s h
      exact ⟨fun m j => by show (LD l (steal v w l s) m j ∨ LD r .fresh _ j) ↔ (LD l s m j ∨ LD r .fresh _ j); rw [h1], by show dn l (steal v w l s) + dn r .fresh = dn l s + dn r .fresh; rw [h2]⟩
    | seqR s =>
      obtain ⟨h1, h2⟩ := steal_LD v w r s h
      exact ⟨fun m j => by show (LD l .done m j ∨ LD r (steal v w r s) _ j) ↔ (LD l .done m j ∨ LD r s _ j); rw [h1], by show dn l .done + dn r (steal v w r s) = dn l .done + dn r s; rw [h2]⟩
    | _ => exact h.elim
  | .two true l r, s, h => by
    cases s with
    | parQ s =>
      obtain ⟨h1, h2⟩ := start_no v r
      exact ⟨fun m j => by show (LD l s m j ∨ LD r (start v r) _ j) ↔ (LD l s m j ∨ LD r .fresh _ j); simp [h1, LD_fresh], by show dn l s + dn r (start v r) = dn l s + dn r .fresh; rw [h2, dn_fresh]⟩
    | parB a b =>
      obtain ⟨h1, h2, h3⟩ := h
      by_cases hwa : w ∈ a.ws
      · obtain ⟨k1, k2⟩ := steal_LD v w l a (h1.resolve_left (fun e => by rw [e] at hwa; cases hwa))
        rw [show steal v w (.two true l r) (.parB a b) = .parB (steal v w l a) b by simp [steal, hwa]]
        exact ⟨fun m j => by show (LD l (steal v w l a) m j ∨ LD r b _ j) ↔ (LD l a m j ∨ LD r b _ j); rw [k1], by show dn l (steal v w l a) + dn r b = dn l a + dn r b; rw [k2]⟩
      · rw [show steal v w (.two true l r) (.parB a b) = .parB a (steal v w r b) by simp [steal, hwa]]
        rcases h2 with rfl | h2
        · have e : steal v w r .done = .done := by cases r <;> rfl
          rw [e]
          exact ⟨fun _ _ => Iff.rfl, rfl⟩
        · obtain ⟨k1, k2⟩ := steal_LD v w r b h2
          exact ⟨fun m j => by show (LD l a m j ∨ LD r (steal v w r b) _ j) ↔ (LD l a m j ∨ LD r b _ j); rw [k1], by show dn l a + dn r (steal v w r b) = dn l a + dn r b; rw [k2]⟩
    | _ => exact h.elim
end Go.Proofs.Ytcoijmnnnfogdaa.Stl


namespace Go.Proofs.Ytcoijmnnnfogdaa.Stl
set_option linter.unusedVariables false
set_option linter.unusedSimpArgs false
set_option maxRecDepth 100000
open Sp

theorem step_cases {t : T} {W : Nat} {s : S} (h : Good t W s) (who whom : Int) :
    (∃ w : Nat, who = w ∧ w < W ∧ w ∈ s.ws ∧ nextS t W s who whom = fin w t s ∧ nextL t W s who = [(w, (leafOf t s 0 w : Int))]) ∨
    ((∀ m j, LD t (nextS t W s who whom) m j ↔ LD t s m j) ∧ dn t (nextS t W s who whom) = dn t s ∧ nextL t W s who = [] ∧ (∀ v ∈ s.ws, v ∈ (nextS t W s who whom).ws)) := by
  unfold nextS nextL
  by_cases hr : 0 ≤ who ∧ who < W
  · rw [if_pos hr]
    by_cases hw : who.toNat ∈ s.ws
    · rw [if_pos hw, if_pos ⟨hr.1, hr.2, hw⟩]
      exact .inl ⟨who.toNat, by omega, by omega, hw, rfl, rfl⟩
    · rw [if_neg hw, if_neg (show ¬ (0 ≤ who ∧ who < W ∧ who.toNat ∈ s.ws) from fun e => hw e.2.2)]
      split
      · rename_i hc
        obtain ⟨h1, h2⟩ := steal_LD who.toNat whom.toNat t s (good_act h hc.2.2.2.1)
        have := steal_ok who.toNat whom.toNat t s 0 (good_act h hc.2.2.2.1) hc.2.2.2.1 h.nodup hc.2.2.2.2 hw
        exact .inr ⟨h1, h2, rfl, this.keep⟩
      · exact .inr ⟨fun _ _ => Iff.rfl, rfl, rfl, fun _ hv => hv⟩
  · rw [if_neg hr, if_neg (show ¬ (0 ≤ who ∧ who < W ∧ who.toNat ∈ s.ws) from fun e => hr ⟨e.1, e.2.1⟩)]
    exact .inr ⟨fun _ _ => Iff.rfl, rfl, rfl, fun _ hv => hv⟩

theorem log_dn {t : T} {W : Nat} : ∀ (ps : List Pk) {s : S}, Good t W s → (logS t W s ps).length + dn t s = dn t (afterS t W s ps)
  | [], s, _ => by simp [logS, afterS]
  | p :: ps, s, h => by
    have ih := log_dn ps (nextS_good h p.who p.whom)
    show (nextL t W s p.who ++ logS t W (nextS t W s p.who p.whom) ps).length + dn t s = dn t (afterS t W (nextS t W s p.who p.whom) ps)
    rw [List.length_append]
    rcases step_cases h p.who p.whom with ⟨w, -, -, hw, e1, e2⟩ | ⟨-, e1, e2, -⟩
    · have hd := (does w t s (good_act h hw) hw h.nodup).dn
      rw [← e1] at hd
      rw [e2, List.length_singleton]
      omega
    · rw [e2, List.length_nil]
      omega

structure Once (t : T) (W : Nat) (s : S) (L : List (Nat × Int)) : Prop where
  who : ∀ x ∈ L, x.1 < W
  leaf : ∀ x ∈ L, ∃ j : Nat, x.2 = j ∧ j < t.size ∧ ¬ LD t s 0 j
  nodup : (L.map (·.2)).Nodup
  ahead : ∀ (p : Nat) (x : Nat × Int), L[p]? = some x → ∀ i : Nat, t.bf i x.2.toNat → LD t s 0 i ∨ ∃ q y, q < p ∧ L[q]? = some y ∧ y.2 = (i : Int)
theorem once {t : T} {W : Nat} : ∀ (ps : List Pk) {s : S}, Good t W s → Once t W s (logS t W s ps)
  | [], s, _ => ⟨fun _ h => by simp [logS] at h, fun _ h => by simp [logS] at h, by simp [logS], fun _ _ h => by simp [logS] at h⟩
  | p :: ps, s, h => by
    obtain ⟨i1, i2, i3, i4⟩ := once ps (nextS_good h p.who p.whom)
    show Once t W s (nextL t W s p.who ++ logS t W (nextS t W s p.who p.whom) ps)
    rcases step_cases h p.who p.whom with ⟨w, -, hlt, hw, e1, e2⟩ | ⟨e1, -, e2, -⟩
    · have hd := does w t s (good_act h hw) hw h.nodup
      rw [e2]
      rw [e1] at i1 i2 i3 i4 ⊢
      generalize logS t W (fin w t s) ps = L at i1 i2 i3 i4 ⊢
      have l1 := hd.lt 0
      refine ⟨fun x hx => ?_, fun x hx => ?_, ?_, fun q x hq i hi => ?_⟩
      · rcases List.mem_cons.1 hx with rfl | hx
        · exact hlt
        · exact i1 x hx
      · rcases List.mem_cons.1 hx with rfl | hx
        · exact ⟨_, rfl, by omega, hd.new 0⟩
        · obtain ⟨j, h1, h2, h3⟩ := i2 x hx
          exact ⟨j, h1, h2, fun hn => h3 ((hd.ld 0 j).2 (.inl hn))⟩
      · show (((leafOf t s 0 w : Int)) :: L.map (·.2)).Nodup
        rw [List.nodup_cons]
        refine ⟨fun hm => ?_, i3⟩
        obtain ⟨x, hx, hxe⟩ := List.mem_map.1 hm
        obtain ⟨j, h1, -, h3⟩ := i2 x hx
        exact h3 ((hd.ld 0 j).2 (.inr (by omega)))
      · rcases q with _ | q
        · simp only [List.singleton_append, List.getElem?_cons_zero, Option.some.injEq] at hq
          subst hq
          refine .inl (hd.ahead 0 (leafOf t s 0 w) (.inr rfl) i (Nat.zero_le _) (by simpa using hi))
        · simp only [List.singleton_append, List.getElem?_cons_succ] at hq
          rcases i4 q x hq i hi with hl | ⟨q', y, h1, h2, h3⟩
          · rcases (hd.ld 0 i).1 hl with hl | hl
            · exact .inl hl
            · exact .inr ⟨0, _, by omega, rfl, by rw [hl]⟩
          · exact .inr ⟨q' + 1, y, by omega, by simpa using h2, h3⟩
    · rw [e2, List.nil_append]
      exact ⟨i1, fun x hx => by obtain ⟨j, h1, h2, h3⟩ := i2 x hx; exact ⟨j, h1, h2, fun hn => h3 ((e1 0 j).2 hn)⟩, i3, fun q x hq i hi => (i4 q x hq i hi).imp (fun hl => (e1 0 i).1 hl) id⟩
theorem once_start (t : T) (W : Nat) (hW : 0 < W) (ps : List Pk) : Once t W (start 0 t) (logS t W (start 0 t) ps) := once ps (first_good t W hW)

/-! ### alone -/
theorem alone {t : T} : ∀ (k : Nat) (s : S), (s = .done ∨ (Act t s ∧ s.main = some 0)) → logS t 1 s (List.replicate k ⟨0, 0⟩) = (List.range' (dn t s) (min k (t.size - dn t s))).map fun i : Nat => (0, (i : Int))
  | 0, s, _ => by simp [logS]
  | k + 1, s, h => by
    rw [List.replicate_succ]
    show nextL t 1 s 0 ++ logS t 1 (nextS t 1 s 0 0) (List.replicate k ⟨0, 0⟩) = _
    rcases h with rfl | ⟨ha, hm⟩
    · have e1 : nextL t 1 .done 0 = [] := by simp [nextL, S.ws]
      have e2 : nextS t 1 .done 0 0 = .done := by simp [nextS, S.ws]
      rw [e1, e2, alone k .done (.inl rfl), dn_done]
      simp
    · have hws := main_only t s 0 ha hm
      have hw : 0 ∈ s.ws := by rw [hws]; simp
      have hn : s.ws.Nodup := by rw [hws]; simp
      have hd := does 0 t s ha hw hn
      have hf := fin_ok 0 t s ha hw hn
      have e1 : nextL t 1 s 0 = [(0, (leafOf t s 0 0 : Int))] := by simp [nextL, hw]
      have e2 : nextS t 1 s 0 0 = fin 0 t s := by simp [nextS, hw]
      have hl := hd.main hm 0
      have hlt := (hd.lt 0).2
      rw [e1, e2, alone k (fin 0 t s) (by
        by_cases e : fin 0 t s = .done
        · exact .inl e
        · exact .inr ⟨hf.act e, hf.main hm e⟩), hd.dn, hl]
      have : min (k + 1) (t.size - dn t s) = min k (t.size - (dn t s + 1)) + 1 := by omega
      rw [this, List.range'_succ]
      simp
theorem alone_start (t : T) (k : Nat) : logS t 1 (start 0 t) (List.replicate k ⟨0, 0⟩) = (List.range (min k t.size)).map fun i : Nat => (0, (i : Int)) := by
  rw [alone k _ ((start_ok 0 t).imp id (fun h => ⟨h.1, h.2.1⟩)), (start_no 0 t).2, List.range_eq_range']
  rfl

/-! ### all is done at last -/
def pairs (W : Nat) : List Pk := (List.range W).flatMap fun a : Nat => (List.range W).map fun b : Nat => ⟨(a : Int), (b : Int)⟩
def fairs (W : Nat) : Nat → List Pk
  | 0 => []
  | r + 1 => fairs W r ++ pairs W
theorem dn_mono {t : T} {W : Nat} {s : S} (h : Good t W s) (ps : List Pk) : dn t s ≤ dn t (afterS t W s ps) := by
  have := log_dn ps h
  omega
/-- a worker who is at work does a leaf when he is picked -/
theorem busy {t : T} {W : Nat} (w b : Nat) (hw : w < W) : ∀ (ps : List Pk) {s : S}, Good t W s → w ∈ s.ws → ⟨(w : Int), (b : Int)⟩ ∈ ps → dn t s < dn t (afterS t W s ps)
  | p :: ps, s, h, hs, hm => by
    show dn t s < dn t (afterS t W (nextS t W s p.who p.whom) ps)
    have hg := nextS_good h p.who p.whom
    have hmo := dn_mono hg ps
    rcases step_cases h p.who p.whom with ⟨v, -, hlt, hv, e1, -⟩ | ⟨-, e1, e2, hk⟩
    · have hd := (does v t s (good_act h hv) hv h.nodup).dn
      rw [← e1] at hd
      omega
    · rcases List.mem_cons.1 hm with rfl | hm
      · have : nextL t W s w = [(w, (leafOf t s 0 w : Int))] := by simp [nextL, hs, hw]
        rw [this] at e2
        cases e2
      · have := busy w b hw ps hg (hk w hs) hm
        omega
theorem good_lt {t : T} {W : Nat} {s : S} (h : Good t W s) (hs : s ≠ .done) : dn t s < t.size := by
  have ha := h.act.resolve_left hs
  obtain ⟨w, hw⟩ := List.exists_mem_of_ne_nil _ (act_ws t s ha)
  have := (does w t s ha hw h.nodup).dn
  have := dn_le t (fin w t s)
  omega
theorem round_done {t : T} {W : Nat} {s : S} (h : Good t W s) : afterS t W s (pairs W) = .done ∨ dn t s < dn t (afterS t W s (pairs W)) := by
  by_cases hs : s = .done
  · have hdone : ∀ ps : List Pk, afterS t W .done ps = .done := fun ps => by
      induction ps with
      | nil => rfl
      | cons p ps ih =>
        show afterS t W (nextS t W .done p.who p.whom) ps = .done
        rw [show nextS t W .done p.who p.whom = .done by simp [nextS, S.ws]]
        exact ih
    subst hs
    exact .inl (hdone _)
  · have ha := h.act.resolve_left hs
    obtain ⟨w, hw⟩ := List.exists_mem_of_ne_nil _ (act_ws t s ha)
    have hlt := h.lt w hw
    exact .inr (busy w 0 hlt _ h hw (List.mem_flatMap.2 ⟨w, by simpa using hlt, List.mem_map.2 ⟨0, List.mem_range.2 (Nat.lt_of_le_of_lt (Nat.zero_le _) hlt), rfl⟩⟩))
theorem fair_dn {t : T} {W : Nat} : ∀ (r : Nat) {s : S}, Good t W s → afterS t W s (fairs W r) = .done ∨ r ≤ dn t (afterS t W s (fairs W r))
  | 0, s, h => .inr (Nat.zero_le _)
  | r + 1, s, h => by
    have hg := after_good h (fairs W r)
    show afterS t W s (fairs W r ++ pairs W) = .done ∨ _ ≤ dn t (afterS t W s (fairs W r ++ pairs W))
    rw [afterS_append]
    rcases fair_dn r h with e | e
    · rcases round_done hg with e' | e'
      · exact .inl e'
      · have h1 := dn_le t (afterS t W (afterS t W s (fairs W r)) (pairs W))
        rw [e, dn_done] at e'
        rw [e] at h1
        omega
    · rcases round_done hg with e' | e'
      · exact .inl e'
      · exact .inr (by omega)
/-- fair picks, as many rounds as there are leaves and one more -/
theorem ends (t : T) (W : Nat) (hW : 0 < W) (ps : List Pk) (r : Nat) (hr : t.size < r) : (logS t W (start 0 t) (ps ++ fairs W r)).length = t.size := by
  have hg := first_good t W hW
  have h1 := log_dn (ps ++ fairs W r) hg
  rw [(start_no 0 t).2] at h1
  have h2 : afterS t W (start 0 t) (ps ++ fairs W r) = .done := by
    rw [afterS_append]
    have hg' := after_good hg ps
    rcases fair_dn r hg' with e | e
    · exact e
    · have := dn_le t (afterS t W (afterS t W (start 0 t) ps) (fairs W r))
      omega
  rw [h2, dn_done] at h1
  omega
end Go.Proofs.Ytcoijmnnnfogdaa.Stl


namespace Go.Proofs.Ytcoijmnnnfogdaa
set_option linter.unusedVariables false
set_option linter.unusedSimpArgs false
set_option maxRecDepth 100000
open Go.RowKit

namespace Stl
open Sp (T)
theorem right_log {t : T} {W : Nat} {s : S} {L : List (Nat × Int)} (h : Once t W s L) (hs : ∀ j, ¬ LD t s 0 j) (hl : t.size ≤ L.length) : ∃ ns : List Nat, L.map (·.2) = ns.map (fun n : Nat => (n : Int)) ∧ Rc.Right t ns := by
  obtain ⟨ns, hns⟩ : ∃ ns : List Nat, L.map (·.2) = ns.map fun n : Nat => (n : Int) := by
    refine ⟨L.map fun x => x.2.toNat, ?_⟩
    rw [List.map_map]
    refine List.map_congr_left fun x hx => ?_
    obtain ⟨j, hj, -, -⟩ := h.leaf x hx
    simp only [Function.comp]
    omega
  have hnd : ns.Nodup := Rc.nodup_ints.1 (by rw [← hns]; exact h.nodup)
  have hlt : ∀ x ∈ ns, x < t.size := fun x hx => by
    have : (x : Int) ∈ L.map (·.2) := by rw [hns]; exact List.mem_map.2 ⟨x, hx, rfl⟩
    obtain ⟨y, hy, e⟩ := List.mem_map.1 this
    obtain ⟨j, hj, hj2, -⟩ := h.leaf y hy
    omega
  have hlen : ns.length = L.length := by
    have := congrArg List.length hns
    simpa using this.symm
  have hle : ns.length ≤ t.size := by
    have := hnd.length_le_of_subset (l₂ := List.range t.size) (fun y hy => List.mem_range.2 (hlt y hy))
    simpa using this
  refine ⟨ns, hns, by omega, hlt, hnd, fun i j hij hj hr => ?_⟩
  have hall : j ∈ ns := by
    refine Decidable.byContradiction fun hn => ?_
    have h1 := (List.nodup_cons.2 ⟨hn, hnd⟩).length_le_of_subset (l₂ := List.range t.size) (fun y hy => by
      rcases List.mem_cons.1 hy with rfl | hy
      · exact List.mem_range.2 hj
      · exact List.mem_range.2 (hlt y hy))
    simp at h1
    omega
  obtain ⟨p, hp⟩ := List.getElem?_of_mem hall
  have hgo : ∀ q : Nat, (L[q]?.map fun x => x.2) = ns[q]?.map fun n : Nat => (n : Int) := fun q => by
    have := congrArg (·[q]?) hns
    simpa using this
  have hLp := hgo p
  rw [hp] at hLp
  obtain ⟨x, hx, hxj⟩ := Option.map_eq_some_iff.1 hLp
  have hb : t.bf i x.2.toNat := by
    rw [hxj]
    exact ⟨hij, hr⟩
  rcases h.ahead p x hx i hb with h1 | ⟨q, y, hq, hy, hyi⟩
  · exact absurd h1 (hs i)
  · have hLq := hgo q
    rw [hy] at hLq
    obtain ⟨n, hn, e⟩ := Option.map_eq_some_iff.1 hLq.symm
    have hni : n = i := by
      have : (n : Int) = (i : Int) := e.trans hyi
      omega
    subst hni
    rw [Rc.pos_eq hnd hn, Rc.pos_eq hnd hp]
    exact hq
end Stl

theorem two_push {w w' : World} {B s1 s2 n1 n2 : Nat} {e1 e2 : TypeId} {v1 v2 v' : Value} {xs1 xs2 : List Value} (h1 : w.ownsRow B e1 s1 v1 n1 xs1) (h2 : w.ownsRow B e2 s2 v2 n2 xs2) (hap : ∀ i, v1.ownBlock = some i → v2.ownBlock ≠ some i) (hg : w.grownBy w' v1.ownBlock) (hv : v'.ownBlock = v1.ownBlock ∨ v'.ownBlock = some (w.heap.size + 1)) :
    w'.ownsRow B e2 s2 v2 n2 xs2 ∧ ∀ i, v'.ownBlock = some i → v2.ownBlock ≠ some i := by
  refine ⟨own_keeps h2 (Keeps.of_grown hg) (fun g e1 e2 => hap g e2.symm e1), fun i hi => ?_⟩
  rcases hv with e | e
  · exact hap i (e ▸ hi)
  · rw [e] at hi
    injection hi with hi
    intro e2
    have := (h2.lt i e2).2
    omega
end Go.Proofs.Ytcoijmnnnfogdaa


namespace Go.Proofs.Ytcoijmnnnfogdaa
set_option linter.unusedVariables false
set_option linter.unusedSimpArgs false
set_option maxRecDepth 100000
open Go.RowKit

theorem before_nat {t : Sp.T} {a b : Nat} (ha : a < t.size) (hb : b < t.size) : t.before (a : Int) (b : Int) = decide (t.bf a b) := by
  unfold Sp.T.before
  rw [Bool.eq_iff_iff]
  simp
  omega

theorem concat3 (w : World) (v1 v2 : Value) (l1 l2 : List Int) (x y : Int) (h1 : SlV w 1 v1 l1.length (ints .i64 l1)) (h2 : SlV w 1 v2 l2.length (ints .i64 l2)) (hsz : l1.length + l2.length ≤ 1000000000) :
    Calls Try.prog 34 #[.slice (some ⟨w.heap.size + 1, 0, none⟩) 3 3] ((w.alloc (.cells #[.int .i64 x, .int .i64 y] 3)).alloc (.cells #[v1, .slice (some ⟨w.heap.size, 0, none⟩) 2 2, v2] 33)) fun e w' => ∃ u, e = .returned u ∧ w'.ownsRow w.heap.size 3 1 u (l1 ++ ([x, y] ++ l2)).length (ints .i64 (l1 ++ ([x, y] ++ l2))) ∧ Below w.heap.size w w' := by
  have e1 := SlV.lit w [.int .i64 x, .int .i64 y] 3 1 2 rfl (by decide)
  have e2 := SlV.lit (w.alloc (.cells #[.int .i64 x, .int .i64 y] 3)) [v1, .slice (some ⟨w.heap.size, 0, none⟩) 2 2, v2] 33 1 3 rfl (by decide)
  rw [show (w.alloc (.cells #[.int .i64 x, .int .i64 y] 3)).heap.size = w.heap.size + 1 by simp] at e2
  have hb2 : Below w.heap.size w ((w.alloc (.cells #[.int .i64 x, .int .i64 y] 3)).alloc (.cells #[v1, .slice (some ⟨w.heap.size, 0, none⟩) 2 2, v2] 33)) := below_alloc (below_alloc (Below.refl _ _) _) _
  have hfl : [l1, [x, y], l2].flatten = l1 ++ ([x, y] ++ l2) := by simp
  have hb1 : w.heap.size ≤ ((w.alloc (.cells #[.int .i64 x, .int .i64 y] 3)).alloc (.cells #[v1, .slice (some ⟨w.heap.size, 0, none⟩) 2 2, v2] 33)).heap.size := hb2.size
  refine (concat_intsJ [v1, .slice (some ⟨w.heap.size, 0, none⟩) 2 2, v2] [l1, [x, y], l2] _ _ e2 ⟨rfl, fun k a hk => ?_⟩ (by rw [hfl]; simp; omega)).mono ?_
  · match k, hk with
    | 0, hk =>
      injection hk with hk
      subst hk
      exact ⟨_, rfl, h1.below hb2⟩
    | 1, hk =>
      injection hk with hk
      subst hk
      exact ⟨_, rfl, e1.alloc _⟩
    | 2, hk =>
      injection hk with hk
      subst hk
      exact ⟨_, rfl, h2.below hb2⟩
    | k + 3, hk => simp at hk
  · rintro e w' ⟨u, h3, h4, h5⟩
    rw [hfl] at h4
    exact ⟨u, h3, own_base h4 hb1, below_self hb2 h5⟩

def ilL (l : List Nat) : List Value := ints .i64 (l.map fun n : Nat => (n : Int))
theorem ilL_append (a b : List Nat) : ilL (a ++ b) = ilL a ++ ilL b := by simp [ilL, ints]
def apI (t : Sp.T) (a b : Nat) : List Int := (Rc.apL t a b).map fun n : Nat => (n : Int)
/-- what Apart answers -/
inductive ApPost (t : Sp.T) (i j : Int) (w : World) (e : Ending) (w' : World) : Prop
  | yes (a b : Nat) (u1 u2 : Value) : i = a → j = b → Rc.Apt t a b → e = .returned (.tuple #[u1, u2, .int .i64 0]) → w'.ownsRow w.heap.size 3 1 u1 (apI t a b).length (ints .i64 (apI t a b)) → w'.ownsRow w.heap.size 3 1 u2 (apI t b a).length (ints .i64 (apI t b a)) → Below w.heap.size w w' → ApPost t i j w e w'
  | no (c : Int) : c ≠ 0 → (∀ a b : Nat, i = a → j = b → ¬ Rc.Apt t a b) → e = .returned (.tuple #[.slice none 0 0, .slice none 0 0, .int .i64 c]) → Below w.heap.size w w' → ApPost t i j w e w'

set_option maxRecDepth 20000 in
set_option maxHeartbeats 8000000 in
theorem race_apart (t : Sp.T) (i j : Int) (w : World) (cs : List Value) (hT : TmR w.heap.size w cs t) (hn : t.size ≤ 1048576) :
    Calls Try.prog 15 #[.agg cs.toArray, .int .i64 i, .int .i64 j] w (ApPost t i j w) := by
  obtain ⟨a0, a1, a2, a3, A4, a5, a6, rfl, -, -⟩ := hT.form
  have x0 := Blk.new w 26 [.int .i64 a0, .int .i64 a1, .bool a2, .int .i64 a3, .slice A4 a5 a6]
  unfold tcells at hT ⊢
  have hb0 : Below w.heap.size w (w.alloc (.cells [Value.int .i64 a0, .int .i64 a1, .bool a2, .int .i64 a3, .slice A4 a5 a6].toArray 26)) := below_alloc (Below.refl _ _) _
  go_enter Try.func15, Try.ntmps15
  go_wp2_with fail
  obtain ⟨q, hq⟩ : ∃ q, q = w.heap.size := ⟨_, rfl⟩
  have hT0 := tm_up (hT.later hb0) hb0.size
  generalize (w.alloc (.cells [Value.int .i64 a0, .int .i64 a1, .bool a2, .int .i64 a3, .slice A4 a5 a6].toArray 26)) = W0 at x0 hb0 hT0 ⊢
  rw [← hq] at x0 ⊢
  refine (marks_any _ _ t hT0 (by omega)).mono ?_
  rintro e w1 ⟨pm, rfl, -, -, hb1⟩
  have hX := Boxed.of (x0.below hb1) (hT0.later hb1) hb1.size
  have hbw := below_next hb1 hb0
  obtain ⟨⟨c0, c1, c2, c3, c4⟩, hT1⟩ := hX.look _ (Below.refl _ _)
  clear x0 hb0 hT0 hb1 hq hT
  obtain ⟨N, hN⟩ : ∃ N, N = t.size := ⟨_, rfl⟩
  rw [← hN] at hn ⊢
  have HN := Lib.hid hN
  clear hN
  have HW := Lib.hid hbw
  clear hbw
  by_cases h1 : i < 0
  · have g1 : decide (i < 0) = true := by simpa using h1
    go_wp2_with fail
    go_ret3
    exact .no 7 (by decide) (fun a b ha _ => by omega) rfl HW.out
  obtain ⟨a, rfl⟩ := Int.eq_ofNat_of_zero_le (show 0 ≤ i by omega)
  have g1 : decide ((a : Int) < 0) = false := by simp
  by_cases h2 : j < 0
  · have g2 : decide (j < 0) = true := by simpa using h2
    go_wp2_with fail
    go_ret3
    exact .no 7 (by decide) (fun a b _ hb => by omega) rfl HW.out
  obtain ⟨b, rfl⟩ := Int.eq_ofNat_of_zero_le (show 0 ≤ j by omega)
  have g2 : decide ((b : Int) < 0) = false := by simp
  by_cases h3 : N ≤ a
  · have g3 : decide (N ≤ a) = true := by simpa using h3
    go_wp2_with fail
    go_ret3
    exact .no 7 (by decide) (fun a' b' ha _ h => by have := h.la; have := HN.out; omega) rfl HW.out
  have g3 : decide (N ≤ a) = false := by simpa using h3
  by_cases h4 : N ≤ b
  · have g4 : decide (N ≤ b) = true := by simpa using h4
    go_wp2_with fail
    go_ret3
    exact .no 7 (by decide) (fun a' b' _ hb h => by have := h.lb; have := HN.out; omega) rfl HW.out
  have g4 : decide (N ≤ b) = false := by simpa using h4
  have ha : a < N := by omega
  have hb : b < N := by omega
  clear h1 h2 h3 h4
  have gB : ∀ (x y : Nat) w', x < N → y < N → Below w1.heap.size w1 w' → Calls Try.prog 33 #[.agg #[.int .i64 a0, .int .i64 a1, .bool a2, .int .i64 a3, .slice A4 a5 a6], .int .i64 (x : Int), .int .i64 (y : Int)] w' fun e w'' => e = .returned (.bool (decide (t.bf x y))) ∧ Below w'.heap.size w' w'' := fun x y w' hx hy hb' => by
    rw [← before_nat (t := t) (by rw [← HN.out]; exact hx) (by rw [← HN.out]; exact hy)]
    exact before_any w' _ t x y (hX.look _ hb').2 (by rw [← HN.out]; omega)
  have keepS : ∀ w', Below w1.heap.size w1 w' → (w'.cell? ⟨q, 0, none⟩ = some (.int .i64 a0) ∧ w'.cell? ⟨q, 1, none⟩ = some (.int .i64 a1) ∧ w'.cell? ⟨q, 2, none⟩ = some (.bool a2) ∧ w'.cell? ⟨q, 3, none⟩ = some (.int .i64 a3) ∧ w'.cell? ⟨q, 4, none⟩ = some (.slice A4 a5 a6)) := fun w' hb => (hX.look _ hb).1
  have HG := Lib.hid (And.intro gB keepS)
  clear gB keepS hX hT1
  by_cases hab : a = b
  · subst hab
    go_wp2_with fail
    go_ret3
    exact .no 1 (by decide) (fun a' b' h1 h2 h => h.ne (by omega)) rfl HW.out
  have g5 : ((a : Int) == (b : Int)) = false := by rw [beq_eq_false_iff_ne]; omega
  have g5' : (a == b) = false := by rw [beq_eq_false_iff_ne]; exact hab
  have gB1 := HG.out.1 a b w1 ha hb (Below.refl _ _)
  rcases hf : decide (t.bf a b) with _ | _
  rotate_left
  · rw [hf] at gB1
    go_wp2_with fail
    refine gB1.mono ?_
    rintro e w2 ⟨rfl, hb2⟩
    have hbE := below_self HW.out hb2
    clear gB1 hb2
    go_wp2_with fail
    go_ret3
    exact .no 1 (by decide) (fun a' b' h1 h2 h => h.ab (by
      have := of_decide_eq_true hf
      rwa [show a' = a by omega, show b' = b by omega])) rfl hbE
  rw [hf] at gB1
  go_wp2_with fail
  refine gB1.mono ?_
  rintro e w2 ⟨rfl, hb2⟩
  have gB2 := HG.out.1 b a w2 hb ha hb2
  obtain ⟨d0, d1, d2, d3, d4⟩ := HG.out.2 w2 hb2
  clear gB1 c0 c1 c2 c3 c4
  rcases hg : decide (t.bf b a) with _ | _
  rotate_left
  · rw [hg] at gB2
    go_wp2_with fail
    refine gB2.mono ?_
    rintro e w3 ⟨rfl, hb3⟩
    have hbE := below_self (below_self HW.out hb2) hb3
    clear gB2 hb2 hb3
    go_wp2_with fail
    go_ret3
    exact .no 1 (by decide) (fun a' b' h1 h2 h => h.ba (by
      have := of_decide_eq_true hg
      rwa [show a' = a by omega, show b' = b by omega])) rfl hbE
  rw [hg] at gB2
  go_wp2_with fail
  refine gB2.mono ?_
  rintro e w3 ⟨rfl, hb3⟩
  have hb13 := below_self hb2 hb3
  have hapt : Rc.Apt t a b := ⟨by rw [← HN.out]; exact ha, by rw [← HN.out]; exact hb, hab, of_decide_eq_false hf, of_decide_eq_false hg⟩
  have HA := Lib.hid (And.intro hapt hb13)
  clear gB2 d0 d1 d2 d3 d4 hb2 hb3 hb13 hapt hf hg
  go_wp2_with fail
  go_loopw [10, 11, 50] (fun od bd i wr => ∃ k : Nat, k ≤ N ∧ i = .int .i64 (k : Int) ∧ Below w3.heap.size w3 wr ∧ wr.ownsRow w3.heap.size 3 1 od (Rc.ahL t a b k).length (ilL (Rc.ahL t a b k)) ∧ wr.ownsRow w3.heap.size 3 1 bd (Rc.bhL t a b k).length (ilL (Rc.bhL t a b k)) ∧ ∀ i, od.ownBlock = some i → bd.ownBlock ≠ some i) (fun _ _ i _ => N - (intOf i).toNat)
  case atStart => exact ⟨0, Nat.zero_le _, rfl, Below.refl _ _, World.ownsRow_nil _ _ _ _, World.ownsRow_nil _ _ _ _, fun i h => by simp [Value.ownBlock] at h⟩
  case round =>
    obtain ⟨k, hk, rfl, hb3, ho1, ho2, hap⟩ := hrel
    by_cases hlt : k < N
    · have hb13 := below_self HA.out.2 hb3
      obtain ⟨c0, c1, c2, c3, c4⟩ := HG.out.2 wr hb13
      have hs1 := Rc.ahL_succ t a b k
      have hs2 := Rc.bhL_succ t a b k
      have l1 := Rc.ahL_len t a b k
      have l2 := Rc.bhL_len t a b k
      have hd1 : Rc.ahd t a b k = (!(k == a || k == b) && (decide (t.bf k a) || decide (t.bf k b))) := rfl
      have hd2 : Rc.bhd t a b k = (!(k == a || k == b) && !(decide (t.bf k a) || decide (t.bf k b))) := rfl
      have HM := Lib.hid (show ((Rc.ahL t a b k).length + 1 ≤ maxLen ∧ ((Rc.ahL t a b k).length + 1) * 8 ≤ 140737488355328) ∧ ((Rc.bhL t a b k).length + 1 ≤ maxLen ∧ ((Rc.bhL t a b k).length + 1) * 8 ≤ 140737488355328) by unfold maxLen; omega)
      have gB1 := HG.out.1 k a wr hlt ha hb13
      have hsz0 := hb3.size
      clear l1 l2
      by_cases hka : k = a
      · subst hka
        have hkk : (k == k) = true := by simp
        rw [hkk] at hd1 hd2
        simp at hd1 hd2
        rw [hd1] at hs1
        rw [hd2] at hs2
        have HZ := Lib.hid (And.intro ho1 (And.intro ho2 (And.intro hb3 hap)))
        have HS := Lib.hid (And.intro hs1 hs2)
        clear ho1 ho2 hap hb3 hs1 hs2 hd1 hd2 gB1 hb13
        go_wp2_with fail
        go_roundw
        case rel => exact ⟨k + 1, by omega, by go_num, HZ.out.2.2.1, by rw [HS.out.1]; simpa using HZ.out.1, by rw [HS.out.2]; simpa using HZ.out.2.1, HZ.out.2.2.2⟩
        case measure => simp [intOf]; omega
      have ga : (k == a) = false := by rw [beq_eq_false_iff_ne]; exact hka
      have ga' : ((k : Int) == (a : Int)) = false := by rw [beq_eq_false_iff_ne]; omega
      rw [ga] at hd1 hd2
      by_cases hkb : k = b
      · subst hkb
        have hkk : (k == k) = true := by simp
        rw [hkk] at hd1 hd2
        simp at hd1 hd2
        rw [hd1] at hs1
        rw [hd2] at hs2
        have HZ := Lib.hid (And.intro ho1 (And.intro ho2 (And.intro hb3 hap)))
        have HS := Lib.hid (And.intro hs1 hs2)
        clear ho1 ho2 hap hb3 hs1 hs2 hd1 hd2 gB1 hb13
        go_wp2_with fail
        go_roundw
        case rel => exact ⟨k + 1, by omega, by go_num, HZ.out.2.2.1, by rw [HS.out.1]; simpa using HZ.out.1, by rw [HS.out.2]; simpa using HZ.out.2.1, HZ.out.2.2.2⟩
        case measure => simp [intOf]; omega
      have gb : (k == b) = false := by rw [beq_eq_false_iff_ne]; exact hkb
      have gb' : ((k : Int) == (b : Int)) = false := by rw [beq_eq_false_iff_ne]; omega
      rw [gb] at hd1 hd2
      rcases hfa : decide (t.bf k a) with _ | _
      rotate_left
      · rw [hfa] at gB1 hd1 hd2
        simp only [Bool.or_false, Bool.false_or, Bool.not_false, Bool.not_true, Bool.true_and, Bool.true_or, Bool.and_false] at hd1 hd2
        rw [hd1, if_pos rfl] at hs1
        rw [hd2] at hs2
        have HS := Lib.hid (And.intro hs1 hs2)
        clear hs1 hs2 hd1 hd2 hb13
        go_wp2_with fail
        refine gB1.mono ?_
        rintro e w5 ⟨rfl, hb5⟩
        have hb35 := below_self hb3 hb5
        have hq1 := own_keeps ho1 (Keeps.of_below hb5 (fun _ => False)) (fun _ _ => id)
        have hq2 := own_keeps ho2 (Keeps.of_below hb5 (fun _ => False)) (fun _ _ => id)
        have hsz5 := hb35.size
        clear gB1 hb5 ho1 ho2 hb3 c0 c1 c2 c3 c4
        go_wp2_with (at_builtin; refine wp_push_at _ _ _ _ (by first | rfl | simp) _ _ _ _ _ _ Try.underlying33 info_rc rfl (by decide) hq1 [.int .i64 (k : Int)] rfl (by simp [Value.oneCell']) HM.out.1.1 HM.out.1.2 hsz5 rfl rfl rfl rfl ?_; intro v7 w7 hr7 hg7 hv7 hb7)
        obtain ⟨ho7, hap7⟩ := two_push hq1 hq2 hap hg7 hv7
        have HZ := Lib.hid (And.intro hr7 (And.intro ho7 (And.intro (hb35.trans hb7) hap7)))
        clear hr7 hg7 hv7 hb7 ho7 hap7
        go_roundw
        case rel => exact ⟨k + 1, by omega, by go_num, HZ.out.2.2.1, by rw [HS.out.1]; simpa [ilL, ints] using HZ.out.1, by rw [HS.out.2]; simpa using HZ.out.2.1, HZ.out.2.2.2⟩
        case measure => simp [intOf]; omega
      rw [hfa] at gB1 hd1 hd2
      have gB2 : ∀ w5, Below wr.heap.size wr w5 → Calls Try.prog 33 #[.agg #[.int .i64 a0, .int .i64 a1, .bool a2, .int .i64 a3, .slice A4 a5 a6], .int .i64 (k : Int), .int .i64 (b : Int)] w5 fun e w'' => e = .returned (.bool (decide (t.bf k b))) ∧ Below w5.heap.size w5 w'' := fun w5 hb5 => HG.out.1 k b w5 hlt hb (below_self hb13 hb5)
      have hlk : ∀ w5, Below wr.heap.size wr w5 → (w5.cell? ⟨q, 0, none⟩ = some (.int .i64 a0) ∧ w5.cell? ⟨q, 1, none⟩ = some (.int .i64 a1) ∧ w5.cell? ⟨q, 2, none⟩ = some (.bool a2) ∧ w5.cell? ⟨q, 3, none⟩ = some (.int .i64 a3) ∧ w5.cell? ⟨q, 4, none⟩ = some (.slice A4 a5 a6)) := fun w5 hb5 => HG.out.2 w5 (below_self hb13 hb5)
      rcases hfb : decide (t.bf k b) with _ | _
      · rw [hfb] at gB2 hd1 hd2
        simp only [Bool.or_false, Bool.false_or, Bool.not_false, Bool.not_true, Bool.true_and, Bool.true_or, Bool.or_true, Bool.and_false, Bool.and_true] at hd1 hd2
        rw [hd1] at hs1
        rw [hd2, if_pos rfl] at hs2
        have HS := Lib.hid (And.intro hs1 hs2)
        have HL := Lib.hid (And.intro gB2 hlk)
        clear hs1 hs2 hd1 hd2 hb13 gB2 hlk
        go_wp2_with fail
        refine gB1.mono ?_
        rintro e w5 ⟨rfl, hb5⟩
        obtain ⟨d0, d1, d2, d3, d4⟩ := HL.out.2 w5 hb5
        have gB3 := HL.out.1 w5 hb5
        clear gB1 c0 c1 c2 c3 c4
        go_wp2_with fail
        refine gB3.mono ?_
        rintro e w6 ⟨rfl, hb6⟩
        have hb56 := below_self hb5 hb6
        have hb35 := below_self hb3 hb56
        have hq1 := own_keeps ho1 (Keeps.of_below hb56 (fun _ => False)) (fun _ _ => id)
        have hq2 := own_keeps ho2 (Keeps.of_below hb56 (fun _ => False)) (fun _ _ => id)
        have hsz5 := hb35.size
        clear gB3 hb5 hb6 hb56 ho1 ho2 hb3 d0 d1 d2 d3 d4
        go_wp2_with (at_builtin; refine wp_push_at _ _ _ _ (by first | rfl | simp) _ _ _ _ _ _ Try.underlying33 info_rc rfl (by decide) hq2 [.int .i64 (k : Int)] rfl (by simp [Value.oneCell']) HM.out.2.1 HM.out.2.2 hsz5 rfl rfl rfl rfl ?_; intro v7 w7 hr7 hg7 hv7 hb7)
        obtain ⟨ho7, hap7⟩ := two_push hq2 hq1 (fun i h1 h2 => hap i h2 h1) hg7 hv7
        have HZ := Lib.hid (And.intro ho7 (And.intro hr7 (And.intro (hb35.trans hb7) (fun i h1 h2 => hap7 i h2 h1))))
        clear hr7 hg7 hv7 hb7 ho7 hap7
        go_roundw
        case rel => exact ⟨k + 1, by omega, by go_num, HZ.out.2.2.1, by rw [HS.out.1]; simpa using HZ.out.1, by rw [HS.out.2]; simpa [ilL, ints] using HZ.out.2.1, HZ.out.2.2.2⟩
        case measure => simp [intOf]; omega
      · rw [hfb] at gB2 hd1 hd2
        simp only [Bool.or_false, Bool.false_or, Bool.not_false, Bool.not_true, Bool.true_and, Bool.true_or, Bool.or_true, Bool.and_false, Bool.and_true] at hd1 hd2
        rw [hd1, if_pos rfl] at hs1
        rw [hd2] at hs2
        have HS := Lib.hid (And.intro hs1 hs2)
        have HL := Lib.hid (And.intro gB2 hlk)
        clear hs1 hs2 hd1 hd2 hb13 gB2 hlk
        go_wp2_with fail
        refine gB1.mono ?_
        rintro e w5 ⟨rfl, hb5⟩
        obtain ⟨d0, d1, d2, d3, d4⟩ := HL.out.2 w5 hb5
        have gB3 := HL.out.1 w5 hb5
        clear gB1 c0 c1 c2 c3 c4
        go_wp2_with fail
        refine gB3.mono ?_
        rintro e w6 ⟨rfl, hb6⟩
        have hb56 := below_self hb5 hb6
        have hb35 := below_self hb3 hb56
        have hq1 := own_keeps ho1 (Keeps.of_below hb56 (fun _ => False)) (fun _ _ => id)
        have hq2 := own_keeps ho2 (Keeps.of_below hb56 (fun _ => False)) (fun _ _ => id)
        have hsz5 := hb35.size
        clear gB3 hb5 hb6 hb56 ho1 ho2 hb3 d0 d1 d2 d3 d4
        go_wp2_with (at_builtin; refine wp_push_at _ _ _ _ (by first | rfl | simp) _ _ _ _ _ _ Try.underlying33 info_rc rfl (by decide) hq1 [.int .i64 (k : Int)] rfl (by simp [Value.oneCell']) HM.out.1.1 HM.out.1.2 hsz5 rfl rfl rfl rfl ?_; intro v7 w7 hr7 hg7 hv7 hb7)
        obtain ⟨ho7, hap7⟩ := two_push hq1 hq2 hap hg7 hv7
        have HZ := Lib.hid (And.intro hr7 (And.intro ho7 (And.intro (hb35.trans hb7) hap7)))
        clear hr7 hg7 hv7 hb7 ho7 hap7
        go_roundw
        case rel => exact ⟨k + 1, by omega, by go_num, HZ.out.2.2.1, by rw [HS.out.1]; simpa [ilL, ints] using HZ.out.1, by rw [HS.out.2]; simpa using HZ.out.2.1, HZ.out.2.2.2⟩
        case measure => simp [intOf]; omega
    · obtain rfl : N = k := by omega
      obtain ⟨A1, d1, rfl, hd1, hm1⟩ := own_slice ho1
      obtain ⟨A2, d2, rfl, hd2, hm2⟩ := own_slice ho2
      have l1 := Rc.ahL_len t a b N
      have l2 := Rc.bhL_len t a b N
      have s1 := SlV.of_own ho1
      have s2 := SlV.of_own ho2
      have hbF := below_self (below_self HW.out HA.out.2) hb3
      have hwr := hbF.size
      obtain ⟨X1, hX1⟩ : ∃ X, X = (Rc.ahL t a b N).length := ⟨_, rfl⟩
      obtain ⟨X2, hX2⟩ : ∃ X, X = (Rc.bhL t a b N).length := ⟨_, rfl⟩
      rw [← hX1] at s1 hd1 l1 ⊢
      rw [← hX2] at s2 hd2 l2 ⊢
      unfold maxLen at hm1 hm2
      have q1 : ((Rc.ahL t a b N).map fun n : Nat => (n : Int)).length = X1 := by rw [List.length_map, hX1]
      have q2 : ((Rc.bhL t a b N).map fun n : Nat => (n : Int)).length = X2 := by rw [List.length_map, hX2]
      have gC : ∀ (w' : World) (x y : Nat), Below wr.heap.size wr w' → Calls Try.prog 34 #[.slice (some ⟨w'.heap.size + 1, 0, none⟩) 3 3] ((w'.alloc (.cells #[.int .i64 (x : Int), .int .i64 (y : Int)] 3)).alloc (.cells #[.slice A1 X1 d1, .slice (some ⟨w'.heap.size, 0, none⟩) 2 2, .slice A2 X2 d2] 33)) fun e w'' => ∃ u, e = .returned u ∧ w''.ownsRow wr.heap.size 3 1 u (Rc.ahL t a b N ++ ([x, y] ++ Rc.bhL t a b N)).length (ilL (Rc.ahL t a b N ++ ([x, y] ++ Rc.bhL t a b N))) ∧ Below w'.heap.size w' w'' := fun w' x y hb' => by
        have z1 := s1.below hb'
        have z2 := s2.below hb'
        refine (concat3 w' (.slice A1 X1 d1) (.slice A2 X2 d2) ((Rc.ahL t a b N).map fun n : Nat => (n : Int)) ((Rc.bhL t a b N).map fun n : Nat => (n : Int)) x y (by rw [q1]; exact z1) (by rw [q2]; exact z2) (by rw [q1, q2]; omega)).mono ?_
        rintro e w'' ⟨u, h3, h4, h5⟩
        refine ⟨u, h3, ?_, h5⟩
        have := own_base h4 hb'.size
        simpa [ilL, ints] using this
      have HC := Lib.hid gC
      have gC1 := gC wr a b (Below.refl _ _)
      clear s1 s2 gC hX1 hX2 q1 q2 ho1 ho2 hap hb3
      go_wp2_with fail
      refine gC1.mono ?_
      rintro e w5 ⟨u5, rfl, h5, hb5⟩
      obtain ⟨A5, d5, rfl, -, -⟩ := own_slice h5
      obtain ⟨L5, hL5⟩ : ∃ L, L = (Rc.ahL t a b N ++ ([a, b] ++ Rc.bhL t a b N)).length := ⟨_, rfl⟩
      rw [← hL5] at h5 ⊢
      have gC2 := HC.out w5 b a hb5
      have hbG := below_self hbF hb5
      have H5 := Lib.hid h5
      have HL5 := Lib.hid hL5
      clear gC1 hb5 hbF h5 hL5
      go_wp2_with fail
      refine gC2.mono ?_
      rintro e w6 ⟨u6, rfl, h6, hb6⟩
      obtain ⟨A6, d6, rfl, -, -⟩ := own_slice h6
      obtain ⟨L6, hL6⟩ : ∃ L, L = (Rc.ahL t a b N ++ ([b, a] ++ Rc.bhL t a b N)).length := ⟨_, rfl⟩
      rw [← hL6] at h6 ⊢
      have hbH := below_self hbG hb6
      have h5 := own_keeps H5.out (Keeps.of_below hb6 (fun _ => False)) (fun _ _ => id)
      have HL6 := Lib.hid hL6
      clear gC2 hb6 hbG hL6
      go_wp2_with fail
      go_ret3
      refine .yes a b _ _ rfl rfl HA.out.1 rfl ?_ ?_ hbH
      · unfold apI Rc.apL
        rw [List.length_map, ← HN.out, ← HL5.out]
        exact own_base h5 hwr
      · unfold apI Rc.apL Rc.ahL Rc.bhL
        rw [List.length_map, ← HN.out, Rc.ahd_comm t b a, Rc.bhd_comm t b a]
        change w6.ownsRow w.heap.size _ _ _ (Rc.ahL t a b N ++ ([b, a] ++ Rc.bhL t a b N)).length _
        rw [← HL6.out]
        exact own_base h6 hwr
end Go.Proofs.Ytcoijmnnnfogdaa


namespace Go.Proofs.Ytcoijmnnnfogdaa
set_option linter.unusedVariables false
set_option linter.unusedSimpArgs false
set_option maxRecDepth 100000
open Go.RowKit
theorem rc_equal (v v' : Value) (xs ys : List Int) (w : World) (h : SlV w 1 v xs.length (ints .i64 xs)) (h' : SlV w 1 v' ys.length (ints .i64 ys)) :
    Calls Try.prog 12 #[v, v'] w fun e w' => e = .returned (.bool (decide (xs = ys))) ∧ ∃ m, w' = w.drewN m := by
  obtain ⟨A, c, rfl, hle, hm, hlen, hc⟩ := h
  obtain ⟨A', c', rfl, hle', hm', hlen', hc'⟩ := h'
  clear hlen hlen'
  unfold maxLen at hm hm'
  by_cases hn : xs.length = ys.length
  · have hne : ((xs.length : Int) != ys.length) = false := by simp [hn]
    have HN := Lib.hid hn
    clear hn
    go_enter Try.func12, Try.ntmps12
    go_wp2
    go_loopw [13] (fun i wr => ∃ k : Nat, k ≤ xs.length ∧ i = .int .i64 k ∧ (∃ a, wr = w.drewN a) ∧ xs.take k = ys.take k) (fun i _ => xs.length - (intOf i).toNat)
    case atStart => exact ⟨0, Nat.zero_le _, rfl, ⟨0, rfl⟩, rfl⟩
    case round =>
      obtain ⟨k, hk, rfl, ⟨a, rfl⟩, ht⟩ := hrel
      have HT := Lib.hid ht
      clear ht
      by_cases hlt : k < xs.length
      · have hlt' : k < ys.length := by rw [← HN.out]; exact hlt
        obtain ⟨b, o, x, rfl, hb, hx, hcc⟩ := hc.one hlt
        obtain ⟨b', o', y, rfl, hb', hy, hcc'⟩ := hc'.one hlt'
        clear hc hc'
        have hsn : ∀ (z : Int) (l : List Int), l[k]? = some z → l.take (k + 1) = l.take k ++ [z] := fun z l h => by
          obtain ⟨h', rfl⟩ := List.getElem?_eq_some_iff.1 h
          exact List.take_succ_eq_append_getElem h'
        have HSN := Lib.hid hsn
        clear hsn
        rcases hg : x != y with _ | _
        · go_wp2
          go_quiet (fail)
          go_wp2
          go_roundw
          case rel => exact ⟨k + 1, by omega, by go_num, ⟨_, rfl⟩, by rw [HSN.out _ _ hx.out, HSN.out _ _ hy.out, HT.out, show x = y by simpa using hg]⟩
          case measure => simp [intOf]; omega
        · go_wp2
          go_quiet (fail)
          go_wp2
          go_ret
          refine ⟨ret_bool ?_, ⟨_, World.drewN_drewN _ _ _⟩⟩
          symm
          simp only [decide_eq_false_iff_not]
          rintro rfl
          rw [hx.out] at hy
          simp at hg
          exact hg (by simpa using hy.out)
      · have HK := Lib.hid (show k = xs.length by omega)
        clear hc hc'
        go_wp2
        go_ret
        refine ⟨ret_bool ?_, ⟨_, rfl⟩⟩
        symm
        simp only [decide_eq_true_eq]
        have := HT.out
        rw [HK.out, List.take_length, HN.out, List.take_length] at this
        exact this
  · have hne : ((xs.length : Int) != ys.length) = true := by simp; omega
    have hnl : xs ≠ ys := fun e => hn (by rw [e])
    have HNL := Lib.hid hnl
    clear hnl hc hc'
    go_enter Try.func12, Try.ntmps12
    go_wp2
    go_ret
    exact ⟨ret_bool (by simp [HNL.out]), ⟨0, rfl⟩⟩
end Go.Proofs.Ytcoijmnnnfogdaa


namespace Go.Proofs.Ytcoijmnnnfogdaa
set_option linter.unusedVariables false
set_option linter.unusedSimpArgs false
set_option maxRecDepth 100000
open Go.RowKit


set_option maxHeartbeats 2000000 in
theorem rc_pairs (v v' : Value) (xs ys : List (Nat × Nat)) (w : World) (h : SlV w 2 v xs.length (Sp.prcs xs)) (h' : SlV w 2 v' ys.length (Sp.prcs ys)) :
    Calls Try.prog 20 #[v, v'] w fun e w' => e = .returned (.bool (decide (xs = ys))) ∧ ∃ m, w' = w.drewN m := by
  obtain ⟨A, c, rfl, hle, hm, hlen, hc⟩ := h
  obtain ⟨A', c', rfl, hle', hm', hlen', hc'⟩ := h'
  clear hlen hlen'
  unfold maxLen at hm hm'
  by_cases hn : xs.length = ys.length
  · have hne : ((xs.length : Int) != ys.length) = false := by simp [hn]
    have HN := Lib.hid hn
    clear hn
    go_enter Try.func20, Try.ntmps20
    go_wp2
    go_loopw [13] (fun i wr => ∃ k : Nat, k ≤ xs.length ∧ i = .int .i64 k ∧ (∃ a, wr = w.drewN a) ∧ xs.take k = ys.take k) (fun i _ => xs.length - (intOf i).toNat)
    case atStart => exact ⟨0, Nat.zero_le _, rfl, ⟨0, rfl⟩, rfl⟩
    case round =>
      obtain ⟨k, hk, rfl, ⟨a, rfl⟩, ht⟩ := hrel
      have HT := Lib.hid ht
      clear ht
      by_cases hlt : k < xs.length
      · have hlt' : k < ys.length := by rw [← HN.out]; exact hlt
        obtain ⟨⟨x1, x2⟩, hx⟩ : ∃ x, xs[k]? = some x := ⟨_, List.getElem?_eq_getElem hlt⟩
        obtain ⟨⟨y1, y2⟩, hy⟩ : ∃ x, ys[k]? = some x := ⟨_, List.getElem?_eq_getElem hlt'⟩
        obtain ⟨gx1, gx2⟩ := Sp.prcs_get _ _ _ hx
        obtain ⟨gy1, gy2⟩ := Sp.prcs_get _ _ _ hy
        obtain ⟨b, o, rfl, hb, hcc⟩ := hc.at_ (fun e => by rw [e] at gx1; simp at gx1)
        obtain ⟨b', o', rfl, hb', hcc'⟩ := hc'.at_ (fun e => by rw [e] at gy1; simp at gy1)
        have c1 := hcc _ _ gx1
        have c2 := hcc _ _ gx2
        have d1 := hcc' _ _ gy1
        have d2 := hcc' _ _ gy2
        rw [← Nat.add_assoc] at c2 d2
        have HX := Lib.hid hx
        have HY := Lib.hid hy
        clear hc hc' hcc hcc' hx hy gx1 gx2 gy1 gy2
        by_cases e : x1 = y1 ∧ x2 = y2
        · obtain ⟨rfl, rfl⟩ := e
          go_wp2
          go_quiet (fail)
          go_wp2
          go_roundw
          case rel => exact ⟨k + 1, by omega, by go_num, ⟨_, rfl⟩, Sp.take_snoc_eq HX.out HY.out HT.out rfl⟩
          case measure => simp [intOf]; omega
        · have hnl : xs ≠ ys := Sp.ne_of_get HX.out HY.out (fun h => by injection h with h1 h2; exact e ⟨h1, h2⟩)
          have HNL := Lib.hid hnl
          obtain ⟨X1, hX1⟩ : ∃ z : Int, z = x1 := ⟨_, rfl⟩
          obtain ⟨X2, hX2⟩ : ∃ z : Int, z = x2 := ⟨_, rfl⟩
          obtain ⟨Y1, hY1⟩ : ∃ z : Int, z = y1 := ⟨_, rfl⟩
          obtain ⟨Y2, hY2⟩ : ∃ z : Int, z = y2 := ⟨_, rfl⟩
          have he : (X1 == Y1 && X2 == Y2) = false := by
            rw [Bool.eq_false_iff]
            intro h
            simp only [Bool.and_eq_true, beq_iff_eq] at h
            exact e ⟨by omega, by omega⟩
          rw [← hX1] at c1
          rw [← hX2] at c2
          rw [← hY1] at d1
          rw [← hY2] at d2
          clear e hnl hX1 hX2 hY1 hY2
          rcases h1 : X1 == Y1 with _ | _
          · clear he
            go_wp2
            go_quiet (fail)
            go_wp2
            go_ret
            exact ⟨ret_bool (by simp [HNL.out]), ⟨_, World.drewN_drewN _ _ _⟩⟩
          · have h2 : (X2 == Y2) = false := by rw [h1] at he; simpa using he
            clear he
            go_wp2
            go_quiet (fail)
            go_wp2
            go_ret
            exact ⟨ret_bool (by simp [HNL.out]), ⟨_, World.drewN_drewN _ _ _⟩⟩
      · have HK := Lib.hid (show k = xs.length by omega)
        clear hc hc'
        go_wp2
        go_ret
        refine ⟨ret_bool ?_, ⟨_, rfl⟩⟩
        symm
        simp only [decide_eq_true_eq]
        have := HT.out
        rw [HK.out, List.take_length, HN.out, List.take_length] at this
        exact this
  · have hne : ((xs.length : Int) != ys.length) = true := by simp; omega
    have hnl : xs ≠ ys := fun e => hn (by rw [e])
    have HNL := Lib.hid hnl
    clear hnl hc hc'
    go_enter Try.func20, Try.ntmps20
    go_wp2
    go_ret
    exact ⟨ret_bool (by simp [HNL.out]), ⟨0, rfl⟩⟩

end Go.Proofs.Ytcoijmnnnfogdaa


namespace Go.Proofs.Ytcoijmnnnfogdaa
set_option linter.unusedVariables false
set_option linter.unusedSimpArgs false
set_option maxRecDepth 100000
open Go.RowKit

def five : Sp.T := .two false (.two true (.one 1 false 0) (.one 2 false 0)) (.one 3 false 0)
theorem leaf_any (n : Int) (w : World) : Calls Try.prog 22 #[.int .i64 n] w fun e w' => e = .returned (.agg #[.int .i64 1, .int .i64 n, .bool false, .int .i64 0, .slice none 0 0]) ∧ Below w.heap.size w w' := by
  go_enter Try.func22, Try.ntmps22
  have hB0 := Blk.new w 26 [.int .i64 0, .int .i64 0, .bool false, .int .i64 0, .slice none 0 0]
  go_wp2_with (refine wpl_put_blk hB0 [.int .i64 1, .int .i64 n, .bool false, .int .i64 0, .slice none 0 0] (by kernel_rfl) rfl (by intro v hv; simp only [List.mem_cons, List.not_mem_nil, or_false] at hv; rcases hv with rfl | rfl | rfl | rfl | rfl <;> rfl) rfl rfl rfl rfl ?_; intro w2 hB2 hg2)
  have hb : Below w.heap.size w w2 := (below_alloc (Below.refl _ _) _).trans (below_of_grown hg2 (by simp) (Nat.le_refl _))
  exact ret_blk hB2 rfl rfl Try.underlying26 rfl (by kernel_rfl) rfl ⟨rfl, hb⟩

end Go.Proofs.Ytcoijmnnnfogdaa


namespace Go.Proofs.Ytcoijmnnnfogdaa
set_option linter.unusedVariables false
set_option linter.unusedSimpArgs false
set_option maxRecDepth 100000
open Go.RowKit

theorem wr_any (n l : Int) (w : World) : Calls Try.prog 30 #[.int .i64 n, .int .i64 l] w fun e w' => e = .returned (.agg #[.int .i64 1, .int .i64 n, .bool true, .int .i64 l, .slice none 0 0]) ∧ Below w.heap.size w w' := by
  go_enter Try.func30, Try.ntmps30
  have hB0 := Blk.new w 26 [.int .i64 0, .int .i64 0, .bool false, .int .i64 0, .slice none 0 0]
  go_wp2_with (refine wpl_put_blk hB0 [.int .i64 1, .int .i64 n, .bool true, .int .i64 l, .slice none 0 0] (by kernel_rfl) rfl (by intro v hv; simp only [List.mem_cons, List.not_mem_nil, or_false] at hv; rcases hv with rfl | rfl | rfl | rfl | rfl <;> rfl) rfl rfl rfl rfl ?_; intro w2 hB2 hg2)
  have hb : Below w.heap.size w w2 := (below_alloc (Below.refl _ _) _).trans (below_of_grown hg2 (by simp) (Nat.le_refl _))
  exact ret_blk hB2 rfl rfl Try.underlying26 rfl (by kernel_rfl) rfl ⟨rfl, hb⟩

def rc3 : Sp.T := .two true (.one 1 true 4) (.two false (.one 1 false 0) (.one 2 true 3))
theorem rc3_size : rc3.size = 3 := by decide
theorem rc3_races : Rc.races rc3 = [(0, 1)] := by decide
theorem rc3_apt : Rc.Apt rc3 1 0 := ⟨by decide, by decide, by decide, by decide, by decide⟩
theorem rc3_ap : Rc.apL rc3 1 0 = [1, 0, 2] ∧ Rc.apL rc3 0 1 = [0, 1, 2] := ⟨by decide, by decide⟩
theorem rc3_see : Rc.seeL rc3 [1, 0, 2] = [-1, -1, -1] := by decide
theorem rc3_cells : Rc.cellsL rc3 = [1] := by
  unfold Rc.cellsL Rc.rcel
  rw [rc3_races]
  simp [srt, Rc.acc, rc3, Sp.T.leaves]
  rfl
theorem rc3_wfl : rc3.wfl := by
  intro a ha
  simp [rc3, Sp.T.leaves] at ha
  rcases ha with rfl | rfl | rfl <;> rfl

set_option maxRecDepth 20000 in
set_option maxHeartbeats 8000000 in
theorem alive15_any (w : World) : Calls Try.prog 13 #[] w fun e w' => e = .returned (.bool true) ∧ Below w.heap.size w w' := by
  go_enter Try.func13, Try.ntmps13
  go_wp2_with fail
  refine (wr_any 1 4 _).mono ?_
  rintro e w1 ⟨rfl, hb1⟩
  go_wp2_with fail
  refine (leaf_any 1 _).mono ?_
  rintro e w2 ⟨rfl, hb2⟩
  go_wp2_with fail
  refine (wr_any 2 3 _).mono ?_
  rintro e w3 ⟨rfl, hb3⟩
  have hb13 : Below w.heap.size w w3 := (by repeat (first | exact Below.refl _ _ | assumption | apply below_alloc | apply below_drew | (apply below_next; assumption)))
  clear hb1 hb2 hb3
  obtain ⟨x0, x1, x2, hz, hk⟩ := three_allocs w3 [.int .i64 1, .int .i64 1, .bool false, .int .i64 0, .slice none 0 0, .int .i64 1, .int .i64 2, .bool true, .int .i64 3, .slice none 0 0] [.int .i64 1, .int .i64 1, .bool true, .int .i64 4, .slice none 0 0, .int .i64 2, .int .i64 0, .bool false, .int .i64 0, .slice (some ⟨w3.heap.size, 0, none⟩) 2 2] [.int .i64 3, .int .i64 0, .bool false, .int .i64 0, .slice (some ⟨w3.heap.size + 1, 0, none⟩) 2 2] 26 26 26
  have hbW := hb13.trans (hk.below hb13.size (fun i h => h.elim))
  go_upto_region 2 with (fail)
  obtain ⟨q0, hq0⟩ : ∃ q, q = w3.heap.size := ⟨_, rfl⟩
  generalize (((w3.alloc (.cells [Value.int .i64 1, .int .i64 1, .bool false, .int .i64 0, .slice none 0 0, .int .i64 1, .int .i64 2, .bool true, .int .i64 3, .slice none 0 0].toArray 26)).alloc (.cells [Value.int .i64 1, .int .i64 1, .bool true, .int .i64 4, .slice none 0 0, .int .i64 2, .int .i64 0, .bool false, .int .i64 0, .slice (some ⟨w3.heap.size, 0, none⟩) 2 2].toArray 26)).alloc (.cells [Value.int .i64 3, .int .i64 0, .bool false, .int .i64 0, .slice (some ⟨w3.heap.size + 1, 0, none⟩) 2 2].toArray 26)) = W at x0 x1 x2 hz hk hbW ⊢
  rw [← hq0] at x0 x1 x2 hz ⊢
  have lf : ∀ (n : Int) (b : Bool) (l : Int), TmR W.heap.size W [.int .i64 1, .int .i64 n, .bool b, .int .i64 l, .slice none 0 0] (.one n b l) := fun n b l => .one n b l none 0 0 (Nat.le_refl _) (Nat.zero_le _)
  have r1 : TmR W.heap.size W (tcells 2 0 false 0 (some ⟨q0, 0, none⟩) 2 2) (.two false (.one 1 false 0) (.one 2 true 3)) := TmR.made (xs := [.int .i64 1, .int .i64 1, .bool false, .int .i64 0, .slice none 0 0]) (ys := [.int .i64 1, .int .i64 2, .bool true, .int .i64 3, .slice none 0 0]) false x0 rfl x0.lt (lf 1 false 0) (lf 2 true 3)
  have rt : TmR W.heap.size W [.int .i64 3, .int .i64 0, .bool false, .int .i64 0, .slice (some ⟨q0 + 1, 0, none⟩) 2 2] rc3 := TmR.made (xs := [.int .i64 1, .int .i64 1, .bool true, .int .i64 4, .slice none 0 0]) (ys := [.int .i64 2, .int .i64 0, .bool false, .int .i64 0, .slice (some ⟨q0, 0, none⟩) 2 2]) true x1 rfl x1.lt (lf 1 true 4) r1
  have look : ∀ w', Below W.heap.size W w' → (w'.cell? ⟨q0 + 1 + 1, 0, none⟩ = some (.int .i64 3) ∧ w'.cell? ⟨q0 + 1 + 1, 1, none⟩ = some (.int .i64 0) ∧ w'.cell? ⟨q0 + 1 + 1, 2, none⟩ = some (.bool false) ∧ w'.cell? ⟨q0 + 1 + 1, 3, none⟩ = some (.int .i64 0) ∧ w'.cell? ⟨q0 + 1 + 1, 4, none⟩ = some (.slice (some ⟨q0 + 1, 0, none⟩) 2 2)) ∧ TmR w'.heap.size w' [.int .i64 3, .int .i64 0, .bool false, .int .i64 0, .slice (some ⟨q0 + 1, 0, none⟩) 2 2] rc3 := fun w' hb =>
    ⟨⟨by rw [(x2.below hb).cell]; rfl, by rw [(x2.below hb).cell]; rfl, by rw [(x2.below hb).cell]; rfl, by rw [(x2.below hb).cell]; rfl, by rw [(x2.below hb).cell]; rfl⟩, tm_up (rt.later hb) hb.size⟩
  have HL := Lib.hid (And.intro look hbW)
  have hsz := rc3_size
  clear lf r1 rt x0 x1 x2 hz hk hq0 look hbW
  obtain ⟨⟨c0, c1, c2, c3, c4⟩, -⟩ := HL.out.1 W (Below.refl _ _)
  have hbA : Below W.heap.size W (W.alloc (.cells #[.int .i64 1, .int .i64 0, .int .i64 2] 3)) := below_alloc (Below.refl _ _) _
  have gS := race_see rc3 [1, 0, 2] (W.alloc (.cells #[.int .i64 1, .int .i64 0, .int .i64 2] 3)) _ (.slice (some ⟨W.heap.size, 0, none⟩) 3 3) (HL.out.1 _ hbA).2 (by omega) rc3_wfl (SlV.lit W [.int .i64 1, .int .i64 0, .int .i64 2] 3 1 3 rfl (by decide))
  go_wp2_with fail
  refine gS.mono ?_
  rintro e w4 h4
  rcases h4 with ⟨ns, G, hns, hR, rfl, hG, hB, hb4⟩ | ⟨hno, -, -⟩
  rotate_left
  · have := Rc.right_ap rc3_apt
    rw [rc3_ap.1] at this
    exact absurd (Rc.right_nats this) hno
  have hnse : ns = [1, 0, 2] := by
    have h1 : ns.map (fun n : Nat => (n : Int)) = [1, 0, 2].map (fun n : Nat => (n : Int)) := hns.symm
    exact (List.map_inj_right (f := fun n : Nat => (n : Int)) (fun a b h => Int.ofNat.inj h)).1 h1
  rw [hnse, rc3_see] at hB
  have hbX := below_self hbA hb4
  obtain ⟨⟨d0, d1, d2, d3, d4⟩, hT4⟩ := HL.out.1 w4 hbX
  have gA := race_apart rc3 0 1 w4 _ hT4 (by omega)
  rw [hsz]
  have HB := Lib.hid (And.intro hB hbX)
  clear gS hbA hns hR hG hB hb4 hnse hbX hT4 c0 c1 c2 c3 c4
  go_wp2_with fail
  refine gA.mono ?_
  rintro e w5 h5
  rcases h5 with ⟨a, b, u1, u2, ha, hb, -, rfl, ho1, ho2, hb5⟩ | ⟨c, -, hno, -, -⟩
  rotate_left
  · exact absurd (rc3_apt.swap) (hno 0 1 rfl rfl)
  obtain rfl : a = 0 := by omega
  obtain rfl : b = 1 := by omega
  have hX5 := below_self HB.out.2 hb5
  have s1 := SlV.of_own ho1
  have s2 := SlV.of_own ho2
  have e1 : apI rc3 0 1 = [0, 1, 2] := by unfold apI; rw [rc3_ap.2]; rfl
  have e2 : apI rc3 1 0 = [1, 0, 2] := by unfold apI; rw [rc3_ap.1]; rfl
  rw [e1] at s1
  rw [e2] at s2
  have sB := SlV.of_blk (HB.out.1.below hb5) (sz := 1) (n := 3) rfl (by omega)
  obtain ⟨⟨c0, c1, c2, c3, c4⟩, hT5⟩ := HL.out.1 w5 hX5
  have gR := race_races rc3 w5 _ hT5 (by omega)
  rw [rc3_races] at gR
  have HS := Lib.hid (And.intro s1 (And.intro s2 (And.intro sB hX5)))
  obtain ⟨A1, d1', rfl, -, -, -, -⟩ := s1
  obtain ⟨A2, d2', rfl, -, -, -, -⟩ := s2
  clear gA ho1 ho2 ha hb e1 e2 sB hX5 hT5 hb5 d0 d1 d2 d3 d4
  go_wp2_with fail
  refine gR.mono ?_
  rintro e w6 ⟨u, rfl, hu, hb6⟩
  have su := (SlV.of_own hu).alloc (.cells (Sp.prcs [(0, 1)]).toArray 46)
  have sl := SlV.lit w6 (Sp.prcs [(0, 1)]) 46 2 1 rfl (by decide)
  have gE := rc_pairs _ _ [(0, 1)] [(0, 1)] _ su sl
  have hX6 := below_alloc (below_self HS.out.2.2.2 hb6) (.cells (Sp.prcs [(0, 1)]).toArray 46)
  have hb56 : Below w5.heap.size w5 (w6.alloc (.cells (Sp.prcs [(0, 1)]).toArray 46)) := below_alloc hb6 _
  obtain ⟨Au, du, rfl, -, -⟩ := own_slice hu
  have HX := Lib.hid (And.intro hX6 hb56)
  clear gR su sl hu hb6 c0 c1 c2 c3 c4 hX6 hb56
  go_wp2_with fail
  refine gE.mono ?_
  rintro e w7 ⟨rfl, m7, rfl⟩
  have g7 : Below w5.heap.size w5 ((w6.alloc (.cells (Sp.prcs [(0, 1)]).toArray 46)).drewN m7) := below_drewN HX.out.2 m7
  generalize ((w6.alloc (.cells (Sp.prcs [(0, 1)]).toArray 46)).drewN m7) = w7 at g7 ⊢
  obtain ⟨⟨c0, c1, c2, c3, c4⟩, hT7⟩ := HL.out.1 w7 (below_self HS.out.2.2.2 g7)
  have gC := race_cells rc3 w7 _ hT7 (by omega)
  rw [rc3_cells] at gC
  clear gE hT7 HX
  go_wp2_with fail
  refine gC.mono ?_
  rintro e w8 ⟨u8, rfl, hu8, hb8⟩
  have g8 := below_self g7 hb8
  have su := hu8.alloc (.cells [Value.int .i64 1].toArray 3)
  have sl := SlV.lit w8 [.int .i64 1] 3 1 1 rfl (by decide)
  have gE := rc_equal _ _ [1] [1] _ su sl
  obtain ⟨A8, d8, rfl, -, -, -, -⟩ := hu8
  clear gC su sl c0 c1 c2 c3 c4 hb8 g7
  go_wp2_with fail
  refine gE.mono ?_
  rintro e w9 ⟨rfl, m9, rfl⟩
  have g9 : Below w5.heap.size w5 ((w8.alloc (.cells #[.int .i64 1] 3)).drewN m9) := below_drewN (below_alloc g8 _) m9
  generalize (w8.alloc (.cells #[.int .i64 1] 3)).drewN m9 = w9 at g9 ⊢
  clear gE g8
  have su := ((HS.out.2.2.1).below g9).alloc (.cells [Value.int .i64 (-1), .int .i64 (-1), .int .i64 (-1)].toArray 3)
  have sl := SlV.lit w9 [Value.int .i64 (-1), .int .i64 (-1), .int .i64 (-1)] 3 1 3 rfl (by decide)
  have gE := rc_equal _ _ [-1, -1, -1] [-1, -1, -1] _ su sl
  clear su sl
  go_wp2_with fail
  refine gE.mono ?_
  rintro e w10 ⟨rfl, m10, rfl⟩
  have g10 : Below w5.heap.size w5 ((w9.alloc (.cells #[Value.int .i64 (-1), .int .i64 (-1), .int .i64 (-1)] 3)).drewN m10) := below_drewN (below_alloc g9 _) m10
  generalize (w9.alloc (.cells #[Value.int .i64 (-1), .int .i64 (-1), .int .i64 (-1)] 3)).drewN m10 = w10 at g10 ⊢
  clear gE g9
  have su := ((HS.out.1).below g10).alloc (.cells [Value.int .i64 0, .int .i64 1, .int .i64 2].toArray 3)
  have sl := SlV.lit w10 [Value.int .i64 0, .int .i64 1, .int .i64 2] 3 1 3 rfl (by decide)
  have gE := rc_equal _ _ [0, 1, 2] [0, 1, 2] _ su sl
  clear su sl
  go_wp2_with fail
  refine gE.mono ?_
  rintro e w11 ⟨rfl, m11, rfl⟩
  have g11 : Below w5.heap.size w5 ((w10.alloc (.cells #[Value.int .i64 0, .int .i64 1, .int .i64 2] 3)).drewN m11) := below_drewN (below_alloc g10 _) m11
  generalize (w10.alloc (.cells #[Value.int .i64 0, .int .i64 1, .int .i64 2] 3)).drewN m11 = w11 at g11 ⊢
  clear gE g10
  have su := ((HS.out.2.1).below g11).alloc (.cells [Value.int .i64 1, .int .i64 0, .int .i64 2].toArray 3)
  have sl := SlV.lit w11 [Value.int .i64 1, .int .i64 0, .int .i64 2] 3 1 3 rfl (by decide)
  have gE := rc_equal _ _ [1, 0, 2] [1, 0, 2] _ su sl
  clear su sl
  go_wp2_with fail
  refine gE.mono ?_
  rintro e w12 ⟨rfl, m12, rfl⟩
  have g12 : Below w5.heap.size w5 ((w11.alloc (.cells #[Value.int .i64 1, .int .i64 0, .int .i64 2] 3)).drewN m12) := below_drewN (below_alloc g11 _) m12
  generalize (w11.alloc (.cells #[Value.int .i64 1, .int .i64 0, .int .i64 2] 3)).drewN m12 = w12 at g12 ⊢
  clear gE g11
  obtain ⟨⟨c0, c1, c2, c3, c4⟩, hT9⟩ := HL.out.1 w12 (below_self HS.out.2.2.2 g12)
  have gL := race_labels1 rc3 w12 _ hT9 (by omega) (by rw [rc3_races]; rfl)
  have hbF := below_self HL.out.2 (below_self HS.out.2.2.2 g12)
  clear hT9 g12
  go_wp2_with fail
  refine gL.mono ?_
  rintro e w13 ⟨⟨A9, d9, rfl⟩, hb13⟩
  have hbG := below_self hbF hb13
  clear gL hb13 c0 c1 c2 c3 c4 hbF
  go_wp2_with fail
  go_ret
  exact ⟨rfl, hbG⟩
end Go.Proofs.Ytcoijmnnnfogdaa
