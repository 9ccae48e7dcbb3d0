/-
  Workers who steal from each other: the tree of what is done, and that Go's parts go on as it does.
-/
import Derived.Test.YtajddbmmbhdnfaaStlLaw
namespace Go.Proofs.Ytajddbmmbhdnfaa.Stl
set_option linter.unusedVariables false
set_option linter.unusedSimpArgs false
set_option maxRecDepth 100000
open Sp

/-- how far a term is done -/
inductive S where
  | fresh
  | done
  | at (w : Nat)
  | seqL (s : S)
  | seqR (s : S)
  | parQ (s : S)
  | parB (a b : S)
deriving DecidableEq

def S.isD : S → Bool
  | .done => true
  | _ => false
def S.sl : S → S
  | .done => .done
  | .seqL s => s
  | .seqR _ => .done
  | .parQ s => s
  | .parB a _ => a
  | _ => .fresh
def S.sr : S → S
  | .done => .done
  | .seqR s => s
  | .parB _ b => b
  | _ => .fresh
def hd (t : T) (s : S) (n m : Nat) (up : Int) (onR : Bool) : Part := match t with
  | .nil => ⟨0, -1, 0, 0, up, onR, s.isD⟩
  | .one _ _ _ => ⟨1, (m : Int), 0, 0, up, onR, s.isD⟩
  | .two par l _ => ⟨if par then 3 else 2, -1, n + 1, n + 1 + sz l, up, onR, s.isD⟩
/-- the parts of a term, so far done -/
def img : T → S → (n m : Nat) → (up : Int) → (onR : Bool) → List Part
  | .nil, s, n, m, up, onR => [hd .nil s n m up onR]
  | .one c b l, s, n, m, up, onR => [hd (.one c b l) s n m up onR]
  | .two par l r, s, n, m, up, onR => hd (.two par l r) s n m up onR :: (img l s.sl (n + 1) m n false ++ img r s.sr (n + 1 + sz l) (m + l.size) n true)
def tl : T → S → (n m : Nat) → List Part
  | .nil, _, _, _ => []
  | .one _ _ _, _, _, _ => []
  | .two _ l r, s, n, m => img l s.sl (n + 1) m n false ++ img r s.sr (n + 1 + sz l) (m + l.size) n true
theorem img_cons (t : T) (s : S) (n m : Nat) (up : Int) (onR : Bool) : img t s n m up onR = hd t s n m up onR :: tl t s n m := by cases t <;> rfl
theorem img_fresh : ∀ (t : T) (n m : Nat) (up : Int) (onR : Bool), img t .fresh n m up onR = partsOf t n m up onR
  | .nil, _, _, _, _ => rfl
  | .one _ _ _, _, _, _, _ => rfl
  | .two par l r, n, m, up, onR => by
    show _ :: (img l .fresh _ _ _ _ ++ img r .fresh _ _ _ _) = _
    rw [img_fresh l, img_fresh r]
    rfl
theorem img_length : ∀ (t : T) (s : S) (n m : Nat) (up : Int) (onR : Bool), (img t s n m up onR).length = sz t
  | .nil, _, _, _, _, _ => rfl
  | .one _ _ _, _, _, _, _, _ => rfl
  | .two par l r, s, n, m, up, onR => by simp [img, img_length l, img_length r, sz]; omega
/-- all done but itself -/
def imgU (t : T) (n m : Nat) (up : Int) (onR : Bool) : List Part := hd t .fresh n m up onR :: tl t .done n m

section
variable {pre post : List Part} {x : Part} {n : Nat}
theorem get_at (h : pre.length = n) : (pre ++ x :: post)[n]? = some x := by subst h; simp
theorem mark_at (h : pre.length = n) : mark (pre ++ x :: post) n = pre ++ { x with done := true } :: post := by
  unfold mark
  rw [get_at h]
  subst h
  simp
end
theorem hd_mark (t : T) (s : S) (n m : Nat) (up : Int) (onR : Bool) : { hd t s n m up onR with done := true } = hd t .done n m up onR := by cases t <;> rfl
theorem hd_up (t : T) (s : S) (n m : Nat) (up : Int) (onR : Bool) : (hd t s n m up onR).up = up := by cases t <;> rfl
theorem hd_onR (t : T) (s : S) (n m : Nat) (up : Int) (onR : Bool) : (hd t s n m up onR).onR = onR := by cases t <;> rfl
theorem hd_done (t : T) (s : S) (n m : Nat) (up : Int) (onR : Bool) : (hd t s n m up onR).done = s.isD := by cases t <;> rfl

/-! ### runs -/
abbrev Out := List Part × List Nat × Int
def Runs (ps : List Part) (q : List Nat) (a : Int) (r : Out) : Prop := ∃ f, settle f ps q a = some r
def EndRuns (ps : List Part) (q : List Nat) (n : Nat) (r : Out) : Prop := ∃ f ps' q' a', ended f ps q n = some (ps', q', a') ∧ Runs ps' q' a' r

theorem Runs.idle (ps : List Part) (q : List Nat) (a : Int) (h : a < 0) : Runs ps q a (ps, q, a) := ⟨1, by simp [settle, h]⟩
theorem Runs.leaf {ps : List Part} {q : List Nat} {n : Nat} {p : Part} (h : ps[n]? = some p) (hk : p.kind = 1) : Runs ps q n (ps, q, n) :=
  ⟨1, by simp [settle, h, hk]⟩
theorem Runs.par {ps : List Part} {q : List Nat} {n : Nat} {p : Part} {r : Out} (h : ps[n]? = some p) (hk : p.kind = 3) (hL : q.length < 1099511627776) (hr : Runs ps (q ++ [p.right]) p.left r) : Runs ps q n r := by
  obtain ⟨f, hf⟩ := hr
  exact ⟨f + 1, by unfold settle; rw [if_neg (by omega), Int.toNat_natCast, h]; simp [hk, hf, hL]⟩
theorem Runs.seq {ps : List Part} {q : List Nat} {n : Nat} {p : Part} {r : Out} (h : ps[n]? = some p) (hk : p.kind = 2) (hr : Runs ps q p.left r) : Runs ps q n r := by
  obtain ⟨f, hf⟩ := hr
  exact ⟨f + 1, by unfold settle; rw [if_neg (by omega), Int.toNat_natCast, h]; simp [hk, hf]⟩
theorem Runs.none_ {ps : List Part} {q : List Nat} {n : Nat} {p : Part} {r : Out} (h : ps[n]? = some p) (hk : p.kind = 0) (hr : EndRuns ps q n r) : Runs ps q n r := by
  obtain ⟨f, ps', q', a', he, g, hg⟩ := hr
  refine ⟨f + g + 1, ?_⟩
  unfold settle
  rw [if_neg (by omega), Int.toNat_natCast, h]
  simp only [hk, if_neg (show ¬ (0 = 1) by omega), if_neg (show ¬ (0 = 3) by omega), if_neg (show ¬ (0 = 2) by omega)]
  rw [ended_more _ _ _ _ _ he _ (by omega)]
  exact settle_more _ _ _ _ _ hg _ (by omega)

/-- a left one of a row has ended -/
theorem EndRuns.seqL {ps : List Part} {q : List Nat} {n k : Nat} {p u : Part} {r : Out} (h : ps[n]? = some p) (hu : p.up = (k : Int)) (hk : (mark ps n)[k]? = some u) (h2 : u.kind = 2) (hr : p.onR = false) (h' : Runs (mark ps n) q u.right r) : EndRuns ps q n r :=
  ⟨1, _, _, _, by simp [ended, h, hu, hk, h2, hr], h'⟩
theorem EndRuns.seqR {ps : List Part} {q : List Nat} {n k : Nat} {p u : Part} {r : Out} (h : ps[n]? = some p) (hu : p.up = (k : Int)) (hk : (mark ps n)[k]? = some u) (h2 : u.kind = 2) (hr : p.onR = true) (h' : EndRuns (mark ps n) q k r) : EndRuns ps q n r := by
  obtain ⟨f, ps', q', a', he, hr'⟩ := h'
  exact ⟨f + 1, ps', q', a', by unfold ended; simp [h, hu, hk, h2, hr, he]; omega, hr'⟩
theorem EndRuns.both {ps : List Part} {q : List Nat} {n k : Nat} {p u a b : Part} {r : Out} (h : ps[n]? = some p) (hu : p.up = (k : Int)) (hk : (mark ps n)[k]? = some u) (h2 : u.kind = 3) (ha : (mark ps n)[u.left]? = some a) (hb : (mark ps n)[u.right]? = some b) (da : a.done = true) (db : b.done = true) (h' : EndRuns (mark ps n) q k r) : EndRuns ps q n r := by
  obtain ⟨f, ps', q', a', he, hr'⟩ := h'
  exact ⟨f + 1, ps', q', a', by unfold ended; simp [h, hu, hk, h2, ha, hb, da, db, he]; omega, hr'⟩
theorem EndRuns.onR {ps : List Part} {q : List Nat} {n k : Nat} {p u a b : Part} (h : ps[n]? = some p) (hu : p.up = (k : Int)) (hk : (mark ps n)[k]? = some u) (h2 : u.kind = 3) (ha : (mark ps n)[u.left]? = some a) (hb : (mark ps n)[u.right]? = some b) (da : a.done = false) (hr : p.onR = true) : EndRuns ps q n (mark ps n, q, -1) :=
  ⟨1, mark ps n, q, -1, by simp [ended, h, hu, hk, h2, ha, hb, da, hr], Runs.idle _ _ _ (by decide)⟩
theorem EndRuns.pop {ps : List Part} {q : List Nat} {n k j : Nat} {p u a b : Part} {r : Out} (h : ps[n]? = some p) (hu : p.up = (k : Int)) (hk : (mark ps n)[k]? = some u) (h2 : u.kind = 3) (ha : (mark ps n)[u.left]? = some a) (hb : (mark ps n)[u.right]? = some b) (db : b.done = false) (hr : p.onR = false) (h' : Runs (mark ps n) q j r) : EndRuns ps (q ++ [j]) n r :=
  ⟨1, mark ps n, q, (j : Int), by simp [ended, h, hu, hk, h2, ha, hb, db, hr], h'⟩
theorem EndRuns.dry {ps : List Part} {n k : Nat} {p u a b : Part} (h : ps[n]? = some p) (hu : p.up = (k : Int)) (hk : (mark ps n)[k]? = some u) (h2 : u.kind = 3) (ha : (mark ps n)[u.left]? = some a) (hb : (mark ps n)[u.right]? = some b) (db : b.done = false) (hr : p.onR = false) : EndRuns ps [] n (mark ps n, [], -1) :=
  ⟨1, mark ps n, [], -1, by simp [ended, h, hu, hk, h2, ha, hb, db, hr], Runs.idle _ _ _ (by decide)⟩
theorem EndRuns.root {ps : List Part} {q : List Nat} {n : Nat} {p : Part} (h : ps[n]? = some p) (hu : p.up < 0) : EndRuns ps q n (mark ps n, q, -1) :=
  ⟨1, mark ps n, q, -1, by simp [ended, h, hu], Runs.idle _ _ _ (by decide)⟩

/-! ### the tree goes on -/
def start (w : Nat) : T → S
  | .nil => .done
  | .one _ _ _ => .at w
  | .two false l r => match start w l with
    | .done => (match start w r with | .done => .done | s => .seqR s)
    | s => .seqL s
  | .two true l r => match start w l with
    | .done => (match start w r with | .done => .done | s => .parB .done s)
    | s => .parQ s
def S.main : S → Option Nat
  | .at w => some w
  | .seqL s => s.main
  | .seqR s => s.main
  | .parQ s => s.main
  | .parB a b => if a = .done then b.main else none
  | _ => none
def S.ws : S → List Nat
  | .at w => [w]
  | .seqL s => s.ws
  | .seqR s => s.ws
  | .parQ s => s.ws
  | .parB a b => a.ws ++ b.ws
  | _ => []
def Act : T → S → Prop
  | .one _ _ _, .at _ => True
  | .two false l _, .seqL s => Act l s
  | .two false _ r, .seqR s => Act r s
  | .two true l _, .parQ s => Act l s ∧ s.main ≠ none
  | .two true l r, .parB a b => (a = .done ∨ Act l a) ∧ (b = .done ∨ Act r b) ∧ ¬ (a = .done ∧ b = .done)
  | _, _ => False
def loc : T → S → Nat → Nat → Nat
  | .one _ _ _, .at _, n, _ => n
  | .two _ l _, .seqL s, n, w => loc l s (n + 1) w
  | .two _ l r, .seqR s, n, w => loc r s (n + 1 + sz l) w
  | .two _ l _, .parQ s, n, w => loc l s (n + 1) w
  | .two _ l r, .parB a b, n, w => if w ∈ a.ws then loc l a (n + 1) w else loc r b (n + 1 + sz l) w
  | _, _, n, _ => n
def seg : T → S → Nat → Nat → List Nat
  | .two _ l _, .seqL s, n, w => seg l s (n + 1) w
  | .two _ l r, .seqR s, n, w => seg r s (n + 1 + sz l) w
  | .two _ l _, .parQ s, n, w => (n + 1 + sz l) :: seg l s (n + 1) w
  | .two _ l r, .parB a b, n, w => if w ∈ a.ws then seg l a (n + 1) w else seg r b (n + 1 + sz l) w
  | _, _, _, _ => []

theorem Act.not_done {t : T} {s : S} (h : Act t s) : s ≠ .done := by
  rintro rfl
  cases t with
  | nil => exact h
  | one _ _ _ => exact h
  | two par l r => cases par <;> exact h
theorem Act.isD {t : T} {s : S} (h : Act t s) : s.isD = false := by
  cases s with
  | done => exact absurd rfl h.not_done
  | _ => rfl

theorem start_seq (w : Nat) (l r : T) : start w (.two false l r) = if start w l = .done then (if start w r = .done then .done else .seqR (start w r)) else .seqL (start w l) := by
  show (match start w l with | .done => (match start w r with | .done => S.done | s => S.seqR s) | s => S.seqL s) = _
  rcases start w l <;> rcases start w r <;> rfl
theorem start_par (w : Nat) (l r : T) : start w (.two true l r) = if start w l = .done then (if start w r = .done then .done else .parB .done (start w r)) else .parQ (start w l) := by
  show (match start w l with | .done => (match start w r with | .done => S.done | s => S.parB .done s) | s => S.parQ s) = _
  rcases start w l <;> rcases start w r <;> rfl

/-- what is begun by one is his alone -/
theorem start_ok (w : Nat) : ∀ t : T, start w t = .done ∨ (Act t (start w t) ∧ (start w t).main = some w ∧ (start w t).ws = [w])
  | .nil => .inl rfl
  | .one _ _ _ => .inr ⟨trivial, rfl, rfl⟩
  | .two false l r => by
    rw [start_seq]
    rcases start_ok w l with hl | ⟨h1, h2, h3⟩
    · rw [if_pos hl]
      rcases start_ok w r with hr | ⟨h1, h2, h3⟩
      · rw [if_pos hr]; exact .inl rfl
      · rw [if_neg h1.not_done]; exact .inr ⟨h1, h2, h3⟩
    · rw [if_neg h1.not_done]; exact .inr ⟨h1, h2, h3⟩
  | .two true l r => by
    rw [start_par]
    rcases start_ok w l with hl | ⟨h1, h2, h3⟩
    · rw [if_pos hl]
      rcases start_ok w r with hr | ⟨h1, h2, h3⟩
      · rw [if_pos hr]; exact .inl rfl
      · rw [if_neg h1.not_done]; exact .inr ⟨⟨.inl rfl, .inr h1, fun h => h1.not_done h.2⟩, h2, h3⟩
    · rw [if_neg h1.not_done]; exact .inr ⟨⟨h1, by rw [h2]; simp⟩, h2, h3⟩

theorem in_two (pre post : List Part) (par : Bool) (l r : T) (s : S) (n m : Nat) (up : Int) (onR : Bool) :
    pre ++ img (.two par l r) s n m up onR ++ post = (pre ++ [hd (.two par l r) s n m up onR]) ++ img l s.sl (n + 1) m n false ++ (img r s.sr (n + 1 + sz l) (m + l.size) n true ++ post) := by
  rw [img]; simp
theorem in_two' (pre post : List Part) (par : Bool) (l r : T) (s : S) (n m : Nat) (up : Int) (onR : Bool) :
    pre ++ img (.two par l r) s n m up onR ++ post = (pre ++ hd (.two par l r) s n m up onR :: img l s.sl (n + 1) m n false) ++ img r s.sr (n + 1 + sz l) (m + l.size) n true ++ post := by
  rw [img]; simp

theorem end_at {pre post : List Part} {t : T} {n m : Nat} {up : Int} {onR : Bool} (h : pre.length = n) : (pre ++ imgU t n m up onR ++ post)[n]? = some (hd t .fresh n m up onR) ∧ mark (pre ++ imgU t n m up onR ++ post) n = pre ++ img t .done n m up onR ++ post := by
  have e : pre ++ imgU t n m up onR ++ post = pre ++ hd t .fresh n m up onR :: (tl t .done n m ++ post) := by simp [imgU]
  rw [e, get_at h, mark_at h, hd_mark, img_cons]
  simp
theorem imgU_two (par : Bool) (l r : T) (n m : Nat) (up : Int) (onR : Bool) : imgU (.two par l r) n m up onR = hd (.two par l r) .fresh n m up onR :: (img l .done (n + 1) m n false ++ img r .done (n + 1 + sz l) (m + l.size) n true) := rfl
theorem hd_two (par : Bool) (l r : T) (s s' : S) (h : s.isD = s'.isD) (n m : Nat) (up : Int) (onR : Bool) : hd (.two par l r) s n m up onR = hd (.two par l r) s' n m up onR := by
  simp [hd, h]
theorem img_head {pre post : List Part} {t : T} {s : S} {n m : Nat} {up : Int} {onR : Bool} (h : pre.length = n) : (pre ++ img t s n m up onR ++ post)[n]? = some (hd t s n m up onR) := by
  rw [img_cons, show pre ++ hd t s n m up onR :: tl t s n m ++ post = pre ++ hd t s n m up onR :: (tl t s n m ++ post) by simp, get_at h]

/-- a term is begun -/
theorem start_runs (w : Nat) : ∀ (t : T) (n m : Nat) (up : Int) (onR : Bool) (pre post : List Part) (q : List Nat), pre.length = n → q.length + sz t ≤ 1099511627776 →
    (start w t ≠ .done → Runs (pre ++ img t .fresh n m up onR ++ post) q n (pre ++ img t (start w t) n m up onR ++ post, q ++ seg t (start w t) n w, (loc t (start w t) n w : Int))) ∧
    (start w t = .done → ∀ r, EndRuns (pre ++ imgU t n m up onR ++ post) q n r → Runs (pre ++ img t .fresh n m up onR ++ post) q n r)
  | .nil, n, m, up, onR, pre, post, q, h, hL => ⟨fun h => absurd rfl h, fun _ r hr => Runs.none_ (img_head h) rfl hr⟩
  | .one c b lb, n, m, up, onR, pre, post, q, h, hL => ⟨fun _ => by
      have := Runs.leaf (q := q) (img_head (pre := pre) (post := post) (t := .one c b lb) (s := .fresh) (m := m) (up := up) (onR := onR) h) rfl
      simpa [start, seg, loc, img, hd, S.isD] using this, fun h => by cases h⟩
  | .two false l r, n, m, up, onR, pre, post, q, h, hL => by
    rw [sz] at hL
    have hl : (pre ++ [hd (.two false l r) .fresh n m up onR]).length = n + 1 := by simp [h]
    have hr : (pre ++ hd (.two false l r) .fresh n m up onR :: img l .done (n + 1) m n false).length = n + 1 + sz l := by simp [h, img_length]; omega
    have IL := start_runs w l (n + 1) m n false _ (img r .fresh (n + 1 + sz l) (m + l.size) n true ++ post) q hl (by omega)
    have IR := start_runs w r (n + 1 + sz l) (m + l.size) n true _ post q hr (by omega)
    have go : ∀ o, Runs (pre ++ [hd (.two false l r) .fresh n m up onR] ++ img l .fresh (n + 1) m n false ++ (img r .fresh (n + 1 + sz l) (m + l.size) n true ++ post)) q (n + 1 : Nat) o → Runs (pre ++ img (.two false l r) .fresh n m up onR ++ post) q n o := fun o ho => by
      refine Runs.seq (img_head h) rfl ?_
      rw [in_two]
      exact ho
    have step : start w l = .done → ∀ o, Runs (pre ++ hd (.two false l r) .fresh n m up onR :: img l .done (n + 1) m n false ++ img r .fresh (n + 1 + sz l) (m + l.size) n true ++ post) q (n + 1 + sz l : Nat) o → Runs (pre ++ img (.two false l r) .fresh n m up onR ++ post) q n o := fun e o ho => by
      refine go o (IL.2 e o ?_)
      obtain ⟨e1, e2⟩ := end_at (post := img r .fresh (n + 1 + sz l) (m + l.size) n true ++ post) (t := l) (m := m) (up := (n : Int)) (onR := false) hl
      refine EndRuns.seqL (k := n) (u := hd (.two false l r) .fresh n m up onR) e1 (hd_up _ _ _ _ _ _) ?_ rfl (hd_onR _ _ _ _ _ _) ?_
      · rw [e2]; simp [← h]
      · rw [e2]; simpa [hd] using ho
    rw [start_seq]
    by_cases el : start w l = .done
    · rw [if_pos el]
      by_cases er : start w r = .done
      · rw [if_pos er]
        refine ⟨fun h => absurd rfl h, fun _ o ho => step el o (IR.2 er o ?_)⟩
        obtain ⟨e1, e2⟩ := end_at (post := post) (t := r) (m := m + l.size) (up := (n : Int)) (onR := true) hr
        refine EndRuns.seqR (k := n) (u := hd (.two false l r) .fresh n m up onR) e1 (hd_up _ _ _ _ _ _) ?_ rfl (hd_onR _ _ _ _ _ _) ?_
        · rw [e2]; simp [← h]
        · rw [e2]; rw [imgU_two] at ho; simpa using ho
      · rw [if_neg er]
        refine ⟨fun _ => step el _ ?_, fun h => by cases h⟩
        have := IR.1 er
        rw [in_two']
        exact this
    · rw [if_neg el]
      refine ⟨fun _ => go _ ?_, fun h => by cases h⟩
      have := IL.1 el
      rw [in_two]
      exact this
  | .two true l r, n, m, up, onR, pre, post, q, h, hL => by
    rw [sz] at hL
    have hl : (pre ++ [hd (.two true l r) .fresh n m up onR]).length = n + 1 := by simp [h]
    have hr : (pre ++ hd (.two true l r) .fresh n m up onR :: img l .done (n + 1) m n false).length = n + 1 + sz l := by simp [h, img_length]; omega
    have IL := start_runs w l (n + 1) m n false _ (img r .fresh (n + 1 + sz l) (m + l.size) n true ++ post) (q ++ [n + 1 + sz l]) hl (by rw [List.length_append, List.length_singleton]; omega)
    have IR := start_runs w r (n + 1 + sz l) (m + l.size) n true _ post q hr (by omega)
    have go : ∀ o, Runs (pre ++ [hd (.two true l r) .fresh n m up onR] ++ img l .fresh (n + 1) m n false ++ (img r .fresh (n + 1 + sz l) (m + l.size) n true ++ post)) (q ++ [n + 1 + sz l]) (n + 1 : Nat) o → Runs (pre ++ img (.two true l r) .fresh n m up onR ++ post) q n o := fun o ho => by
      refine Runs.par (img_head h) rfl (by omega) ?_
      rw [in_two]
      exact ho
    have step : start w l = .done → ∀ o, Runs (pre ++ hd (.two true l r) .fresh n m up onR :: img l .done (n + 1) m n false ++ img r .fresh (n + 1 + sz l) (m + l.size) n true ++ post) q (n + 1 + sz l : Nat) o → Runs (pre ++ img (.two true l r) .fresh n m up onR ++ post) q n o := fun e o ho => by
      refine go o (IL.2 e o ?_)
      obtain ⟨e1, e2⟩ := end_at (post := img r .fresh (n + 1 + sz l) (m + l.size) n true ++ post) (t := l) (m := m) (up := (n : Int)) (onR := false) hl
      refine EndRuns.pop (k := n) (u := hd (.two true l r) .fresh n m up onR) (a := hd l .done (n + 1) m n false) (b := hd r .fresh (n + 1 + sz l) (m + l.size) n true) e1 (hd_up _ _ _ _ _ _) ?_ rfl ?_ ?_ (hd_done _ _ _ _ _ _) (hd_onR _ _ _ _ _ _) ?_
      · rw [e2]; simp [← h]
      · rw [e2]; exact img_head hl
      · rw [e2]
        have := img_head (post := post) (t := r) (s := .fresh) (m := m + l.size) (up := (n : Int)) (onR := true) hr
        show _[n + 1 + sz l]? = _
        simpa using this
      · rw [e2]; simpa using ho
    rw [start_par]
    by_cases el : start w l = .done
    · rw [if_pos el]
      by_cases er : start w r = .done
      · rw [if_pos er]
        refine ⟨fun h => absurd rfl h, fun _ o ho => step el o (IR.2 er o ?_)⟩
        obtain ⟨e1, e2⟩ := end_at (post := post) (t := r) (m := m + l.size) (up := (n : Int)) (onR := true) hr
        refine EndRuns.both (k := n) (u := hd (.two true l r) .fresh n m up onR) (a := hd l .done (n + 1) m n false) (b := hd r .done (n + 1 + sz l) (m + l.size) n true) e1 (hd_up _ _ _ _ _ _) ?_ rfl ?_ ?_ (hd_done _ _ _ _ _ _) (hd_done _ _ _ _ _ _) ?_
        · rw [e2]; simp [← h]
        · rw [e2]
          have := img_head (post := img r .done (n + 1 + sz l) (m + l.size) n true ++ post) (t := l) (s := .done) (m := m) (up := (n : Int)) (onR := false) hl
          show _[n + 1]? = _
          simpa using this
        · rw [e2]; exact img_head hr
        · rw [e2]; rw [imgU_two] at ho; simpa using ho
      · rw [if_neg er]
        refine ⟨fun _ => step el _ ?_, fun h => by cases h⟩
        have := IR.1 er
        rw [in_two']
        simpa [seg, loc, S.ws, S.sl, S.sr, hd, S.isD] using this
    · rw [if_neg el]
      refine ⟨fun _ => go _ ?_, fun h => by cases h⟩
      have := IL.1 el
      rw [in_two]
      simpa [seg, loc, S.sl, S.sr, hd, S.isD] using this
end Go.Proofs.Ytajddbmmbhdnfaa.Stl
