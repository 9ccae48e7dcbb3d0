/-
  UnfoldPlain, walked.
-/
import Derived.Test.YtgaafgjhkkjalaaUtP3
import Derived.Test.YtgaafgjhkkjalaaUtP9
import Derived.Test.YtgaafgjhkkjalaaUtP1
import Derived.Test.YtgaafgjhkkjalaaUtP2
import Derived.Lib.AppendZeros
import Derived.Laws.StructEq
import Derived.Deep.RegionWith
import Derived.BigQuiet
import Derived.Test.YtgaafgjhkkjalaaUtP6

namespace Go.Proofs.Ytgaafgjhkkjalaa
set_option linter.unusedVariables false
set_option linter.unusedSimpArgs false
set_option maxRecDepth 100000

namespace Sp
theorem T.before_in (p : Bool) (l r : T) (i j : Int) (hi : i < l.size) (hj : j < l.size) : (T.two p l r).before i j = l.before i j := by
  rw [Bool.eq_iff_iff]
  unfold T.before T.bf
  rw [decide_eq_true_iff, decide_eq_true_iff]
  have hs := T.size_two p l r
  constructor
  · rintro ⟨hb, h1, h2⟩
    rcases T.rk_side p l r i.toNat (by omega) with ⟨a1, a2, a3⟩ | ⟨a1, -⟩
    · rcases T.rk_side p l r j.toNat (by omega) with ⟨b1, b2, b3⟩ | ⟨b1, -⟩
      · exact ⟨by omega, h1, by omega⟩
      · omega
    · omega
  · rintro ⟨hb, h1, h2⟩
    rcases T.rk_side p l r i.toNat (by omega) with ⟨a1, a2, a3⟩ | ⟨a1, -⟩
    · rcases T.rk_side p l r j.toNat (by omega) with ⟨b1, b2, b3⟩ | ⟨b1, -⟩
      · exact ⟨by omega, h1, by omega⟩
      · omega
    · omega
theorem T.before_over (p : Bool) (l r : T) (i j : Int) (h0 : 0 ≤ i) (hi : i < l.size) (hj : (l.size : Int) ≤ j) (hj2 : j < (T.two p l r).size) : (T.two p l r).before i j = !p := by
  rw [Bool.eq_iff_iff]
  unfold T.before T.bf
  rw [decide_eq_true_iff]
  have hs := T.size_two p l r
  rcases T.rk_side p l r i.toNat (by omega) with ⟨a1, a2, a3⟩ | ⟨a1, -⟩
  · rcases T.rk_side p l r j.toNat (by omega) with ⟨b1, -⟩ | ⟨b1, b0, b2, b3⟩
    · omega
    · cases p
      · simp only [Bool.false_eq_true, if_false] at a2 b2
        exact ⟨fun _ => rfl, fun _ => ⟨by omega, by omega, by omega⟩⟩
      · simp only [if_true] at a2 b2
        exact ⟨fun h => by omega, fun h => by cases h⟩
  · omega
theorem T.before_not (t : T) (i j : Int) (h : j ≤ i) : t.before i j = false := by
  rcases hb : t.before i j with _ | _
  · rfl
  · have := T.before_lt t i j hb
    omega
/-- one behind the other -/
structure T.Chain (t : T) : Prop where
  span : t.span = t.size
  width : t.width ≤ 1
theorem T.Chain.nil : T.Chain .nil := ⟨rfl, Nat.zero_le _⟩
theorem T.Chain.seq {c : Int} {b : Bool} {l : Int} {t : T} (h : T.Chain t) : T.Chain (.two false (.one c b l) t) := by
  refine ⟨?_, ?_⟩
  · rw [T.size_two, T.span, if_neg (by decide), h.span]
    rfl
  · rw [T.width, if_neg (by decide)]
    have := h.width
    simp only [T.width]
    omega
end Sp

namespace Un
open Ex St Sr
theorem iter_chain {f : Int → (M → Sp.T × M) → M → Sp.T × M} (hf : ∀ i k m, (∀ m, (k m).1.Chain) → (f i k m).1.Chain) {k : M → Sp.T × M} (hk : ∀ m, (k m).1.Chain) : ∀ n i m, (iter n i f k m).1.Chain
  | 0, _, m => hk m
  | n + 1, i, m => hf i _ m (fun m => iter_chain hf hk n (i + 1) m)
theorem un_chain : ∀ (p : P) (env : Sr.Env) (l : Nat) (k : M → Sp.T × M) (m : M), (∀ m, (k m).1.Chain) → (un (plain p) env l k m).1.Chain
  | .nil, _, _, _, m, hk => hk m
  | .cons kd nm a b body els rest, env, l, k, m, hk => by
    unfold plain
    split
    · simp only [un]
      rw [if_neg (by decide), if_neg (by decide), if_neg (by decide), if_neg (by decide), if_pos (by decide), if_pos (show evl env (.num 1) ≠ 0 by simp [evl])]
      exact un_chain body _ _ _ _ (fun m => un_chain rest _ _ _ m hk)
    · rename_i h45
      simp only [un, if_neg h45]
      split
      · exact un_chain rest _ _ _ _ hk
      · split
        · exact (un_chain rest _ _ _ _ hk).seq
        · split
          · exact (un_chain rest _ _ _ _ hk).seq
          · split
            · split
              · exact un_chain body _ _ _ _ (fun m => un_chain rest _ _ _ m hk)
              · exact un_chain els _ _ _ _ (fun m => un_chain rest _ _ _ m hk)
            · split
              · exact iter_chain (fun i k m hk => un_chain body _ _ _ _ hk) (fun m => un_chain rest _ _ _ m hk) _ _ _
              · exact un_chain rest _ _ _ _ hk
theorem plain_law (p : P) (h : List Int) (fuel : Int) : (term (plain p) h fuel).Chain := by
  unfold term
  split
  · exact un_chain p _ _ _ _ (fun m => Sp.T.Chain.nil)
  · exact Sp.T.Chain.nil

/-! ### the same heap, the same term -/
theorem iter_like {f : Int → (M → Sp.T × M) → M → Sp.T × M} (hf : ∀ i (k k' : M → Sp.T × M) m m', (∀ m m' : M, m.heap = m'.heap → (k m).1 = (k' m').1) → m.heap = m'.heap → (f i k m).1 = (f i k' m').1) {k k' : M → Sp.T × M} (hk : ∀ m m' : M, m.heap = m'.heap → (k m).1 = (k' m').1) : ∀ n i m m', m.heap = m'.heap → (iter n i f k m).1 = (iter n i f k' m').1
  | 0, _, m, m', h => hk m m' h
  | n + 1, i, m, m', h => hf i _ _ m m' (fun m m' h => iter_like hf hk n (i + 1) m m' h) h
theorem un_like : ∀ (p : P) (env : Sr.Env) (l : Nat) (k k' : M → Sp.T × M) (m m' : M), (∀ m m' : M, m.heap = m'.heap → (k m).1 = (k' m').1) → m.heap = m'.heap → (un p env l k m).1 = (un p env l k' m').1
  | .nil, _, _, _, _, m, m', hk, h => hk m m' h
  | .cons kd nm a b body els rest, env, l, k, k', m, m', hk, h => by
    unfold un
    split
    · exact un_like rest _ _ _ _ _ _ hk h
    · split
      · simp only [seq, h]
        rw [un_like rest _ _ k k' _ _ hk (show (m.step.acc _ _ _).heap = (m'.step.acc _ _ _).heap from h)]
      · split
        · simp only [seq]
          rw [un_like rest _ _ k k' _ _ hk (show ((m.step.acc (cell (evl env a)) true l).put (cell (evl env a)) (evl env b)).heap = ((m'.step.acc (cell (evl env a)) true l).put (cell (evl env a)) (evl env b)).heap by simp [M.put, M.acc, M.step, h])]
        · split
          · simp only [seq]
            have h0 := un_like body env l k0 k0 m.step m'.step (fun _ _ _ => rfl) h
            have h1 : (un body env l k0 m.step).2.heap = (un body env l k0 m'.step).2.heap := by
              rw [un_state, un_state]
              show (run body env l m.step).heap = (run body env l m'.step).heap
              rcases Nat.le_total m.steps m'.steps with hle | hle
              · exact (run_like body env l l m.step m'.step (m'.steps - m.steps) ⟨h.symm, by simp [M.step]; omega⟩).heap.symm
              · exact (run_like body env l l m'.step m.step (m.steps - m'.steps) ⟨h, by simp [M.step]; omega⟩).heap
            rw [h0, un_like rest _ _ k k' _ _ hk h1]
          · split
            · split
              · exact un_like body _ _ _ _ _ _ (fun m m' h => un_like rest _ _ _ _ _ _ hk h) h
              · exact un_like els _ _ _ _ _ _ (fun m m' h => un_like rest _ _ _ _ _ _ hk h) h
            · split
              · exact iter_like (f := fun i k m => un body (env ++ [(nm, i)]) l k m.step) (fun i k k' m m' hk h => un_like body (env ++ [(nm, i)]) l k k' m.step m'.step hk h) (fun m m' h => un_like rest _ _ _ _ _ _ hk h) _ _ m.step m'.step h
              · exact un_like rest _ _ _ _ _ _ hk h

/-- a finish around, and what is behind it -/
def fin1 (a b : P) : P := .cons 5 [] .bad .bad a .nil b
theorem go_fin (a b : P) (h : List Int) : ∃ tb, (go (fin1 a b) h).1 = .two false (go a h).1 tb ∧ (b = .nil → tb = .nil) := by
  unfold go fin1
  rw [un, if_neg (by decide), if_neg (by decide), if_neg (by decide), if_pos (by decide)]
  rw [← un_like a [] 0 k0 k0 (M0 h).step (M0 h) (fun _ _ _ => rfl) rfl]
  exact ⟨_, rfl, fun hb => by rw [hb]; rfl⟩
theorem go_async (a b c : P) (h : List Int) : ∃ tb tc, (go (fin1 (.cons 4 [] .bad .bad a .nil b) c) h).1 = .two false (.two true (go a h).1 tb) tc ∧ ∀ c', ∃ tc', (go (fin1 (.cons 4 [] .bad .bad a .nil b) c') h).1 = .two false (.two true (go a h).1 tb) tc' ∧ (c' = .nil → tc' = .nil) := by
  have key : ∃ tb, (go (.cons 4 [] .bad .bad a .nil b) h).1 = .two true (go a h).1 tb := by
    unfold go
    rw [un, if_neg (by decide), if_neg (by decide), if_neg (by decide), if_pos (by decide)]
    rw [← un_like a [] 0 k0 k0 (M0 h).step (M0 h) (fun _ _ _ => rfl) rfl]
    exact ⟨_, rfl⟩
  obtain ⟨tb, hb⟩ := key
  have h2 : ∀ c', ∃ tc', (go (fin1 (.cons 4 [] .bad .bad a .nil b) c') h).1 = .two false (.two true (go a h).1 tb) tc' ∧ (c' = .nil → tc' = .nil) := fun c' => by
    obtain ⟨tc, h3, h4⟩ := go_fin (.cons 4 [] .bad .bad a .nil b) c' h
    rw [hb] at h3
    exact ⟨tc, h3, h4⟩
  obtain ⟨tc, h3, -⟩ := h2 c
  exact ⟨tb, tc, h3, h2⟩

theorem iter_congr {f g : Int → (M → Sp.T × M) → M → Sp.T × M} (h : ∀ i k m, f i k m = g i k m) : ∀ n i k m, iter n i f k m = iter n i g k m
  | 0, _, _, _ => rfl
  | n + 1, i, k, m => by
    rw [iter, iter, h]
    congr 1
    funext m
    exact iter_congr h n (i + 1) k m
end Un
end Go.Proofs.Ytgaafgjhkkjalaa


namespace Go.Proofs.Ytgaafgjhkkjalaa
set_option linter.unusedVariables false
set_option linter.unusedSimpArgs false
set_option maxRecDepth 100000
open Go.RowKit

abbrev xzeros : List Value := xcells 0 0 ⟨#[]⟩ none 0 0
abbrev stzeros : List Value := stcells 0 ⟨#[]⟩ xzeros xzeros none 0 0 none 0 0
theorem xcells_one' (k n : Int) (s : ByteArray) (A : Option Addr) (len cap : Nat) : ∀ v ∈ xcells k n s A len cap, v.oneCell' = true := by
  intro v hv
  simp [xcells] at hv
  rcases hv with rfl | rfl | rfl | rfl <;> rfl
theorem stcells_one (k : Int) (nm : ByteArray) (ak an : Int) (sa : ByteArray) (aA : Option Addr) (al ac : Nat) (bk bn : Int) (sb : ByteArray) (bA : Option Addr) (bl bc : Nat) (D : Option Addr) (dl dc : Nat) (E : Option Addr) (el ec : Nat) : ∀ v ∈ stcells k nm (xcells ak an sa aA al ac) (xcells bk bn sb bA bl bc) D dl dc E el ec, v.oneCell' = true := by
  intro v hv
  simp [stcells, xcells] at hv
  rcases hv with rfl | rfl | rfl | rfl | rfl | rfl | rfl | rfl | rfl | rfl | rfl | rfl <;> rfl
theorem xbad {B : Nat} (w : World) : XR B w xzeros .bad := .bad 0 0 ⟨#[]⟩ none 0 0 (Nat.le_refl _) (Nat.zero_le _) (by decide) (by decide) (by omega)
theorem xnum {B : Nat} (w : World) (n : Int) (h : Ex.rng n) : XR B w (xcells 1 n ⟨#[]⟩ none 0 0) (.num n) := .num n ⟨#[]⟩ none 0 0 (Nat.le_refl _) (Nat.zero_le _) h

end Go.Proofs.Ytgaafgjhkkjalaa


namespace Go.Proofs.Ytgaafgjhkkjalaa
set_option linter.unusedVariables false
set_option linter.unusedSimpArgs false
set_option maxRecDepth 100000
open Go.RowKit

section
variable {S S' : Nat → Prop} {B B' n : Nat} {w w' : World} {cs : List Value} {A : Option Addr} {p : St.P}
theorem XRN.mono {N : Bool} {e : Ex.X} (h : XRN N B w cs e) (hB : B ≤ B') (hk : ∀ (p : Addr) (v : Value), p.block < B → w.cell? p = some v → w'.cell? p = some v) : XRN N B' w' cs e := by
  induction h with
  | num n s A len cap h1 h2 h3 hN => exact .num n s A len cap h1 h2 h3 hN
  | name n s A len cap h1 h2 hN => exact .name n s A len cap h1 h2 hN
  | bad k n s A len cap h1 h2 h3 h4 h5 hN => exact .bad k n s A len cap h1 h2 h3 h4 h5 hN
  | two k n s g o len cap cs0 cs1 e0 e1 h1 h2 h3 h4 h5 h6 h7 h8 _ _ hN i0 i1 =>
    exact .two k n s g o len cap cs0 cs1 e0 e1 h1 h2 h3 h4 h5 (Nat.lt_of_lt_of_le h6 hB) (fun j u hu => hk ⟨g, o + j, none⟩ u h6 (h7 j u hu)) (fun j u hu => hk ⟨g, o + 4 + j, none⟩ u h6 (h8 j u hu)) i0 i1 hN
theorem PR.mono (h : PR B w A n p) (hB : B ≤ B') (hk : ∀ (p : Addr) (v : Value), p.block < B → w.cell? p = some v → w'.cell? p = some v) : PR B' w' A n p := by
  induction h with
  | nil A => exact .nil A
  | cons g o n k nm ca cb ea eb D dl dc E el ec body els rest h1 h2 h3 h4 h5 h6 h7 h8 _ _ _ i1 i2 i3 =>
    exact .cons g o n k nm ca cb ea eb D dl dc E el ec body els rest (Nat.lt_of_lt_of_le h1 hB) h2 h3 h4 h5 (fun j u hu => hk ⟨g, o + j, none⟩ u h1 (h6 j u hu)) (h7.mono hB hk) (h8.mono hB hk) i1 i2 i3
theorem PC.mono (h : PC B w cs n p) (hB : B ≤ B') (hk : ∀ (p : Addr) (v : Value), p.block < B → w.cell? p = some v → w'.cell? p = some v) : PC B' w' cs n p := by
  induction h with
  | nil => exact .nil
  | cons n k nm ca cb ea eb D dl dc E el ec body els rest cs h1 h2 h3 h4 h5 h6 h7 h8 _ ih => exact .cons n k nm ca cb ea eb D dl dc E el ec body els rest cs h1 h2 h3 h4 (h5.mono hB hk) (h6.mono hB hk) (h7.mono hB hk) (h8.mono hB hk) ih

/-- read, in those blocks alone -/
def XS (S : Nat → Prop) (w : World) (cs : List Value) (e : Ex.X) : Prop := XR w.heap.size (only w S) cs e
def PS (S : Nat → Prop) (w : World) (A : Option Addr) (n : Nat) (p : St.P) : Prop := PR w.heap.size (only w S) A n p
def CS (S : Nat → Prop) (w : World) (cs : List Value) (n : Nat) (p : St.P) : Prop := PC w.heap.size (only w S) cs n p

theorem XS.go {e : Ex.X} {r : Option Nat} (h : XS S w cs e) (hg : w.grownBy w' r) (hS : ∀ g, g < w.heap.size → S g → S' g ∧ some g ≠ r) : XS S' w' cs e := h.mono hg.size (only_up hg hS)
theorem PS.go {r : Option Nat} (h : PS S w A n p) (hg : w.grownBy w' r) (hS : ∀ g, g < w.heap.size → S g → S' g ∧ some g ≠ r) : PS S' w' A n p := h.mono hg.size (only_up hg hS)
theorem CS.go {r : Option Nat} (h : CS S w cs n p) (hg : w.grownBy w' r) (hS : ∀ g, g < w.heap.size → S g → S' g ∧ some g ≠ r) : CS S' w' cs n p := h.mono hg.size (only_up hg hS)
theorem XS.of {e : Ex.X} (h : XR B w cs e) (hB : B ≤ w.heap.size) (hS : ∀ g, g < B → S g) : XS S w cs e := h.mono hB fun p v hp hv => only_some.2 ⟨hS _ hp, hv⟩
theorem PS.of (h : PR B w A n p) (hB : B ≤ w.heap.size) (hS : ∀ g, g < B → S g) : PS S w A n p := PR.mono h hB fun p v hp hv => only_some.2 ⟨hS _ hp, hv⟩
theorem CS.of (h : PC B w cs n p) (hB : B ≤ w.heap.size) (hS : ∀ g, g < B → S g) : CS S w cs n p := PC.mono h hB fun p v hp hv => only_some.2 ⟨hS _ hp, hv⟩
theorem XS.xr {e : Ex.X} (h : XS S w cs e) : XR w.heap.size w cs e := h.mono (Nat.le_refl _) fun p v hp hv => (only_some.1 hv).2
theorem PS.pr (h : PS S w A n p) : PR w.heap.size w A n p := PR.mono h (Nat.le_refl _) fun p v hp hv => (only_some.1 hv).2
theorem CS.pc (h : CS S w cs n p) : PC w.heap.size w cs n p := PC.mono h (Nat.le_refl _) fun p v hp hv => (only_some.1 hv).2
theorem PS.imp (h : PS S w A n p) (hS : ∀ g, g < w.heap.size → S g → S' g) : PS S' w A n p := h.go (World.grownBy.refl w none) fun g hg hs => ⟨hS g hg hs, by simp⟩
theorem CS.imp (h : CS S w cs n p) (hS : ∀ g, g < w.heap.size → S g → S' g) : CS S' w cs n p := h.go (World.grownBy.refl w none) fun g hg hs => ⟨hS g hg hs, by simp⟩
theorem XS.imp {e : Ex.X} (h : XS S w cs e) (hS : ∀ g, g < w.heap.size → S g → S' g) : XS S' w cs e := h.go (World.grownBy.refl w none) fun g hg hs => ⟨hS g hg hs, by simp⟩
theorem CS.nil : CS S w [] 0 .nil := PC.nil
theorem CS.append {cs' : List Value} {n' : Nat} {p' : St.P} (h : CS S w cs n p) (h' : CS S w cs' n' p') : CS S w (cs ++ cs') (n + n') (p ++ p') := PC.append h h'
theorem CS.one {k : Int} {nm : ByteArray} {ca cb : List Value} {ea eb : Ex.X} {D : Option Addr} {dl dc : Nat} {E : Option Addr} {el ec : Nat} {body els : St.P} (h : dl ≤ dc ∧ dc ≤ maxLen ∧ el ≤ ec ∧ ec ≤ maxLen) (h5 : XS S w ca ea) (h6 : XS S w cb eb) (h7 : PS S w D dl body) (h8 : PS S w E el els) : CS S w (stcells k nm ca cb D dl dc E el ec) 1 (.cons k nm.data.toList ea eb body els .nil) := PC.one h h5 h6 h7 h8
/-- where the cells lie, too -/
theorem CS.read (h : CS S w cs n p) (g o : Nat) (hg : n ≠ 0 → g < w.heap.size) (hc : ∀ j u, cs[j]? = some u → w.cell? ⟨g, o + j, none⟩ = some u) : PS (fun b => S b ∨ b = g) w (some ⟨g, o, none⟩) n p :=
  PC.read (w := only w fun b => S b ∨ b = g) (CS.imp h fun _ _ => .inl) (Nat.le_refl _) g o hg fun j u hu => only_some.2 ⟨.inr rfl, hc j u hu⟩
theorem CS.one_cells (h : CS S w cs n p) : ∀ u ∈ cs, u.oneCell' = true := PC.one_cells h
theorem CS.length (h : CS S w cs n p) : cs.length = n * 12 := PC.length h

/-- a slice of statements, in those blocks alone -/
def SP (S : Nat → Prop) (w : World) (v : Value) (p : St.P) : Prop := ∃ A n c, v = .slice A n c ∧ n ≤ c ∧ c ≤ maxLen ∧ PS S w A n p
theorem SP.nil : SP S w (.slice none 0 0) .nil := ⟨none, 0, 0, rfl, Nat.le_refl _, Nat.zero_le _, PR.nil _⟩
theorem SP.go {v : Value} {r : Option Nat} (h : SP S w v p) (hg : w.grownBy w' r) (hS : ∀ g, g < w.heap.size → S g → S' g ∧ some g ≠ r) : SP S' w' v p := by
  obtain ⟨A, n, c, rfl, h1, h2, h3⟩ := h
  exact ⟨A, n, c, rfl, h1, h2, h3.go hg hS⟩
theorem SP.is {v : Value} (h : SP S w v p) : IsP w v p := by
  obtain ⟨A, n, c, rfl, h1, h2, h3⟩ := h
  exact ⟨A, n, c, rfl, h1, h2, h3.pr⟩
theorem SP.of_own {base : Nat} {v : Value} {e : TypeId} (h : CS S w cs n p) (hown : w.ownsRow base e 12 v n cs) : SP (fun g => S g ∨ some g = v.ownBlock) w v p := by
  rcases hown.2 with ⟨rfl, rfl⟩ | ⟨g, cap, cur, rfl, _, hg, hle, hm, _, _⟩
  · have : cs = [] := List.eq_nil_of_length_eq_zero (by rw [hown.1])
    subst this
    cases (show PC _ _ [] 0 p from h)
    exact SP.nil
  · refine ⟨_, n, cap, rfl, hle, hm, (CS.read h g 0 (fun _ => (Array.getElem?_eq_some_iff.1 hg).1) fun j u hu => ?_).imp fun b _ hb => hb.imp id fun e => by subst e; rfl⟩
    have := hown.cells (g := g) rfl j u hu
    rw [Nat.zero_add]
    rwa [show ((⟨g, 0, none⟩ : Addr).add j) = ⟨g, j, none⟩ from by unfold Addr.add; split <;> simp_all] at this
theorem CS.row {base : Nat} {v v' : Value} {e : TypeId} {size m : Nat} {xs : List Value} (h : CS S w cs n p) (hown : w.ownsRow base e size v m xs) (hg : w.grownBy w' v.ownBlock) (hv : v'.ownBlock = v.ownBlock ∨ ∃ g, w.heap.size ≤ g ∧ v'.ownBlock = some g) (hS : ∀ g, g < w.heap.size → S g → S' g ∧ some g ≠ v.ownBlock) : CS (fun g => S' g ∧ some g ≠ v'.ownBlock) w' cs n p :=
  h.go hg fun g hl hs => ⟨⟨(hS g hl hs).1, by
    rcases hv with e | ⟨g', hge, e⟩
    · rw [e]; exact (hS g hl hs).2
    · rw [e]; intro e'; injection e' with e'; omega⟩, (hS g hl hs).2⟩
end
end Go.Proofs.Ytgaafgjhkkjalaa


namespace Go.Proofs.Ytgaafgjhkkjalaa
set_option linter.unusedVariables false
set_option linter.unusedSimpArgs false
set_option maxRecDepth 100000
open Go.RowKit


/-- what was there, and what is new -/
def newS (B H : Nat) (b : Nat) : Prop := b < B ∨ H ≤ b
theorem plain_kinds (k : Int) : k = 4 ∨ k = 5 ∨ ((k == 4) = false ∧ (k == 5) = false) := by
  by_cases h4 : k = 4; · exact .inl h4
  by_cases h5 : k = 5; · exact .inr (.inl h5)
  exact .inr (.inr (by simp [h4, h5]))

def FSP (S : Nat → Prop) (p : St.P) : Fact (fun w w' => Below w.heap.size w w') := ⟨fun v w => SP S w v p, fun _ _ _ h k => h.go (grown_of_below k none) fun _ _ hb => ⟨hb, by simp⟩⟩

def PlainOK (p : St.P) : Prop := ∀ (w : World) (B n c : Nat) (A : Option Addr), B ≤ w.heap.size → PR B w A n p → n ≤ c → c ≤ maxLen → p.size ≤ 274877906944 →
  Calls Try.prog 13 #[.slice A n c] w fun e w' => ∃ u, e = .returned u ∧ SP (newS B w.heap.size) w' u (St.plain p) ∧ Below w.heap.size w w'

set_option maxHeartbeats 4000000 in
theorem plain_step (p : St.P) (ih : ∀ q : St.P, q.size < p.size → PlainOK q) : PlainOK p := by
  intro w B n c A hB hp hnc hcm hsz
  obtain ⟨g, o, hA, hpl⟩ := hp.place
  have hnp : n ≤ 274877906944 := by have := hp.length; have := p.length_le; omega
  go_enter Try.func13, Try.ntmps13
  go_wp2
  go_loopw [3, 8] (fun out i wr => ∃ (k : Nat) (q dn : St.P) (cs : List Value), k ≤ n ∧ i = .int .i64 (k : Int) ∧ wr.ownsRow w.heap.size 38 12 out k cs ∧ CS (fun b => (b < B ∨ w.heap.size ≤ b) ∧ some b ≠ out.ownBlock) wr cs k dn ∧ PR B wr (some ⟨g, o + k * 12, none⟩) (n - k) q ∧ Below w.heap.size w wr ∧ (q.size ≤ p.size ∧ dn ++ St.plain q = St.plain p)) (fun out i _ => n - (intOf i).toNat)
  case atStart => exact ⟨0, p, .nil, [], Nat.zero_le _, rfl, World.ownsRow_nil _ _ _ _, CS.nil, hpl, Below.refl _ _, Nat.le_refl _, rfl⟩
  case round =>
    obtain ⟨k, q, dn, cs, hk, rfl, hown, hcs, hq, hb, hqs⟩ := hrel
    by_cases hlt : k < n
    · obtain ⟨kd, nm, ak, an, bk, bn, sa, sb, aA, bA, al, ac, bl, bc, ea, eb, D, dl, dc, E, el, ec, body, els, rest, rfl, hg, ⟨hd1, hd2, he1, he2⟩, hcell, xa, xb, pb, pe, pr⟩ := hq.next (by omega)
      have hAA := hA (by omega)
      subst hAA
      have c0 : wr.cell? ⟨g, o + k * 12, none⟩ = some (.int .i64 kd) := hcell 0 _ rfl
      have c1 := hcell 1 _ rfl
      have c2 := hcell 2 _ rfl
      have c3 := hcell 3 _ rfl
      have c4 := hcell 4 _ rfl
      have c5 := hcell 5 _ rfl
      have c6 := hcell 6 _ rfl
      have c7 := hcell 7 _ rfl
      have c8 := hcell 8 _ rfl
      have c9 := hcell 9 _ rfl
      have c10 := hcell 10 _ rfl
      have c11 := hcell 11 _ rfl
      have hb0 := hb
      have hBr : B ≤ wr.heap.size := Nat.le_trans hB hb.size
      have hs : body.size < p.size ∧ els.size < p.size ∧ rest.size ≤ p.size := by rw [St.P.size] at hqs; omega
      clear hcell hq hpl hp
      rcases plain_kinds kd with rfl | rfl | ⟨k4, k5⟩
      · obtain ⟨Q0, hQ0⟩ : ∃ Q0, Q0 = wr.heap.size := ⟨_, rfl⟩
        have hB0 := Blk.new wr 38 [.int .i64 6, .string ⟨#[]⟩, .int .i64 1, .int .i64 1, .string ⟨#[]⟩, .slice none 0 0, .int .i64 0, .int .i64 0, .string ⟨#[]⟩, .slice none 0 0, .slice D dl dc, .slice none 0 0]
        have hbW : Below wr.heap.size wr (wr.alloc (.cells ([.int .i64 6, .string ⟨#[]⟩, .int .i64 1, .int .i64 1, .string ⟨#[]⟩, .slice none 0 0, .int .i64 0, .int .i64 0, .string ⟨#[]⟩, .slice none 0 0, .slice D dl dc, .slice none 0 0] : List Value).toArray 38)) := below_alloc (Below.refl _ _) _
        have hzW : (wr.alloc (.cells ([.int .i64 6, .string ⟨#[]⟩, .int .i64 1, .int .i64 1, .string ⟨#[]⟩, .slice none 0 0, .int .i64 0, .int .i64 0, .string ⟨#[]⟩, .slice none 0 0, .slice D dl dc, .slice none 0 0] : List Value).toArray 38)).heap.size = wr.heap.size + 1 := by simp
        rw [← hQ0] at hB0 hzW
        go_wp2_with fail
        rw [← hQ0]
        generalize (wr.alloc (.cells ([.int .i64 6, .string ⟨#[]⟩, .int .i64 1, .int .i64 1, .string ⟨#[]⟩, .slice none 0 0, .int .i64 0, .int .i64 0, .string ⟨#[]⟩, .slice none 0 0, .slice D dl dc, .slice none 0 0] : List Value).toArray 38)) = W at hB0 hbW hzW ⊢
        have hcsW := hcs.go (S' := fun b => ((b < B ∨ w.heap.size ≤ b) ∧ some b ≠ u3.ownBlock) ∧ b ≠ Q0) (grown_of_below hbW none) (fun b hl hb => ⟨⟨hb, by omega⟩, by simp⟩)
        have hownW := hown.kept (grown_of_below hbW none) (by rcases hown.2 with ⟨rfl, _⟩ | ⟨g', _, _, rfl, _⟩ <;> simp [Value.ownBlock])
        have hbB := hbW.mono hBr
        have xaW := xa.later hbB
        have xbW := xb.later hbB
        have pbW := pb.later hbB
        have peW := pe.later hbB
        have prW := pr.later hbB
        have hbw := below_next hbW hb
        have hBW : B ≤ W.heap.size := Nat.le_trans hBr hbW.size
        have hol : ∀ gg, u3.ownBlock = some gg → w.heap.size ≤ gg ∧ gg < Q0 := fun gg e => by rw [hQ0]; exact hown.lt gg e
        have hqw : w.heap.size ≤ Q0 := by rw [hQ0]; exact hb.size
        have gB : ∀ (w' : World), Below W.heap.size W w' → Calls Try.prog 13 #[.slice D dl dc] w' fun e w'' => ∃ v, e = .returned v ∧ SP (newS B W.heap.size) w'' v (St.plain body) ∧ Below w'.heap.size w' w'' := fun w' hb' =>
          (ih body hs.1 w' B dl dc D (Nat.le_trans hBW hb'.size) (pbW.later (hb'.mono hBW)) hd1 hd2 (by omega)).mono fun e w'' ⟨v, h1, h2, h3⟩ => ⟨v, h1, h2.go (World.grownBy.refl w'' none) fun b _ hb => ⟨hb.imp id fun h => Nat.le_trans hb'.size h, by simp⟩, h3⟩
        have gE : ∀ (w' : World), Below W.heap.size W w' → Calls Try.prog 13 #[.slice none 0 0] w' fun e w'' => ∃ v, e = .returned v ∧ SP (newS B W.heap.size) w'' v (St.plain St.P.nil) ∧ Below w'.heap.size w' w'' := fun w' hb' =>
          (ih St.P.nil (by first | exact hs.2.1 | (simp only [St.P.size]; omega)) w' B _ _ _ (Nat.le_trans hBW hb'.size) (by first | exact peW.later (hb'.mono hBW) | exact .nil _) (by first | exact he1 | decide) (by first | exact he2 | decide) (by first | omega | (simp only [St.P.size]; omega))).mono fun e w'' ⟨v, h1, h2, h3⟩ => ⟨v, h1, h2.go (World.grownBy.refl w'' none) fun b _ hb => ⟨hb.imp id fun h => Nat.le_trans hb'.size h, by simp⟩, h3⟩
        have keepS : ∀ w', Below W.heap.size W w' → (Below W.heap.size W w' ∧ w'.cell? ⟨Q0, 10, none⟩ = some (.slice D dl dc) ∧ w'.cell? ⟨Q0, 11, none⟩ = some (.slice none 0 0)) := fun w' hb => ⟨hb, ((hB0.below hb).cell 10).trans rfl, ((hB0.below hb).cell 11).trans rfl⟩
        have hS0 := keepS _ (below_drew (Below.refl _ _))
        have HQ := Lib.hid (And.intro hQ0 (And.intro hzW (And.intro hs hqs)))
        clear hQ0 hzW hs hqs pb pe pr xa xb pbW peW hown hcs hb hbW hbB ih c0 c1 c2 c3 c4 c5 c6 c7 c8 c9 c10 c11
        refine wp_walk_tail 7 (by kernel_rfl) (by kernel_rfl) (fun w w' => Below w.heap.size w w') (fun w' => (Below W.heap.size W w' ∧ w'.cell? ⟨Q0, 10, none⟩ = some (.slice D dl dc) ∧ w'.cell? ⟨Q0, 11, none⟩ = some (.slice none 0 0))) hS0 ?_
        simp only [List.length_cons, List.length_nil, Nat.reduceAdd, Nat.reduceSub, List.take_succ_cons, List.take_zero, List.drop_succ_cons, List.drop_zero]
        repeat (first | (refine settle_skip (fun _ => by rfl) ?_; (simp only [Act.put, List.setIfInBounds_toArray, List.set_cons_zero, List.set_cons_succ])) | (refine' settle_run (fun _ _ => Below.refl _ _) (fun _ => by rfl) ?_ ?_; rotate_left; (focus (intro ρ w hS hF; (try dsimp only at hS); go_split_ands; go_simp; try with_reducible rfl)); (simp only [Act.put, List.setIfInBounds_toArray, List.set_cons_zero, List.set_cons_succ])))
        (refine settle_known (FSP (newS B W.heap.size) (St.plain body)) (by rfl) (fun _ => by rfl)  ?_ ?_; (focus (intro ρ w hS hF K hK; (simp only [Act.put, List.setIfInBounds_toArray, List.set_cons_zero, List.set_cons_succ] at hK); go_simp; (refine (gB _ hS.1).mono ?_; rintro e w' ⟨v, rfl, hF', hb'⟩; exact hK _ _ hF' (keepS _ (below_next hb' hS.1)) hb'))); (simp only [Act.put, List.setIfInBounds_toArray, List.set_cons_zero, List.set_cons_succ]))
        repeat (first | (refine settle_skip (fun _ => by rfl) ?_; (simp only [Act.put, List.setIfInBounds_toArray, List.set_cons_zero, List.set_cons_succ])) | (refine' settle_run (fun _ _ => Below.refl _ _) (fun _ => by rfl) ?_ ?_; rotate_left; (focus (intro ρ w hS hF; (try dsimp only at hS); go_split_ands; go_simp; try with_reducible rfl)); (simp only [Act.put, List.setIfInBounds_toArray, List.set_cons_zero, List.set_cons_succ])))
        (refine settle_known (FSP (newS B W.heap.size) (St.plain St.P.nil)) (by rfl) (fun _ => by rfl)  ?_ ?_; (focus (intro ρ w hS hF K hK; (simp only [Act.put, List.setIfInBounds_toArray, List.set_cons_zero, List.set_cons_succ] at hK); go_simp; (refine (gE _ hS.1).mono ?_; rintro e w' ⟨v, rfl, hF', hb'⟩; exact hK _ _ hF' (keepS _ (below_next hb' hS.1)) hb'))); (simp only [Act.put, List.setIfInBounds_toArray, List.set_cons_zero, List.set_cons_succ]))
        repeat (first | (refine settle_skip (fun _ => by rfl) ?_; (simp only [Act.put, List.setIfInBounds_toArray, List.set_cons_zero, List.set_cons_succ])) | (refine' settle_run (fun _ _ => Below.refl _ _) (fun _ => by rfl) ?_ ?_; rotate_left; (focus (intro ρ w hS hF; (try dsimp only at hS); go_split_ands; go_simp; try with_reducible rfl)); (simp only [Act.put, List.setIfInBounds_toArray, List.set_cons_zero, List.set_cons_succ])))
        refine settle_nil ?_
        intro ρ w4 hS hF
        have hu1 : SP (newS B W.heap.size) w4 (ρ 26) (St.plain body) := hF 26 (FSP (newS B W.heap.size) (St.plain body)) (by repeat (first | exact List.mem_cons_self | apply List.mem_cons_of_mem))
        have hu2 : SP (newS B W.heap.size) w4 (ρ 29) (St.plain St.P.nil) := hF 29 (FSP (newS B W.heap.size) (St.plain St.P.nil)) (by repeat (first | exact List.mem_cons_self | apply List.mem_cons_of_mem))
        have hb4 := hS.1
        clear hF hS hS0 keepS gB gE
        dsimp only
        generalize ρ 26 = U1 at hu1 ⊢
        generalize ρ 29 = U2 at hu2 ⊢
        obtain ⟨D1, m1, k1, rfl, f1, f1', s1⟩ := hu1
        obtain ⟨D2, m2, k2, rfl, f2, f2', s2⟩ := hu2
        have hB4 := hB0.below hb4
        have hown4 := hownW.kept (grown_of_below hb4 none) (by rcases hownW.2 with ⟨rfl, _⟩ | ⟨g', _, _, rfl, _⟩ <;> simp [Value.ownBlock])
        have hl4 := hb4.size
        have hWq : W.heap.size = Q0 + 1 := HQ.out.2.1
        clear hB0 hownW
        refine wpl_set_blk hB4 10 (.slice D1 m1 k1) (by kernel_rfl) (by simp) rfl rfl rfl rfl rfl rfl ?_
        intro w5 hB5 hg5
        have hend : ∀ w6, w5.grownBy w6 (some Q0) → w.heap.size ≤ w6.heap.size ∧ w6.ownsRow w.heap.size 38 12 u3 k cs ∧ CS (fun b => (b < B ∨ w.heap.size ≤ b) ∧ some b ≠ u3.ownBlock) w6 (cs ++ stcells 6 ⟨#[]⟩ (xcells 1 1 ⟨#[]⟩ none 0 0) (xcells 0 0 ⟨#[]⟩ none 0 0) D1 m1 k1 D2 m2 k2) (k + 1) (dn ++ .cons 6 [] (.num 1) .bad (St.plain body) (St.plain St.P.nil) .nil) ∧ PR B w6 (some ⟨g, o + (k + 1) * 12, none⟩) (n - k - 1) rest ∧ Below w.heap.size w w6 := fun w6 hg6 => by
          have hl5 := hg5.size
          have hl6 := hg6.size
          have gw : w4.grownBy w6 (some Q0) := grown_trans hg5 hg6
          have s1' := s1.go (S' := fun b => (b < B ∨ w.heap.size ≤ b) ∧ some b ≠ u3.ownBlock) gw (fun b _ hb => by
            unfold newS at hb
            exact ⟨⟨by omega, fun e => by have := hol b e.symm; omega⟩, fun e => by injection e with e; omega⟩)
          have s2' := s2.go (S' := fun b => (b < B ∨ w.heap.size ≤ b) ∧ some b ≠ u3.ownBlock) gw (fun b _ hb => by
            unfold newS at hb
            exact ⟨⟨by omega, fun e => by have := hol b e.symm; omega⟩, fun e => by injection e with e; omega⟩)
          have hbB4 : Below B W w4 := hb4.mono hBW
          have hbB6 : Below B W w6 := hbB4.trans (below_of_grown gw (by omega) (by omega))
          have hbw6 : Below w.heap.size w w6 := (hbw.trans (hb4.mono hbw.size)).trans (below_of_grown gw (by omega) (by omega))
          have hcs6 := hcsW.go (S' := fun b => (b < B ∨ w.heap.size ≤ b) ∧ some b ≠ u3.ownBlock) (grown_trans (grown_of_below hb4 (some Q0)) gw) (fun b _ hb => ⟨hb.1, fun e => by injection e with e; exact hb.2 e⟩)
          have hSB : ∀ b, b < B → (b < B ∨ w.heap.size ≤ b) ∧ some b ≠ u3.ownBlock := fun b hb => ⟨.inl hb, fun e => by have := hol b e.symm; omega⟩
          refine ⟨by omega, hown4.kept gw (.inr fun e => by have := hol Q0 e; omega), hcs6.append (CS.one ⟨f1, f1', f2, f2'⟩ (XS.of (xnum w6 1 (by unfold Ex.rng; omega)) (Nat.zero_le _) (fun b hb => absurd hb (Nat.not_lt_zero b))) (XS.of (xbad w6) (Nat.zero_le _) (fun b hb => absurd hb (Nat.not_lt_zero b))) s1' s2'), prW.later hbB6, hbw6⟩
        have n63 : k + 1 ≤ maxLen := by unfold maxLen; omega
        have n47 : (k + 1) * 184 ≤ 140737488355328 := by omega
        clear hcsW xaW xbW prW hbw hB4 hown4 s1 s2 f1 f1' f2 f2' hWq
        go_wp2_with (first | (refine wpl_set_blk hB5 11 (.slice D2 m2 k2) (by kernel_rfl) (by simp) rfl rfl rfl rfl rfl rfl ?_; intro w6 hB6 hg6; simp only [List.set_cons_succ, List.set_cons_zero] at hB6; obtain ⟨hl6, hown6, hcs6, pr6, hbw6⟩ := hend w6 hg6; clear hend hB5 hg5 hg6 hb4 hl4 hol) | (refine wpl_get_blk (ty := 38) hB6 (by kernel_rfl) (by kernel_rfl) rfl rfl rfl ?_) | (at_builtin; refine wp_push w6 _ _ w.heap.size _ _ _ _ _ Try.underlying22 info_stmt rfl (by decide) hown6 [.int .i64 6, .string ⟨#[]⟩, .int .i64 1, .int .i64 1, .string ⟨#[]⟩, .slice none 0 0, .int .i64 0, .int .i64 0, .string ⟨#[]⟩, .slice none 0 0, .slice D1 m1 k1, .slice D2 m2 k2] rfl (stcells_one _ _ _ _ _ _ _ _ _ _ _ _ _ _ _ _ _ _ _ _) n63 n47 hl6 rfl rfl rfl rfl ?_; intro v7 w7 hown7 hg7 hv7 hb7; clear hB6))
        have hcs7 := hcs6.row (S' := fun b => b < B ∨ w.heap.size ≤ b) hown6 hg7 (hv7.imp id fun e => ⟨_, Nat.le_succ _, e⟩) (fun b _ hb => hb)
        have pr7 := pr6.later (hb7.mono hB)
        have hb7' := hbw6.trans hb7
        have HP := Lib.hid (show (dn ++ .cons 6 [] (.num 1) .bad (St.plain body) (St.plain St.P.nil) .nil) ++ St.plain rest = St.plain p by
          rw [← HQ.out.2.2.2.2, St.P.append_assoc, St.P.cons_append, St.P.nil_append]
          first | done | (congr 1 <;> simp [St.plain]))
        clear hcs6 hown6 hg7 hv7 hb7 pr6 hbw6
        go_roundw
        case rel => exact ⟨k + 1, rest, _, _, by omega, by go_num, hown7, hcs7, by rw [show n - (k + 1) = n - k - 1 by omega]; exact pr7, hb7', HQ.out.2.2.1.2.2, HP.out⟩
        case measure => simp [intOf]; omega
      · obtain ⟨Q0, hQ0⟩ : ∃ Q0, Q0 = wr.heap.size := ⟨_, rfl⟩
        have hB0 := Blk.new wr 38 [.int .i64 6, .string ⟨#[]⟩, .int .i64 1, .int .i64 1, .string ⟨#[]⟩, .slice none 0 0, .int .i64 0, .int .i64 0, .string ⟨#[]⟩, .slice none 0 0, .slice D dl dc, .slice none 0 0]
        have hbW : Below wr.heap.size wr (wr.alloc (.cells ([.int .i64 6, .string ⟨#[]⟩, .int .i64 1, .int .i64 1, .string ⟨#[]⟩, .slice none 0 0, .int .i64 0, .int .i64 0, .string ⟨#[]⟩, .slice none 0 0, .slice D dl dc, .slice none 0 0] : List Value).toArray 38)) := below_alloc (Below.refl _ _) _
        have hzW : (wr.alloc (.cells ([.int .i64 6, .string ⟨#[]⟩, .int .i64 1, .int .i64 1, .string ⟨#[]⟩, .slice none 0 0, .int .i64 0, .int .i64 0, .string ⟨#[]⟩, .slice none 0 0, .slice D dl dc, .slice none 0 0] : List Value).toArray 38)).heap.size = wr.heap.size + 1 := by simp
        rw [← hQ0] at hB0 hzW
        go_wp2_with fail
        rw [← hQ0]
        generalize (wr.alloc (.cells ([.int .i64 6, .string ⟨#[]⟩, .int .i64 1, .int .i64 1, .string ⟨#[]⟩, .slice none 0 0, .int .i64 0, .int .i64 0, .string ⟨#[]⟩, .slice none 0 0, .slice D dl dc, .slice none 0 0] : List Value).toArray 38)) = W at hB0 hbW hzW ⊢
        have hcsW := hcs.go (S' := fun b => ((b < B ∨ w.heap.size ≤ b) ∧ some b ≠ u3.ownBlock) ∧ b ≠ Q0) (grown_of_below hbW none) (fun b hl hb => ⟨⟨hb, by omega⟩, by simp⟩)
        have hownW := hown.kept (grown_of_below hbW none) (by rcases hown.2 with ⟨rfl, _⟩ | ⟨g', _, _, rfl, _⟩ <;> simp [Value.ownBlock])
        have hbB := hbW.mono hBr
        have xaW := xa.later hbB
        have xbW := xb.later hbB
        have pbW := pb.later hbB
        have peW := pe.later hbB
        have prW := pr.later hbB
        have hbw := below_next hbW hb
        have hBW : B ≤ W.heap.size := Nat.le_trans hBr hbW.size
        have hol : ∀ gg, u3.ownBlock = some gg → w.heap.size ≤ gg ∧ gg < Q0 := fun gg e => by rw [hQ0]; exact hown.lt gg e
        have hqw : w.heap.size ≤ Q0 := by rw [hQ0]; exact hb.size
        have gB : ∀ (w' : World), Below W.heap.size W w' → Calls Try.prog 13 #[.slice D dl dc] w' fun e w'' => ∃ v, e = .returned v ∧ SP (newS B W.heap.size) w'' v (St.plain body) ∧ Below w'.heap.size w' w'' := fun w' hb' =>
          (ih body hs.1 w' B dl dc D (Nat.le_trans hBW hb'.size) (pbW.later (hb'.mono hBW)) hd1 hd2 (by omega)).mono fun e w'' ⟨v, h1, h2, h3⟩ => ⟨v, h1, h2.go (World.grownBy.refl w'' none) fun b _ hb => ⟨hb.imp id fun h => Nat.le_trans hb'.size h, by simp⟩, h3⟩
        have gE : ∀ (w' : World), Below W.heap.size W w' → Calls Try.prog 13 #[.slice none 0 0] w' fun e w'' => ∃ v, e = .returned v ∧ SP (newS B W.heap.size) w'' v (St.plain St.P.nil) ∧ Below w'.heap.size w' w'' := fun w' hb' =>
          (ih St.P.nil (by first | exact hs.2.1 | (simp only [St.P.size]; omega)) w' B _ _ _ (Nat.le_trans hBW hb'.size) (by first | exact peW.later (hb'.mono hBW) | exact .nil _) (by first | exact he1 | decide) (by first | exact he2 | decide) (by first | omega | (simp only [St.P.size]; omega))).mono fun e w'' ⟨v, h1, h2, h3⟩ => ⟨v, h1, h2.go (World.grownBy.refl w'' none) fun b _ hb => ⟨hb.imp id fun h => Nat.le_trans hb'.size h, by simp⟩, h3⟩
        have keepS : ∀ w', Below W.heap.size W w' → (Below W.heap.size W w' ∧ w'.cell? ⟨Q0, 10, none⟩ = some (.slice D dl dc) ∧ w'.cell? ⟨Q0, 11, none⟩ = some (.slice none 0 0)) := fun w' hb => ⟨hb, ((hB0.below hb).cell 10).trans rfl, ((hB0.below hb).cell 11).trans rfl⟩
        have hS0 := keepS _ (below_drew (Below.refl _ _))
        have HQ := Lib.hid (And.intro hQ0 (And.intro hzW (And.intro hs hqs)))
        clear hQ0 hzW hs hqs pb pe pr xa xb pbW peW hown hcs hb hbW hbB ih c0 c1 c2 c3 c4 c5 c6 c7 c8 c9 c10 c11
        refine wp_walk_tail 7 (by kernel_rfl) (by kernel_rfl) (fun w w' => Below w.heap.size w w') (fun w' => (Below W.heap.size W w' ∧ w'.cell? ⟨Q0, 10, none⟩ = some (.slice D dl dc) ∧ w'.cell? ⟨Q0, 11, none⟩ = some (.slice none 0 0))) hS0 ?_
        simp only [List.length_cons, List.length_nil, Nat.reduceAdd, Nat.reduceSub, List.take_succ_cons, List.take_zero, List.drop_succ_cons, List.drop_zero]
        repeat (first | (refine settle_skip (fun _ => by rfl) ?_; (simp only [Act.put, List.setIfInBounds_toArray, List.set_cons_zero, List.set_cons_succ])) | (refine' settle_run (fun _ _ => Below.refl _ _) (fun _ => by rfl) ?_ ?_; rotate_left; (focus (intro ρ w hS hF; (try dsimp only at hS); go_split_ands; go_simp; try with_reducible rfl)); (simp only [Act.put, List.setIfInBounds_toArray, List.set_cons_zero, List.set_cons_succ])))
        (refine settle_known (FSP (newS B W.heap.size) (St.plain body)) (by rfl) (fun _ => by rfl)  ?_ ?_; (focus (intro ρ w hS hF K hK; (simp only [Act.put, List.setIfInBounds_toArray, List.set_cons_zero, List.set_cons_succ] at hK); go_simp; (refine (gB _ hS.1).mono ?_; rintro e w' ⟨v, rfl, hF', hb'⟩; exact hK _ _ hF' (keepS _ (below_next hb' hS.1)) hb'))); (simp only [Act.put, List.setIfInBounds_toArray, List.set_cons_zero, List.set_cons_succ]))
        repeat (first | (refine settle_skip (fun _ => by rfl) ?_; (simp only [Act.put, List.setIfInBounds_toArray, List.set_cons_zero, List.set_cons_succ])) | (refine' settle_run (fun _ _ => Below.refl _ _) (fun _ => by rfl) ?_ ?_; rotate_left; (focus (intro ρ w hS hF; (try dsimp only at hS); go_split_ands; go_simp; try with_reducible rfl)); (simp only [Act.put, List.setIfInBounds_toArray, List.set_cons_zero, List.set_cons_succ])))
        (refine settle_known (FSP (newS B W.heap.size) (St.plain St.P.nil)) (by rfl) (fun _ => by rfl)  ?_ ?_; (focus (intro ρ w hS hF K hK; (simp only [Act.put, List.setIfInBounds_toArray, List.set_cons_zero, List.set_cons_succ] at hK); go_simp; (refine (gE _ hS.1).mono ?_; rintro e w' ⟨v, rfl, hF', hb'⟩; exact hK _ _ hF' (keepS _ (below_next hb' hS.1)) hb'))); (simp only [Act.put, List.setIfInBounds_toArray, List.set_cons_zero, List.set_cons_succ]))
        repeat (first | (refine settle_skip (fun _ => by rfl) ?_; (simp only [Act.put, List.setIfInBounds_toArray, List.set_cons_zero, List.set_cons_succ])) | (refine' settle_run (fun _ _ => Below.refl _ _) (fun _ => by rfl) ?_ ?_; rotate_left; (focus (intro ρ w hS hF; (try dsimp only at hS); go_split_ands; go_simp; try with_reducible rfl)); (simp only [Act.put, List.setIfInBounds_toArray, List.set_cons_zero, List.set_cons_succ])))
        refine settle_nil ?_
        intro ρ w4 hS hF
        have hu1 : SP (newS B W.heap.size) w4 (ρ 26) (St.plain body) := hF 26 (FSP (newS B W.heap.size) (St.plain body)) (by repeat (first | exact List.mem_cons_self | apply List.mem_cons_of_mem))
        have hu2 : SP (newS B W.heap.size) w4 (ρ 29) (St.plain St.P.nil) := hF 29 (FSP (newS B W.heap.size) (St.plain St.P.nil)) (by repeat (first | exact List.mem_cons_self | apply List.mem_cons_of_mem))
        have hb4 := hS.1
        clear hF hS hS0 keepS gB gE
        dsimp only
        generalize ρ 26 = U1 at hu1 ⊢
        generalize ρ 29 = U2 at hu2 ⊢
        obtain ⟨D1, m1, k1, rfl, f1, f1', s1⟩ := hu1
        obtain ⟨D2, m2, k2, rfl, f2, f2', s2⟩ := hu2
        have hB4 := hB0.below hb4
        have hown4 := hownW.kept (grown_of_below hb4 none) (by rcases hownW.2 with ⟨rfl, _⟩ | ⟨g', _, _, rfl, _⟩ <;> simp [Value.ownBlock])
        have hl4 := hb4.size
        have hWq : W.heap.size = Q0 + 1 := HQ.out.2.1
        clear hB0 hownW
        refine wpl_set_blk hB4 10 (.slice D1 m1 k1) (by kernel_rfl) (by simp) rfl rfl rfl rfl rfl rfl ?_
        intro w5 hB5 hg5
        have hend : ∀ w6, w5.grownBy w6 (some Q0) → w.heap.size ≤ w6.heap.size ∧ w6.ownsRow w.heap.size 38 12 u3 k cs ∧ CS (fun b => (b < B ∨ w.heap.size ≤ b) ∧ some b ≠ u3.ownBlock) w6 (cs ++ stcells 6 ⟨#[]⟩ (xcells 1 1 ⟨#[]⟩ none 0 0) (xcells 0 0 ⟨#[]⟩ none 0 0) D1 m1 k1 D2 m2 k2) (k + 1) (dn ++ .cons 6 [] (.num 1) .bad (St.plain body) (St.plain St.P.nil) .nil) ∧ PR B w6 (some ⟨g, o + (k + 1) * 12, none⟩) (n - k - 1) rest ∧ Below w.heap.size w w6 := fun w6 hg6 => by
          have hl5 := hg5.size
          have hl6 := hg6.size
          have gw : w4.grownBy w6 (some Q0) := grown_trans hg5 hg6
          have s1' := s1.go (S' := fun b => (b < B ∨ w.heap.size ≤ b) ∧ some b ≠ u3.ownBlock) gw (fun b _ hb => by
            unfold newS at hb
            exact ⟨⟨by omega, fun e => by have := hol b e.symm; omega⟩, fun e => by injection e with e; omega⟩)
          have s2' := s2.go (S' := fun b => (b < B ∨ w.heap.size ≤ b) ∧ some b ≠ u3.ownBlock) gw (fun b _ hb => by
            unfold newS at hb
            exact ⟨⟨by omega, fun e => by have := hol b e.symm; omega⟩, fun e => by injection e with e; omega⟩)
          have hbB4 : Below B W w4 := hb4.mono hBW
          have hbB6 : Below B W w6 := hbB4.trans (below_of_grown gw (by omega) (by omega))
          have hbw6 : Below w.heap.size w w6 := (hbw.trans (hb4.mono hbw.size)).trans (below_of_grown gw (by omega) (by omega))
          have hcs6 := hcsW.go (S' := fun b => (b < B ∨ w.heap.size ≤ b) ∧ some b ≠ u3.ownBlock) (grown_trans (grown_of_below hb4 (some Q0)) gw) (fun b _ hb => ⟨hb.1, fun e => by injection e with e; exact hb.2 e⟩)
          have hSB : ∀ b, b < B → (b < B ∨ w.heap.size ≤ b) ∧ some b ≠ u3.ownBlock := fun b hb => ⟨.inl hb, fun e => by have := hol b e.symm; omega⟩
          refine ⟨by omega, hown4.kept gw (.inr fun e => by have := hol Q0 e; omega), hcs6.append (CS.one ⟨f1, f1', f2, f2'⟩ (XS.of (xnum w6 1 (by unfold Ex.rng; omega)) (Nat.zero_le _) (fun b hb => absurd hb (Nat.not_lt_zero b))) (XS.of (xbad w6) (Nat.zero_le _) (fun b hb => absurd hb (Nat.not_lt_zero b))) s1' s2'), prW.later hbB6, hbw6⟩
        have n63 : k + 1 ≤ maxLen := by unfold maxLen; omega
        have n47 : (k + 1) * 184 ≤ 140737488355328 := by omega
        clear hcsW xaW xbW prW hbw hB4 hown4 s1 s2 f1 f1' f2 f2' hWq
        go_wp2_with (first | (refine wpl_set_blk hB5 11 (.slice D2 m2 k2) (by kernel_rfl) (by simp) rfl rfl rfl rfl rfl rfl ?_; intro w6 hB6 hg6; simp only [List.set_cons_succ, List.set_cons_zero] at hB6; obtain ⟨hl6, hown6, hcs6, pr6, hbw6⟩ := hend w6 hg6; clear hend hB5 hg5 hg6 hb4 hl4 hol) | (refine wpl_get_blk (ty := 38) hB6 (by kernel_rfl) (by kernel_rfl) rfl rfl rfl ?_) | (at_builtin; refine wp_push w6 _ _ w.heap.size _ _ _ _ _ Try.underlying22 info_stmt rfl (by decide) hown6 [.int .i64 6, .string ⟨#[]⟩, .int .i64 1, .int .i64 1, .string ⟨#[]⟩, .slice none 0 0, .int .i64 0, .int .i64 0, .string ⟨#[]⟩, .slice none 0 0, .slice D1 m1 k1, .slice D2 m2 k2] rfl (stcells_one _ _ _ _ _ _ _ _ _ _ _ _ _ _ _ _ _ _ _ _) n63 n47 hl6 rfl rfl rfl rfl ?_; intro v7 w7 hown7 hg7 hv7 hb7; clear hB6))
        have hcs7 := hcs6.row (S' := fun b => b < B ∨ w.heap.size ≤ b) hown6 hg7 (hv7.imp id fun e => ⟨_, Nat.le_succ _, e⟩) (fun b _ hb => hb)
        have pr7 := pr6.later (hb7.mono hB)
        have hb7' := hbw6.trans hb7
        have HP := Lib.hid (show (dn ++ .cons 6 [] (.num 1) .bad (St.plain body) (St.plain St.P.nil) .nil) ++ St.plain rest = St.plain p by
          rw [← HQ.out.2.2.2.2, St.P.append_assoc, St.P.cons_append, St.P.nil_append]
          first | done | (congr 1 <;> simp [St.plain]))
        clear hcs6 hown6 hg7 hv7 hb7 pr6 hbw6
        go_roundw
        case rel => exact ⟨k + 1, rest, _, _, by omega, by go_num, hown7, hcs7, by rw [show n - (k + 1) = n - k - 1 by omega]; exact pr7, hb7', HQ.out.2.2.1.2.2, HP.out⟩
        case measure => simp [intOf]; omega
      · have K45 : ¬ (kd = 4 ∨ kd = 5) := by simp at k4 k5; omega
        have HK45 := Lib.hid K45
        clear K45
        obtain ⟨Q0, hQ0⟩ : ∃ Q0, Q0 = wr.heap.size := ⟨_, rfl⟩
        have hB0 := Blk.new wr 38 [.int .i64 kd, .string nm, .int .i64 ak, .int .i64 an, .string sa, .slice aA al ac, .int .i64 bk, .int .i64 bn, .string sb, .slice bA bl bc, .slice D dl dc, .slice E el ec]
        have hbW : Below wr.heap.size wr (wr.alloc (.cells ([.int .i64 kd, .string nm, .int .i64 ak, .int .i64 an, .string sa, .slice aA al ac, .int .i64 bk, .int .i64 bn, .string sb, .slice bA bl bc, .slice D dl dc, .slice E el ec] : List Value).toArray 38)) := below_alloc (Below.refl _ _) _
        have hzW : (wr.alloc (.cells ([.int .i64 kd, .string nm, .int .i64 ak, .int .i64 an, .string sa, .slice aA al ac, .int .i64 bk, .int .i64 bn, .string sb, .slice bA bl bc, .slice D dl dc, .slice E el ec] : List Value).toArray 38)).heap.size = wr.heap.size + 1 := by simp
        rw [← hQ0] at hB0 hzW
        go_wp2_with fail
        rw [← hQ0]
        generalize (wr.alloc (.cells ([.int .i64 kd, .string nm, .int .i64 ak, .int .i64 an, .string sa, .slice aA al ac, .int .i64 bk, .int .i64 bn, .string sb, .slice bA bl bc, .slice D dl dc, .slice E el ec] : List Value).toArray 38)) = W at hB0 hbW hzW ⊢
        have hcsW := hcs.go (S' := fun b => ((b < B ∨ w.heap.size ≤ b) ∧ some b ≠ u3.ownBlock) ∧ b ≠ Q0) (grown_of_below hbW none) (fun b hl hb => ⟨⟨hb, by omega⟩, by simp⟩)
        have hownW := hown.kept (grown_of_below hbW none) (by rcases hown.2 with ⟨rfl, _⟩ | ⟨g', _, _, rfl, _⟩ <;> simp [Value.ownBlock])
        have hbB := hbW.mono hBr
        have xaW := xa.later hbB
        have xbW := xb.later hbB
        have pbW := pb.later hbB
        have peW := pe.later hbB
        have prW := pr.later hbB
        have hbw := below_next hbW hb
        have hBW : B ≤ W.heap.size := Nat.le_trans hBr hbW.size
        have hol : ∀ gg, u3.ownBlock = some gg → w.heap.size ≤ gg ∧ gg < Q0 := fun gg e => by rw [hQ0]; exact hown.lt gg e
        have hqw : w.heap.size ≤ Q0 := by rw [hQ0]; exact hb.size
        have gB : ∀ (w' : World), Below W.heap.size W w' → Calls Try.prog 13 #[.slice D dl dc] w' fun e w'' => ∃ v, e = .returned v ∧ SP (newS B W.heap.size) w'' v (St.plain body) ∧ Below w'.heap.size w' w'' := fun w' hb' =>
          (ih body hs.1 w' B dl dc D (Nat.le_trans hBW hb'.size) (pbW.later (hb'.mono hBW)) hd1 hd2 (by omega)).mono fun e w'' ⟨v, h1, h2, h3⟩ => ⟨v, h1, h2.go (World.grownBy.refl w'' none) fun b _ hb => ⟨hb.imp id fun h => Nat.le_trans hb'.size h, by simp⟩, h3⟩
        have gE : ∀ (w' : World), Below W.heap.size W w' → Calls Try.prog 13 #[.slice E el ec] w' fun e w'' => ∃ v, e = .returned v ∧ SP (newS B W.heap.size) w'' v (St.plain els) ∧ Below w'.heap.size w' w'' := fun w' hb' =>
          (ih els (by first | exact hs.2.1 | (simp only [St.P.size]; omega)) w' B _ _ _ (Nat.le_trans hBW hb'.size) (by first | exact peW.later (hb'.mono hBW) | exact .nil _) (by first | exact he1 | decide) (by first | exact he2 | decide) (by first | omega | (simp only [St.P.size]; omega))).mono fun e w'' ⟨v, h1, h2, h3⟩ => ⟨v, h1, h2.go (World.grownBy.refl w'' none) fun b _ hb => ⟨hb.imp id fun h => Nat.le_trans hb'.size h, by simp⟩, h3⟩
        have keepS : ∀ w', Below W.heap.size W w' → (Below W.heap.size W w' ∧ w'.cell? ⟨Q0, 10, none⟩ = some (.slice D dl dc) ∧ w'.cell? ⟨Q0, 11, none⟩ = some (.slice E el ec)) := fun w' hb => ⟨hb, ((hB0.below hb).cell 10).trans rfl, ((hB0.below hb).cell 11).trans rfl⟩
        have hS0 := keepS _ (below_drew (Below.refl _ _))
        have HQ := Lib.hid (And.intro hQ0 (And.intro hzW (And.intro hs hqs)))
        clear hQ0 hzW hs hqs pb pe pr xa xb pbW peW hown hcs hb hbW hbB ih c0 c1 c2 c3 c4 c5 c6 c7 c8 c9 c10 c11
        refine wp_walk_tail 7 (by kernel_rfl) (by kernel_rfl) (fun w w' => Below w.heap.size w w') (fun w' => (Below W.heap.size W w' ∧ w'.cell? ⟨Q0, 10, none⟩ = some (.slice D dl dc) ∧ w'.cell? ⟨Q0, 11, none⟩ = some (.slice E el ec))) hS0 ?_
        simp only [List.length_cons, List.length_nil, Nat.reduceAdd, Nat.reduceSub, List.take_succ_cons, List.take_zero, List.drop_succ_cons, List.drop_zero]
        repeat (first | (refine settle_skip (fun _ => by rfl) ?_; (simp only [Act.put, List.setIfInBounds_toArray, List.set_cons_zero, List.set_cons_succ])) | (refine' settle_run (fun _ _ => Below.refl _ _) (fun _ => by rfl) ?_ ?_; rotate_left; (focus (intro ρ w hS hF; (try dsimp only at hS); go_split_ands; go_simp; try with_reducible rfl)); (simp only [Act.put, List.setIfInBounds_toArray, List.set_cons_zero, List.set_cons_succ])))
        (refine settle_known (FSP (newS B W.heap.size) (St.plain body)) (by rfl) (fun _ => by rfl)  ?_ ?_; (focus (intro ρ w hS hF K hK; (simp only [Act.put, List.setIfInBounds_toArray, List.set_cons_zero, List.set_cons_succ] at hK); go_simp; (refine (gB _ hS.1).mono ?_; rintro e w' ⟨v, rfl, hF', hb'⟩; exact hK _ _ hF' (keepS _ (below_next hb' hS.1)) hb'))); (simp only [Act.put, List.setIfInBounds_toArray, List.set_cons_zero, List.set_cons_succ]))
        repeat (first | (refine settle_skip (fun _ => by rfl) ?_; (simp only [Act.put, List.setIfInBounds_toArray, List.set_cons_zero, List.set_cons_succ])) | (refine' settle_run (fun _ _ => Below.refl _ _) (fun _ => by rfl) ?_ ?_; rotate_left; (focus (intro ρ w hS hF; (try dsimp only at hS); go_split_ands; go_simp; try with_reducible rfl)); (simp only [Act.put, List.setIfInBounds_toArray, List.set_cons_zero, List.set_cons_succ])))
        (refine settle_known (FSP (newS B W.heap.size) (St.plain els)) (by rfl) (fun _ => by rfl)  ?_ ?_; (focus (intro ρ w hS hF K hK; (simp only [Act.put, List.setIfInBounds_toArray, List.set_cons_zero, List.set_cons_succ] at hK); go_simp; (refine (gE _ hS.1).mono ?_; rintro e w' ⟨v, rfl, hF', hb'⟩; exact hK _ _ hF' (keepS _ (below_next hb' hS.1)) hb'))); (simp only [Act.put, List.setIfInBounds_toArray, List.set_cons_zero, List.set_cons_succ]))
        repeat (first | (refine settle_skip (fun _ => by rfl) ?_; (simp only [Act.put, List.setIfInBounds_toArray, List.set_cons_zero, List.set_cons_succ])) | (refine' settle_run (fun _ _ => Below.refl _ _) (fun _ => by rfl) ?_ ?_; rotate_left; (focus (intro ρ w hS hF; (try dsimp only at hS); go_split_ands; go_simp; try with_reducible rfl)); (simp only [Act.put, List.setIfInBounds_toArray, List.set_cons_zero, List.set_cons_succ])))
        refine settle_nil ?_
        intro ρ w4 hS hF
        have hu1 : SP (newS B W.heap.size) w4 (ρ 26) (St.plain body) := hF 26 (FSP (newS B W.heap.size) (St.plain body)) (by repeat (first | exact List.mem_cons_self | apply List.mem_cons_of_mem))
        have hu2 : SP (newS B W.heap.size) w4 (ρ 29) (St.plain els) := hF 29 (FSP (newS B W.heap.size) (St.plain els)) (by repeat (first | exact List.mem_cons_self | apply List.mem_cons_of_mem))
        have hb4 := hS.1
        clear hF hS hS0 keepS gB gE
        dsimp only
        generalize ρ 26 = U1 at hu1 ⊢
        generalize ρ 29 = U2 at hu2 ⊢
        obtain ⟨D1, m1, k1, rfl, f1, f1', s1⟩ := hu1
        obtain ⟨D2, m2, k2, rfl, f2, f2', s2⟩ := hu2
        have hB4 := hB0.below hb4
        have hown4 := hownW.kept (grown_of_below hb4 none) (by rcases hownW.2 with ⟨rfl, _⟩ | ⟨g', _, _, rfl, _⟩ <;> simp [Value.ownBlock])
        have hl4 := hb4.size
        have hWq : W.heap.size = Q0 + 1 := HQ.out.2.1
        clear hB0 hownW
        refine wpl_set_blk hB4 10 (.slice D1 m1 k1) (by kernel_rfl) (by simp) rfl rfl rfl rfl rfl rfl ?_
        intro w5 hB5 hg5
        have hend : ∀ w6, w5.grownBy w6 (some Q0) → w.heap.size ≤ w6.heap.size ∧ w6.ownsRow w.heap.size 38 12 u3 k cs ∧ CS (fun b => (b < B ∨ w.heap.size ≤ b) ∧ some b ≠ u3.ownBlock) w6 (cs ++ stcells kd nm (xcells ak an sa aA al ac) (xcells bk bn sb bA bl bc) D1 m1 k1 D2 m2 k2) (k + 1) (dn ++ .cons kd nm.data.toList ea eb (St.plain body) (St.plain els) .nil) ∧ PR B w6 (some ⟨g, o + (k + 1) * 12, none⟩) (n - k - 1) rest ∧ Below w.heap.size w w6 := fun w6 hg6 => by
          have hl5 := hg5.size
          have hl6 := hg6.size
          have gw : w4.grownBy w6 (some Q0) := grown_trans hg5 hg6
          have s1' := s1.go (S' := fun b => (b < B ∨ w.heap.size ≤ b) ∧ some b ≠ u3.ownBlock) gw (fun b _ hb => by
            unfold newS at hb
            exact ⟨⟨by omega, fun e => by have := hol b e.symm; omega⟩, fun e => by injection e with e; omega⟩)
          have s2' := s2.go (S' := fun b => (b < B ∨ w.heap.size ≤ b) ∧ some b ≠ u3.ownBlock) gw (fun b _ hb => by
            unfold newS at hb
            exact ⟨⟨by omega, fun e => by have := hol b e.symm; omega⟩, fun e => by injection e with e; omega⟩)
          have hbB4 : Below B W w4 := hb4.mono hBW
          have hbB6 : Below B W w6 := hbB4.trans (below_of_grown gw (by omega) (by omega))
          have hbw6 : Below w.heap.size w w6 := (hbw.trans (hb4.mono hbw.size)).trans (below_of_grown gw (by omega) (by omega))
          have hcs6 := hcsW.go (S' := fun b => (b < B ∨ w.heap.size ≤ b) ∧ some b ≠ u3.ownBlock) (grown_trans (grown_of_below hb4 (some Q0)) gw) (fun b _ hb => ⟨hb.1, fun e => by injection e with e; exact hb.2 e⟩)
          have hSB : ∀ b, b < B → (b < B ∨ w.heap.size ≤ b) ∧ some b ≠ u3.ownBlock := fun b hb => ⟨.inl hb, fun e => by have := hol b e.symm; omega⟩
          refine ⟨by omega, hown4.kept gw (.inr fun e => by have := hol Q0 e; omega), hcs6.append (CS.one ⟨f1, f1', f2, f2'⟩ (XS.of (xaW.later hbB6) (by omega) hSB) (XS.of (xbW.later hbB6) (by omega) hSB) s1' s2'), prW.later hbB6, hbw6⟩
        have n63 : k + 1 ≤ maxLen := by unfold maxLen; omega
        have n47 : (k + 1) * 184 ≤ 140737488355328 := by omega
        clear hcsW xaW xbW prW hbw hB4 hown4 s1 s2 f1 f1' f2 f2' hWq
        go_wp2_with (first | (refine wpl_set_blk hB5 11 (.slice D2 m2 k2) (by kernel_rfl) (by simp) rfl rfl rfl rfl rfl rfl ?_; intro w6 hB6 hg6; simp only [List.set_cons_succ, List.set_cons_zero] at hB6; obtain ⟨hl6, hown6, hcs6, pr6, hbw6⟩ := hend w6 hg6; clear hend hB5 hg5 hg6 hb4 hl4 hol) | (refine wpl_get_blk (ty := 38) hB6 (by kernel_rfl) (by kernel_rfl) rfl rfl rfl ?_) | (at_builtin; refine wp_push w6 _ _ w.heap.size _ _ _ _ _ Try.underlying22 info_stmt rfl (by decide) hown6 [.int .i64 kd, .string nm, .int .i64 ak, .int .i64 an, .string sa, .slice aA al ac, .int .i64 bk, .int .i64 bn, .string sb, .slice bA bl bc, .slice D1 m1 k1, .slice D2 m2 k2] rfl (stcells_one _ _ _ _ _ _ _ _ _ _ _ _ _ _ _ _ _ _ _ _) n63 n47 hl6 rfl rfl rfl rfl ?_; intro v7 w7 hown7 hg7 hv7 hb7; clear hB6))
        have hcs7 := hcs6.row (S' := fun b => b < B ∨ w.heap.size ≤ b) hown6 hg7 (hv7.imp id fun e => ⟨_, Nat.le_succ _, e⟩) (fun b _ hb => hb)
        have pr7 := pr6.later (hb7.mono hB)
        have hb7' := hbw6.trans hb7
        have HP := Lib.hid (show (dn ++ .cons kd nm.data.toList ea eb (St.plain body) (St.plain els) .nil) ++ St.plain rest = St.plain p by
          rw [← HQ.out.2.2.2.2, St.P.append_assoc, St.P.cons_append, St.P.nil_append]
          first | done | (congr 1 <;> simp [St.plain, HK45.out]))
        clear hcs6 hown6 hg7 hv7 hb7 pr6 hbw6
        go_roundw
        case rel => exact ⟨k + 1, rest, _, _, by omega, by go_num, hown7, hcs7, by rw [show n - (k + 1) = n - k - 1 by omega]; exact pr7, hb7', HQ.out.2.2.1.2.2, HP.out⟩
        case measure => simp [intOf]; omega
    · have HK := Lib.hid (show k = n by omega)
      go_wp2
      go_ret
      have hq0 := hq
      rw [HK.out, Nat.sub_self] at hq0
      have hq' := hq0.zero
      subst hq'
      refine ⟨_, rfl, ?_, hb⟩
      rw [← hqs.2, St.plain, St.P.append_nil]
      refine (SP.of_own hcs hown).go (World.grownBy.refl wr none) fun b _ hb => ⟨?_, by simp⟩
      rcases hb with hb | hb
      · exact hb.1
      · exact .inr (hown.lt b hb.symm).1
theorem plain_any (p : St.P) : PlainOK p := by
  suffices h : ∀ n, ∀ q : St.P, q.size ≤ n → PlainOK q from h _ p (Nat.le_refl _)
  intro n
  induction n with
  | zero => exact fun q hq => plain_step q fun r hr => by omega
  | succ n ih => exact fun q hq => plain_step q fun r hr => ih r (by omega)
end Go.Proofs.Ytgaafgjhkkjalaa


namespace Go.Proofs.Ytgaafgjhkkjalaa
set_option linter.unusedVariables false
set_option linter.unusedSimpArgs false
set_option maxRecDepth 100000
open Go.RowKit

theorem plus_any (a b : Nat) (w : World) (h : a + b ≤ 8388608) : Calls Try.prog 28 #[.int .i64 a, .int .i64 b] w fun e w' => e = .returned (.int .i64 ((a + b : Nat) : Int)) ∧ w = w' := by
  go_enter Try.func28, Try.ntmps28
  go_wp2
  go_ret
  exact ⟨ret_int (by omega), rfl⟩
theorem most_any (a b : Nat) (w : World) : Calls Try.prog 29 #[.int .i64 a, .int .i64 b] w fun e w' => e = .returned (.int .i64 ((max a b : Nat) : Int)) ∧ w = w' := by
  go_enter Try.func29, Try.ntmps29
  go_wp2
  go_ret
  exact ⟨ret_int (by omega), rfl⟩

def Sp.val (m : Bool) (t : Sp.T) : Nat := if m then t.span else t.width
theorem Sp.val_le (m : Bool) (t : Sp.T) : Sp.val m t ≤ t.size := by cases m; exact t.width_le; exact t.span_le
def seqF (m : Bool) : Value := .func (Fn.func (if m then 28 else 29)) #[] #[]
def parF (m : Bool) : Value := .func (Fn.func (if m then 29 else 28)) #[] #[]

set_option maxHeartbeats 4000000 in
theorem sum_any (m : Bool) : ∀ (t : Sp.T) (B : Nat) (w : World) (cs : List Value), TmR B w cs t → B ≤ w.heap.size → t.size ≤ 4194304 →
    Calls Try.prog 27 #[.agg cs.toArray, seqF m, parF m] w fun e w' => e = .returned (.int .i64 (Sp.val m t : Nat)) ∧ Below w.heap.size w w' := by
  intro t
  induction t with
  | nil =>
    intro B w cs hT hB hn
    have hv : Sp.val m .nil = 0 := by cases m <;> rfl
    rw [hv]
    clear hv hn
    cases hT with
    | nil k c b l A n cap hm hcap hk1 hk2 =>
    unfold tcells
    generalize seqF m = F1
    generalize parF m = F2
    unfold maxLen at hcap
    have e1 : (k == 1) = false := by simpa using hk1
    have hb : Below w.heap.size w (w.alloc (.cells #[.int .i64 k, .int .i64 c, .bool b, .int .i64 l, .slice A n cap] 30)) := below_alloc (Below.refl _ _) _
    by_cases k2 : k = 2
    · subst k2
      have hm2 : ¬ 2 ≤ n := fun h => hk2 ⟨.inl rfl, h⟩
      clear hk2 hk1
      go_enter Try.func27, Try.ntmps27
      go_wp2
      go_ret
      exact ⟨rfl, hb⟩
    · by_cases k3 : k = 3
      · subst k3
        have hm2 : ¬ 2 ≤ n := fun h => hk2 ⟨.inr rfl, h⟩
        clear hk2 hk1
        go_enter Try.func27, Try.ntmps27
        go_wp2
        go_ret
        exact ⟨rfl, hb⟩
      · have e2 : (k != 2) = true := by simpa using k2
        have e3 : (k != 3) = true := by simpa using k3
        clear hk2 hk1
        go_enter Try.func27, Try.ntmps27
        go_wp2
        go_ret
        exact ⟨rfl, hb⟩
  | one c b l =>
    intro B w cs hT hB hn
    have hv : Sp.val m (.one c b l) = 1 := by cases m <;> rfl
    rw [hv]
    clear hv hn
    cases hT with
    | one c b l A n cap hm hcap =>
    unfold tcells
    generalize seqF m = F1
    generalize parF m = F2
    unfold maxLen at hcap
    have hb : Below w.heap.size w (w.alloc (.cells #[.int .i64 1, .int .i64 c, .bool b, .int .i64 l, .slice A n cap] 30)) := below_alloc (Below.refl _ _) _
    go_enter Try.func27, Try.ntmps27
    go_wp2
    go_ret
    exact ⟨rfl, hb⟩
  | two par t0 t1 ih0 ih1 =>
    intro B w cs hT hB hn
    rw [Sp.T.size_two] at hn
    cases hT with
    | two par c b l g o n cap cs0 cs1 t0 t1 hm hcap h2 hg h5 h6 r0 r1 =>
    have hwB : w.heap.size ≤ (w.alloc (.cells (tcells (if par then 3 else 2) c b l (some ⟨g, o, none⟩) n cap).toArray 30)).heap.size := by simp
    have hP := Blk.new w 30 (tcells (if par then 3 else 2) c b l (some ⟨g, o, none⟩) n cap)
    have hbw : Below w.heap.size w (w.alloc (.cells (tcells (if par then 3 else 2) c b l (some ⟨g, o, none⟩) n cap).toArray 30)) := below_alloc (Below.refl _ _) _
    have q0 := r0.alloc hB (.cells (tcells (if par then 3 else 2) c b l (some ⟨g, o, none⟩) n cap).toArray 30)
    have q1 := r1.alloc hB (.cells (tcells (if par then 3 else 2) c b l (some ⟨g, o, none⟩) n cap).toArray 30)
    have hgw : g < w.heap.size := by omega
    have hc5 := fun j u hu => (World.cell?_alloc_lt w (.cells (tcells (if par then 3 else 2) c b l (some ⟨g, o, none⟩) n cap).toArray 30) ⟨g, o + j, none⟩ hgw).trans (h5 j u hu)
    have hc6 := fun j u hu => (World.cell?_alloc_lt w (.cells (tcells (if par then 3 else 2) c b l (some ⟨g, o, none⟩) n cap).toArray 30) ⟨g, o + 5 + j, none⟩ hgw).trans (h6 j u hu)
    obtain ⟨a0, a1, a2, a3, A4, a5, a6, rfl, -, -⟩ := r0.form
    obtain ⟨b0, b1, b2, b3, B4, b5, b6, rfl, -, -⟩ := r1.form
    clear h5 h6 r0 r1
    have v0 := Sp.val_le m t0
    have v1 := Sp.val_le m t1
    have hval : Sp.val m (.two par t0 t1) = if par = m then max (Sp.val m t0) (Sp.val m t1) else Sp.val m t0 + Sp.val m t1 := by
      cases m <;> cases par <;> simp [Sp.val, Sp.T.span, Sp.T.width]
    have HV := Lib.hid hval
    have hr0 := fun w' (h : TmR B w' (tcells a0 a1 a2 a3 A4 a5 a6) t0) (hb : B ≤ w'.heap.size) => ih0 B w' _ h hb (by omega)
    have hr1 := fun w' (h : TmR B w' (tcells b0 b1 b2 b3 B4 b5 b6) t1) (hb : B ≤ w'.heap.size) => ih1 B w' _ h hb (by omega)
    obtain ⟨z0, hz0⟩ : ∃ z, z = Sp.val m t0 := ⟨_, rfl⟩
    obtain ⟨z1, hz1⟩ : ∃ z, z = Sp.val m t1 := ⟨_, rfl⟩
    rw [← hz0] at hr0 v0 HV
    rw [← hz1] at hr1 v1 HV
    clear hval hz0 hz1 ih0 ih1
    have x0 := hc5 0 _ rfl
    have x1 := hc5 1 _ rfl
    have x2 := hc5 2 _ rfl
    have x3 := hc5 3 _ rfl
    have x4 := hc5 4 _ rfl
    have y0 := hc6 0 _ rfl
    have y1 := hc6 1 _ rfl
    have y2 := hc6 2 _ rfl
    have y3 := hc6 3 _ rfl
    have y4 := hc6 4 _ rfl
    rw [Nat.add_zero] at x0 y0
    clear hc5 hc6
    unfold maxLen at hcap
    have m0 : (0 : Int) < (n : Int) := by omega
    have m1 : (1 : Int) < (n : Int) := by omega
    have m2 : 0 < n := by omega
    have m3 : 1 < n := by omega
    have hgq : g < (w.alloc (.cells (tcells (if par then 3 else 2) c b l (some ⟨g, o, none⟩) n cap).toArray 30)).heap.size := by simp; omega
    have hB1 : B ≤ (w.alloc (.cells (tcells (if par then 3 else 2) c b l (some ⟨g, o, none⟩) n cap).toArray 30)).heap.size := by simp; omega
    have hfin : ∀ (p m : Bool) (z0 z1 : Nat) (w : World), z0 + z1 ≤ 8388608 → p = m → Calls Try.prog 29 #[.int .i64 z0, .int .i64 z1] w fun e w' => e = .returned (.int .i64 ((if p = m then max z0 z1 else z0 + z1 : Nat) : Int)) ∧ w = w' := fun p m z0 z1 w hz h => by
      rw [if_pos h]; exact most_any z0 z1 w
    have hfin2 : ∀ (p m : Bool) (z0 z1 : Nat) (w : World), z0 + z1 ≤ 8388608 → ¬ p = m → Calls Try.prog 28 #[.int .i64 z0, .int .i64 z1] w fun e w' => e = .returned (.int .i64 ((if p = m then max z0 z1 else z0 + z1 : Nat) : Int)) ∧ w = w' := fun p m z0 z1 w hz h => by
      rw [if_neg h]; exact plus_any z0 z1 w hz
    obtain ⟨F1, hF1⟩ : ∃ F, F = seqF m := ⟨_, rfl⟩
    obtain ⟨F2, hF2⟩ : ∃ F, F = parF m := ⟨_, rfl⟩
    rw [← hF1, ← hF2] at hr0 hr1 ⊢
    rw [HV.out]
    obtain ⟨Z, hZ⟩ : ∃ Z, Z = (if par = m then max z0 z1 else z0 + z1) := ⟨_, rfl⟩
    rw [← hZ]
    have HZ := Lib.hid hZ
    have HF1 := Lib.hid hF1
    have HF2 := Lib.hid hF2
    unfold tcells at hr0 hr1 hP hbw q0 q1 x0 x1 x2 x3 x4 y0 y1 y2 y3 y4 hgq hB1 ⊢
    clear hZ hF1 hF2 HV hwB hB
    rcases par with _ | _
    · simp only [Bool.false_eq_true, if_false] at *
      go_enter Try.func27, Try.ntmps27
      go_wp2_with fail
      have c4 := hP.cell 4
      have hql := hP.lt
      simp only [List.getElem?_cons_zero, List.getElem?_cons_succ] at c4
      have c4' : (w.alloc (.cells #[.int .i64 2, .int .i64 c, .bool b, .int .i64 l, .slice (some ⟨g, o, none⟩) n cap] 30)).cell? ⟨w.heap.size, 4, none⟩ = some (.slice (some ⟨g, o, none⟩) n cap) := c4
      have hql' : w.heap.size < (w.alloc (.cells #[.int .i64 2, .int .i64 c, .bool b, .int .i64 l, .slice (some ⟨g, o, none⟩) n cap] 30)).heap.size := hql
      clear c4 hP hql
      generalize (w.alloc (.cells #[.int .i64 2, .int .i64 c, .bool b, .int .i64 l, .slice (some ⟨g, o, none⟩) n cap] 30)) = w1 at hbw q0 q1 x0 x1 x2 x3 x4 y0 y1 y2 y3 y4 hgq hB1 c4' hql' ⊢
      obtain ⟨q, hq⟩ : ∃ q, q = w.heap.size := ⟨_, rfl⟩
      rw [← hq] at c4' hql' ⊢
      clear hq
      have keepS : ∀ w', Below w1.heap.size w1 w' → (Below w1.heap.size w1 w' ∧ w'.cell? ⟨q, 4, none⟩ = some (.slice (some ⟨g, o, none⟩) n cap) ∧ w'.cell? ⟨g, o, none⟩ = some (.int .i64 a0) ∧ w'.cell? ⟨g, o + 1, none⟩ = some (.int .i64 a1) ∧ w'.cell? ⟨g, o + 2, none⟩ = some (.bool a2) ∧ w'.cell? ⟨g, o + 3, none⟩ = some (.int .i64 a3) ∧ w'.cell? ⟨g, o + 4, none⟩ = some (.slice A4 a5 a6) ∧ w'.cell? ⟨g, o + 5, none⟩ = some (.int .i64 b0) ∧ w'.cell? ⟨g, o + 5 + 1, none⟩ = some (.int .i64 b1) ∧ w'.cell? ⟨g, o + 5 + 2, none⟩ = some (.bool b2) ∧ w'.cell? ⟨g, o + 5 + 3, none⟩ = some (.int .i64 b3) ∧ w'.cell? ⟨g, o + 5 + 4, none⟩ = some (.slice B4 b5 b6)) := fun w' hb =>
        ⟨hb, (hb.cell hql').trans c4', (hb.cell hgq).trans x0, (hb.cell hgq).trans x1, (hb.cell hgq).trans x2, (hb.cell hgq).trans x3, (hb.cell hgq).trans x4, (hb.cell hgq).trans y0, (hb.cell hgq).trans y1, (hb.cell hgq).trans y2, (hb.cell hgq).trans y3, (hb.cell hgq).trans y4⟩
      have hrec : ∀ w' (x : List Value) (z : Nat), Below w1.heap.size w1 w' → (x = [.int .i64 a0, .int .i64 a1, .bool a2, .int .i64 a3, .slice A4 a5 a6] ∧ z = z0) ∨ (x = [.int .i64 b0, .int .i64 b1, .bool b2, .int .i64 b3, .slice B4 b5 b6] ∧ z = z1) → Calls Try.prog 27 #[.agg x.toArray, F1, F2] w' fun e w'' => e = .returned (.int .i64 (z : Nat)) ∧ (Below w1.heap.size w1 w'' ∧ w''.cell? ⟨q, 4, none⟩ = some (.slice (some ⟨g, o, none⟩) n cap) ∧ w''.cell? ⟨g, o, none⟩ = some (.int .i64 a0) ∧ w''.cell? ⟨g, o + 1, none⟩ = some (.int .i64 a1) ∧ w''.cell? ⟨g, o + 2, none⟩ = some (.bool a2) ∧ w''.cell? ⟨g, o + 3, none⟩ = some (.int .i64 a3) ∧ w''.cell? ⟨g, o + 4, none⟩ = some (.slice A4 a5 a6) ∧ w''.cell? ⟨g, o + 5, none⟩ = some (.int .i64 b0) ∧ w''.cell? ⟨g, o + 5 + 1, none⟩ = some (.int .i64 b1) ∧ w''.cell? ⟨g, o + 5 + 2, none⟩ = some (.bool b2) ∧ w''.cell? ⟨g, o + 5 + 3, none⟩ = some (.int .i64 b3) ∧ w''.cell? ⟨g, o + 5 + 4, none⟩ = some (.slice B4 b5 b6)) := fun w' x z hb hx => by
        rcases hx with ⟨rfl, rfl⟩ | ⟨rfl, rfl⟩
        · exact (hr0 w' (q0.later (hb.mono hB1)) (Nat.le_trans hB1 hb.size)).mono fun e w'' ⟨h1, h2⟩ => ⟨h1, keepS _ (below_next h2 hb)⟩
        · exact (hr1 w' (q1.later (hb.mono hB1)) (Nat.le_trans hB1 hb.size)).mono fun e w'' ⟨h1, h2⟩ => ⟨h1, keepS _ (below_next h2 hb)⟩
      have hd := keepS _ (below_drew (Below.refl _ _))
      clear x0 x1 x2 x3 x4 y0 y1 y2 y3 y4 c4' hr0 hr1 q0 q1
      refine wp_walk (by kernel_rfl) (by kernel_rfl) (fun _ _ => True) (fun w' => Below w1.heap.size w1 w' ∧ w'.cell? ⟨q, 4, none⟩ = some (.slice (some ⟨g, o, none⟩) n cap) ∧ w'.cell? ⟨g, o, none⟩ = some (.int .i64 a0) ∧ w'.cell? ⟨g, o + 1, none⟩ = some (.int .i64 a1) ∧ w'.cell? ⟨g, o + 2, none⟩ = some (.bool a2) ∧ w'.cell? ⟨g, o + 3, none⟩ = some (.int .i64 a3) ∧ w'.cell? ⟨g, o + 4, none⟩ = some (.slice A4 a5 a6) ∧ w'.cell? ⟨g, o + 5, none⟩ = some (.int .i64 b0) ∧ w'.cell? ⟨g, o + 5 + 1, none⟩ = some (.int .i64 b1) ∧ w'.cell? ⟨g, o + 5 + 2, none⟩ = some (.bool b2) ∧ w'.cell? ⟨g, o + 5 + 3, none⟩ = some (.int .i64 b3) ∧ w'.cell? ⟨g, o + 5 + 4, none⟩ = some (.slice B4 b5 b6)) hd ?_
      repeat (first | (refine settle_skip (fun _ => by rfl) ?_; (simp only [Act.put, List.setIfInBounds_toArray, List.set_cons_zero, List.set_cons_succ])) | (refine' settle_run (fun _ _ => trivial) (fun _ => by rfl) ?_ ?_; rotate_left; (focus (intro ρ w hS hF; (try dsimp only at hS); go_split_ands; go_simp; try with_reducible rfl)); (simp only [Act.put, List.setIfInBounds_toArray, List.set_cons_zero, List.set_cons_succ])) | (refine' settle_step (fun _ => by rfl) ?_ ?_; rotate_left; (focus (intro ρ w hS hF K hK; (simp only [Act.put, List.setIfInBounds_toArray, List.set_cons_zero, List.set_cons_succ] at hK); go_simp; first | (go_at_call 27; refine (hrec _ _ _ hS.1 (by first | exact .inl ⟨rfl, rfl⟩ | exact .inr ⟨rfl, rfl⟩)).mono ?_; rintro e w' ⟨rfl, hS'⟩; have hE' := True.intro; exact hK _ hS' hE'))); (simp only [Act.put, List.setIfInBounds_toArray, List.set_cons_zero, List.set_cons_succ])))
      refine settle_nil ?_
      intro ρ wS hS _
      have hbS := hS.1
      clear hrec keepS hd hS
      obtain rfl := HF1.out
      obtain rfl := HF2.out
      unfold seqF parF
      rcases m with _ | _
      · simp only [Bool.false_eq_true, if_false]
        go_wp2_with fail
        refine (hfin false false z0 z1 _ (by omega) rfl).mono ?_
        rintro e w2 ⟨rfl, rfl⟩
        go_wp2
        go_ret
        exact ⟨by rw [HZ.out]; rfl, below_self hbw hbS⟩
      · simp only [if_true]
        go_wp2_with fail
        refine (hfin2 false true z0 z1 _ (by omega) (by decide)).mono ?_
        rintro e w2 ⟨rfl, rfl⟩
        go_wp2
        go_ret
        exact ⟨by rw [HZ.out]; rfl, below_self hbw hbS⟩
    · simp only [if_true] at *
      go_enter Try.func27, Try.ntmps27
      go_wp2_with fail
      have c4 := hP.cell 4
      have hql := hP.lt
      simp only [List.getElem?_cons_zero, List.getElem?_cons_succ] at c4
      have c4' : (w.alloc (.cells #[.int .i64 3, .int .i64 c, .bool b, .int .i64 l, .slice (some ⟨g, o, none⟩) n cap] 30)).cell? ⟨w.heap.size, 4, none⟩ = some (.slice (some ⟨g, o, none⟩) n cap) := c4
      have hql' : w.heap.size < (w.alloc (.cells #[.int .i64 3, .int .i64 c, .bool b, .int .i64 l, .slice (some ⟨g, o, none⟩) n cap] 30)).heap.size := hql
      clear c4 hP hql
      generalize (w.alloc (.cells #[.int .i64 3, .int .i64 c, .bool b, .int .i64 l, .slice (some ⟨g, o, none⟩) n cap] 30)) = w1 at hbw q0 q1 x0 x1 x2 x3 x4 y0 y1 y2 y3 y4 hgq hB1 c4' hql' ⊢
      obtain ⟨q, hq⟩ : ∃ q, q = w.heap.size := ⟨_, rfl⟩
      rw [← hq] at c4' hql' ⊢
      clear hq
      have keepS : ∀ w', Below w1.heap.size w1 w' → (Below w1.heap.size w1 w' ∧ w'.cell? ⟨q, 4, none⟩ = some (.slice (some ⟨g, o, none⟩) n cap) ∧ w'.cell? ⟨g, o, none⟩ = some (.int .i64 a0) ∧ w'.cell? ⟨g, o + 1, none⟩ = some (.int .i64 a1) ∧ w'.cell? ⟨g, o + 2, none⟩ = some (.bool a2) ∧ w'.cell? ⟨g, o + 3, none⟩ = some (.int .i64 a3) ∧ w'.cell? ⟨g, o + 4, none⟩ = some (.slice A4 a5 a6) ∧ w'.cell? ⟨g, o + 5, none⟩ = some (.int .i64 b0) ∧ w'.cell? ⟨g, o + 5 + 1, none⟩ = some (.int .i64 b1) ∧ w'.cell? ⟨g, o + 5 + 2, none⟩ = some (.bool b2) ∧ w'.cell? ⟨g, o + 5 + 3, none⟩ = some (.int .i64 b3) ∧ w'.cell? ⟨g, o + 5 + 4, none⟩ = some (.slice B4 b5 b6)) := fun w' hb =>
        ⟨hb, (hb.cell hql').trans c4', (hb.cell hgq).trans x0, (hb.cell hgq).trans x1, (hb.cell hgq).trans x2, (hb.cell hgq).trans x3, (hb.cell hgq).trans x4, (hb.cell hgq).trans y0, (hb.cell hgq).trans y1, (hb.cell hgq).trans y2, (hb.cell hgq).trans y3, (hb.cell hgq).trans y4⟩
      have hrec : ∀ w' (x : List Value) (z : Nat), Below w1.heap.size w1 w' → (x = [.int .i64 a0, .int .i64 a1, .bool a2, .int .i64 a3, .slice A4 a5 a6] ∧ z = z0) ∨ (x = [.int .i64 b0, .int .i64 b1, .bool b2, .int .i64 b3, .slice B4 b5 b6] ∧ z = z1) → Calls Try.prog 27 #[.agg x.toArray, F1, F2] w' fun e w'' => e = .returned (.int .i64 (z : Nat)) ∧ (Below w1.heap.size w1 w'' ∧ w''.cell? ⟨q, 4, none⟩ = some (.slice (some ⟨g, o, none⟩) n cap) ∧ w''.cell? ⟨g, o, none⟩ = some (.int .i64 a0) ∧ w''.cell? ⟨g, o + 1, none⟩ = some (.int .i64 a1) ∧ w''.cell? ⟨g, o + 2, none⟩ = some (.bool a2) ∧ w''.cell? ⟨g, o + 3, none⟩ = some (.int .i64 a3) ∧ w''.cell? ⟨g, o + 4, none⟩ = some (.slice A4 a5 a6) ∧ w''.cell? ⟨g, o + 5, none⟩ = some (.int .i64 b0) ∧ w''.cell? ⟨g, o + 5 + 1, none⟩ = some (.int .i64 b1) ∧ w''.cell? ⟨g, o + 5 + 2, none⟩ = some (.bool b2) ∧ w''.cell? ⟨g, o + 5 + 3, none⟩ = some (.int .i64 b3) ∧ w''.cell? ⟨g, o + 5 + 4, none⟩ = some (.slice B4 b5 b6)) := fun w' x z hb hx => by
        rcases hx with ⟨rfl, rfl⟩ | ⟨rfl, rfl⟩
        · exact (hr0 w' (q0.later (hb.mono hB1)) (Nat.le_trans hB1 hb.size)).mono fun e w'' ⟨h1, h2⟩ => ⟨h1, keepS _ (below_next h2 hb)⟩
        · exact (hr1 w' (q1.later (hb.mono hB1)) (Nat.le_trans hB1 hb.size)).mono fun e w'' ⟨h1, h2⟩ => ⟨h1, keepS _ (below_next h2 hb)⟩
      have hd := keepS _ (below_drew (Below.refl _ _))
      clear x0 x1 x2 x3 x4 y0 y1 y2 y3 y4 c4' hr0 hr1 q0 q1
      refine wp_walk (by kernel_rfl) (by kernel_rfl) (fun _ _ => True) (fun w' => Below w1.heap.size w1 w' ∧ w'.cell? ⟨q, 4, none⟩ = some (.slice (some ⟨g, o, none⟩) n cap) ∧ w'.cell? ⟨g, o, none⟩ = some (.int .i64 a0) ∧ w'.cell? ⟨g, o + 1, none⟩ = some (.int .i64 a1) ∧ w'.cell? ⟨g, o + 2, none⟩ = some (.bool a2) ∧ w'.cell? ⟨g, o + 3, none⟩ = some (.int .i64 a3) ∧ w'.cell? ⟨g, o + 4, none⟩ = some (.slice A4 a5 a6) ∧ w'.cell? ⟨g, o + 5, none⟩ = some (.int .i64 b0) ∧ w'.cell? ⟨g, o + 5 + 1, none⟩ = some (.int .i64 b1) ∧ w'.cell? ⟨g, o + 5 + 2, none⟩ = some (.bool b2) ∧ w'.cell? ⟨g, o + 5 + 3, none⟩ = some (.int .i64 b3) ∧ w'.cell? ⟨g, o + 5 + 4, none⟩ = some (.slice B4 b5 b6)) hd ?_
      repeat (first | (refine settle_skip (fun _ => by rfl) ?_; (simp only [Act.put, List.setIfInBounds_toArray, List.set_cons_zero, List.set_cons_succ])) | (refine' settle_run (fun _ _ => trivial) (fun _ => by rfl) ?_ ?_; rotate_left; (focus (intro ρ w hS hF; (try dsimp only at hS); go_split_ands; go_simp; try with_reducible rfl)); (simp only [Act.put, List.setIfInBounds_toArray, List.set_cons_zero, List.set_cons_succ])) | (refine' settle_step (fun _ => by rfl) ?_ ?_; rotate_left; (focus (intro ρ w hS hF K hK; (simp only [Act.put, List.setIfInBounds_toArray, List.set_cons_zero, List.set_cons_succ] at hK); go_simp; first | (go_at_call 27; refine (hrec _ _ _ hS.1 (by first | exact .inl ⟨rfl, rfl⟩ | exact .inr ⟨rfl, rfl⟩)).mono ?_; rintro e w' ⟨rfl, hS'⟩; have hE' := True.intro; exact hK _ hS' hE'))); (simp only [Act.put, List.setIfInBounds_toArray, List.set_cons_zero, List.set_cons_succ])))
      refine settle_nil ?_
      intro ρ wS hS _
      have hbS := hS.1
      clear hrec keepS hd hS
      obtain rfl := HF1.out
      obtain rfl := HF2.out
      unfold seqF parF
      rcases m with _ | _
      · simp only [Bool.false_eq_true, if_false]
        go_wp2_with fail
        refine (hfin2 true false z0 z1 _ (by omega) (by decide)).mono ?_
        rintro e w2 ⟨rfl, rfl⟩
        go_wp2
        go_ret
        exact ⟨by rw [HZ.out]; rfl, below_self hbw hbS⟩
      · simp only [if_true]
        go_wp2_with fail
        refine (hfin true true z0 z1 _ (by omega) rfl).mono ?_
        rintro e w2 ⟨rfl, rfl⟩
        go_wp2
        go_ret
        exact ⟨by rw [HZ.out]; rfl, below_self hbw hbS⟩
end Go.Proofs.Ytgaafgjhkkjalaa


namespace Go.Proofs.Ytgaafgjhkkjalaa
set_option linter.unusedVariables false
set_option linter.unusedSimpArgs false
set_option maxRecDepth 100000
open Go.RowKit

theorem TmR.up {B B' : Nat} {w : World} {cs : List Value} {t : Sp.T} (h : TmR B w cs t) (hB : B ≤ B') : TmR B' w cs t := h.keep hB (fun _ _ => rfl)

theorem work_any (B : Nat) (w : World) (cs : List Value) (t : Sp.T) (hT : TmR B w cs t) (hB : B ≤ w.heap.size) (hn : t.size ≤ 4194304) :
    Calls Try.prog 15 #[.agg cs.toArray] w fun e w' => e = .returned (.int .i64 (t.size : Nat)) ∧ Below w.heap.size w w' := by
  obtain ⟨a0, a1, a2, a3, A4, a5, a6, rfl, -, -⟩ := hT.form
  have s1 := (hT.up hB).keep (B' := (w.alloc (.cells (tcells a0 a1 a2 a3 A4 a5 a6).toArray 30)).heap.size) (w' := (w.alloc (.cells (tcells a0 a1 a2 a3 A4 a5 a6).toArray 30))) (by simp) (fun p hp => World.cell?_alloc_lt w _ p hp)
  have hb0 : Below w.heap.size w (w.alloc (.cells (tcells a0 a1 a2 a3 A4 a5 a6).toArray 30)) := below_alloc (Below.refl _ _) _
  unfold tcells at s1 hb0 ⊢
  clear hT
  go_enter Try.func15, Try.ntmps15
  go_wp2_with fail
  refine (leaves_any _ _ t s1 hn).mono ?_
  rintro e w1 ⟨v, rfl, hs, hb⟩
  obtain ⟨A9, c9, rfl, h1, h2, h3, h4⟩ := hs
  unfold maxLen at h2
  clear h3 h4 s1
  go_wp2
  go_ret
  exact ⟨rfl, below_next hb hb0⟩

theorem span_any (B : Nat) (w : World) (cs : List Value) (t : Sp.T) (hT : TmR B w cs t) (hB : B ≤ w.heap.size) (hn : t.size ≤ 4194304) :
    Calls Try.prog 14 #[.agg cs.toArray] w fun e w' => e = .returned (.int .i64 (t.span : Nat)) ∧ Below w.heap.size w w' := by
  obtain ⟨a0, a1, a2, a3, A4, a5, a6, rfl, -, -⟩ := hT.form
  have s1 := hT.alloc hB (.cells (tcells a0 a1 a2 a3 A4 a5 a6).toArray 30)
  have hb0 : Below w.heap.size w (w.alloc (.cells (tcells a0 a1 a2 a3 A4 a5 a6).toArray 30)) := below_alloc (Below.refl _ _) _
  have hB1 : B ≤ (w.alloc (.cells (tcells a0 a1 a2 a3 A4 a5 a6).toArray 30)).heap.size := by simp; omega
  unfold tcells at s1 hb0 hB1 ⊢
  clear hT
  go_enter Try.func14, Try.ntmps14
  go_wp2_with fail
  refine (sum_any true t B _ _ s1 hB1 hn).mono ?_
  rintro e w1 ⟨rfl, hb⟩
  clear s1
  go_wp2
  go_ret
  exact ⟨rfl, below_next hb hb0⟩
end Go.Proofs.Ytgaafgjhkkjalaa


namespace Go.Proofs.Ytgaafgjhkkjalaa
set_option linter.unusedVariables false
set_option linter.unusedSimpArgs false
set_option maxRecDepth 100000
open Go.RowKit

theorem width_any (B : Nat) (w : World) (cs : List Value) (t : Sp.T) (hT : TmR B w cs t) (hB : B ≤ w.heap.size) (hn : t.size ≤ 4194304) :
    Calls Try.prog 16 #[.agg cs.toArray] w fun e w' => e = .returned (.int .i64 (t.width : Nat)) ∧ Below w.heap.size w w' := by
  obtain ⟨a0, a1, a2, a3, A4, a5, a6, rfl, -, -⟩ := hT.form
  have s1 := hT.alloc hB (.cells (tcells a0 a1 a2 a3 A4 a5 a6).toArray 30)
  have hb0 : Below w.heap.size w (w.alloc (.cells (tcells a0 a1 a2 a3 A4 a5 a6).toArray 30)) := below_alloc (Below.refl _ _) _
  have hB1 : B ≤ (w.alloc (.cells (tcells a0 a1 a2 a3 A4 a5 a6).toArray 30)).heap.size := by simp; omega
  unfold tcells at s1 hb0 hB1 ⊢
  clear hT
  go_enter Try.func16, Try.ntmps16
  go_wp2_with fail
  refine (sum_any false t B _ _ s1 hB1 hn).mono ?_
  rintro e w1 ⟨rfl, hb⟩
  clear s1
  go_wp2
  go_ret
  exact ⟨rfl, below_next hb hb0⟩
end Go.Proofs.Ytgaafgjhkkjalaa


namespace Go.Proofs.Ytgaafgjhkkjalaa
set_option linter.unusedVariables false
set_option linter.unusedSimpArgs false
set_option maxRecDepth 100000
open Go

section
variable {P : Program} {ops : Array Oper} {Q : Exit → Act → World → Prop} {S : World → Prop} {I : Nat → Env → World → Prop} {L : List Tmp} {E Em : World → World → Prop} {mk fl : Nat → Bool}

def SettleG (P : Program) (ops : Array Oper) (S : World → Prop) (I : Nat → Env → World → Prop) (E Em : World → World → Prop) (mk fl : Nat → Bool) (Z : (Env → Act) → List (Tmp × Fact E) → List (Tmp × Fact E) → Prop) : Nat → List Oper → (Env → Act) → List (Tmp × Fact E) → List (Tmp × Fact E) → List (Tmp × Fact E) → Prop
  | _, [], A, Fs, Gs, _ => Z A Fs Gs
  | k, o :: rest, A, Fs, Gs, Hs =>
    (∃ v, (∀ ρ w, S w → FactsOK (o.looksAt ops) ρ w (cond (fl k) [] Fs) → PreP mk fl I k ρ w → ((∀ t F, (t, F) ∈ Hs → t ∈ o.looksAt ops → ∃ w, F.holds (ρ t) w) ∧ (∀ t F, (t, F) ∈ Gs → t ∈ o.looksAt ops → F.holds (ρ t) w)) → StepTo P ops S (EsF mk E Em I k ρ) o (A ρ) w (fun u _ => u = v)) ∧ SettleG P ops S I E Em mk fl Z (k + 1) rest (fun ρ => (A ρ).put o.dst v) (cond (mk k) [] Fs) Gs Hs) ∨
    (∃ d F, o.dst = some d ∧ (fl k = false ∨ Stays Em F) ∧ (∀ ρ w, S w → FactsOK (o.looksAt ops) ρ w (cond (fl k) [] Fs) → PreP mk fl I k ρ w → ((∀ t F, (t, F) ∈ Hs → t ∈ o.looksAt ops → ∃ w, F.holds (ρ t) w) ∧ (∀ t F, (t, F) ∈ Gs → t ∈ o.looksAt ops → F.holds (ρ t) w)) → StepTo P ops S (EsF mk E Em I k ρ) o (A ρ) w F.holds) ∧ SettleG P ops S I E Em mk fl Z (k + 1) rest (fun ρ => (A ρ).put (some d) (ρ d)) ((d, F) :: cond (mk k) [] Fs) (cond (fl k) ((d, F) :: Gs) Gs) ((d, F) :: Hs))

/-- all that is known of values, whatever the world -/
def factsH (l : List (Oper × Kind E)) : List (Tmp × Fact E) := l.foldl addFact []
theorem factsH_snoc (l : List (Oper × Kind E)) (p : Oper × Kind E) : factsH (l ++ [p]) = addFact (factsH l) p := by simp [factsH]
theorem mem_foldH {t : Tmp} {F : Fact E} : ∀ {l : List (Oper × Kind E)} {Hs : List (Tmp × Fact E)}, (t, F) ∈ l.foldl addFact Hs → (t, F) ∈ Hs ∨ ∃ (i : Nat) (p : Oper × Kind E), l[i]? = some p ∧ p.2 = .fresh F ∧ p.1.dst = some t := by
  intro l
  induction l with
  | nil => exact fun h => .inl h
  | cons q l ih =>
    intro Hs h
    rcases ih (show (t, F) ∈ l.foldl addFact (addFact Hs q) from h) with h | ⟨i, p, h1, h2, h3⟩
    · rcases mem_addFact h with h | ⟨h1, h2⟩
      · exact .inl h
      · exact .inr ⟨0, q, rfl, h1, h2⟩
    · exact .inr ⟨i + 1, p, by simpa using h1, h2, h3⟩
theorem mem_factsH {t : Tmp} {F : Fact E} {l : List (Oper × Kind E)} (h : (t, F) ∈ factsH l) : ∃ (i : Nat) (p : Oper × Kind E), l[i]? = some p ∧ p.2 = .fresh F ∧ p.1.dst = some t := by
  rcases mem_foldH h with h | h
  · cases h
  · exact h

structure PlanG (P : Program) (ops : Array Oper) (S : World → Prop) (I : Nat → Env → World → Prop) (Em : World → World → Prop) (mk fl : Nat → Bool) (a : Act) (l : List (Oper × Kind E)) : Prop where
  dst : ∀ p ∈ l, (∃ F, p.2 = .fresh F) → ∃ d, p.1.dst = some d
  flt : ∀ (j : Nat) p (F : Fact E), l[j]? = some p → p.2 = .fresh F → fl j = false ∨ Stays Em F
  step : ∀ pre p post, l = pre ++ p :: post → ∀ ρ w, S w → FactsOK (p.1.looksAt ops) ρ w (cond (fl pre.length) [] (factsM mk 0 pre [])) → PreP mk fl I pre.length ρ w → ((∀ t F, (t, F) ∈ factsH pre → t ∈ p.1.looksAt ops → ∃ w, F.holds (ρ t) w) ∧ (∀ t F, (t, F) ∈ factsG fl 0 pre [] → t ∈ p.1.looksAt ops → F.holds (ρ t) w)) → StepTo P ops S (EsF mk E Em I pre.length ρ) p.1 (actOf a ρ pre) w p.2.rel

theorem planG_snoc {a : Act} {l : List (Oper × Kind E)} (h : PlanG P ops S I Em mk fl a l) {p : Oper × Kind E} (h1 : (∃ F, p.2 = .fresh F) → ∃ d, p.1.dst = some d) (h3 : ∀ F, p.2 = .fresh F → fl l.length = false ∨ Stays Em F)
    (h2 : ∀ ρ w, S w → FactsOK (p.1.looksAt ops) ρ w (cond (fl l.length) [] (factsM mk 0 l [])) → PreP mk fl I l.length ρ w → ((∀ t F, (t, F) ∈ factsH l → t ∈ p.1.looksAt ops → ∃ w, F.holds (ρ t) w) ∧ (∀ t F, (t, F) ∈ factsG fl 0 l [] → t ∈ p.1.looksAt ops → F.holds (ρ t) w)) → StepTo P ops S (EsF mk E Em I l.length ρ) p.1 (actOf a ρ l) w p.2.rel) : PlanG P ops S I Em mk fl a (l ++ [p]) := by
  refine ⟨fun q hq hf => ?_, fun j q F hq hf => ?_, fun pre q post he => ?_⟩
  · rcases List.mem_append.1 hq with hq | hq
    · exact h.dst q hq hf
    · rw [List.mem_singleton.1 hq] at hf ⊢
      exact h1 hf
  · rcases Nat.lt_or_ge j l.length with hj | hj
    · rw [List.getElem?_append_left hj] at hq
      exact h.flt j q F hq hf
    · rw [List.getElem?_append_right hj] at hq
      have hj' := (List.getElem?_eq_some_iff.1 hq).1
      simp only [List.length_singleton] at hj'
      have e : j = l.length := by omega
      subst e
      simp only [Nat.sub_self, List.getElem?_cons_zero, Option.some.injEq] at hq
      subst hq
      exact h3 F hf
  · rcases List.eq_nil_or_concat post with rfl | ⟨post', q', rfl⟩
    · have := List.append_inj' he rfl
      obtain ⟨e1, e2⟩ := this
      injection e2 with e2
      subst e1 e2
      exact h2
    · have e : pre ++ q :: (post' ++ [q']) = (pre ++ q :: post') ++ [q'] := by simp
      rw [List.concat_eq_append, e] at he
      exact h.step pre q post' (List.append_inj' he rfl).1

theorem settleG_plan {Z : (Env → Act) → List (Tmp × Fact E) → List (Tmp × Fact E) → Prop} {a : Act} : ∀ (l : List Oper) (pre : List (Oper × Kind E)), PlanG P ops S I Em mk fl a pre → SettleG P ops S I E Em mk fl Z pre.length l (fun ρ => actOf a ρ pre) (factsM mk 0 pre []) (factsG fl 0 pre []) (factsH pre) →
    ∃ full : List (Oper × Kind E), PlanG P ops S I Em mk fl a full ∧ full.map (·.1) = pre.map (·.1) ++ l ∧ Z (fun ρ => actOf a ρ full) (factsM mk 0 full []) (factsG fl 0 full []) := by
  intro l
  induction l with
  | nil => exact fun pre hp h => ⟨pre, hp, by simp, h⟩
  | cons o rest ih =>
    intro pre hp h
    rcases h with ⟨v, h1, h2⟩ | ⟨d, F, hd, h3, h1, h2⟩
    · obtain ⟨full, q1, q2, q3⟩ := ih (pre ++ [(o, .fixed v)]) (planG_snoc (p := (o, .fixed v)) hp (fun ⟨F, h⟩ => by cases h) (fun F h => by cases h) h1) (by
        have e1 : (fun ρ => actOf a ρ (pre ++ [(o, (Kind.fixed v : Kind E))])) = fun ρ => (actOf a ρ pre).put o.dst v := by
          funext ρ; simp [actOf, Kind.val]
        have e2 : factsM mk 0 (pre ++ [(o, (Kind.fixed v : Kind E))]) [] = cond (mk pre.length) [] (factsM mk 0 pre []) := by rw [factsM_snoc, Nat.zero_add]; rfl
        have e4 : factsH (pre ++ [(o, (Kind.fixed v : Kind E))]) = factsH pre := by rw [factsH_snoc]; rfl
        have e3 : factsG fl 0 (pre ++ [(o, (Kind.fixed v : Kind E))]) [] = factsG fl 0 pre [] := by rw [factsG_snoc, Nat.zero_add]; cases fl pre.length <;> rfl
        rw [e1, e2, e3, e4, List.length_append]
        exact h2)
      exact ⟨full, q1, by rw [q2]; simp, q3⟩
    · obtain ⟨full, q1, q2, q3⟩ := ih (pre ++ [(o, .fresh F)]) (planG_snoc (p := (o, .fresh F)) hp (fun _ => ⟨d, hd⟩) (fun F' h => by injection h with h; subst h; exact h3) h1) (by
        have e1 : (fun ρ => actOf a ρ (pre ++ [(o, (Kind.fresh F : Kind E))])) = fun ρ => (actOf a ρ pre).put (some d) (ρ d) := by
          funext ρ; simp [actOf, Kind.val, hd]
        have e2 : factsM mk 0 (pre ++ [(o, (Kind.fresh F : Kind E))]) [] = (d, F) :: cond (mk pre.length) [] (factsM mk 0 pre []) := by rw [factsM_snoc, Nat.zero_add]; simp [addFact, hd]
        have e4 : factsH (pre ++ [(o, (Kind.fresh F : Kind E))]) = (d, F) :: factsH pre := by rw [factsH_snoc]; simp [addFact, hd]
        have e3 : factsG fl 0 (pre ++ [(o, (Kind.fresh F : Kind E))]) [] = cond (fl pre.length) ((d, F) :: factsG fl 0 pre []) (factsG fl 0 pre []) := by rw [factsG_snoc, Nat.zero_add]; simp [addFact, hd]
        rw [e1, e2, e3, e4, List.length_append]
        exact h2)
      exact ⟨full, q1, by rw [q2]; simp, q3⟩

theorem any_order_pg {a0 : Act} {full : List (Oper × Kind E)} {n : Nat} (hn : n < ops.size) (hops : full.map (·.1) = ops.toList.take n) (hlin : LinearN ops n) (hsk : Region.sinkB .any ops n = true) (hch : Region.chainB .any ops n = true)
    (hsq : ∀ listed : Array Bool, listed.size = ops.size → (∀ i, i < n → listed.getD i false = true) → (∀ i, n ≤ i → listed.getD i false = false) → Region.seqB .any ops (ops.size - n) n listed = true) (hmk : MarkedP ops mk fl n) (hp : PlanG P ops S I Em mk fl a0 full) (hIE : ∀ c ρ w w', I c ρ w → E w w' → I c ρ w') (hI0 : ∀ ρ ρ' w, I 0 ρ w → I 0 ρ' w) (hIρ : ∀ c ρ ρ' w, (∀ t ∈ L, ρ t = ρ' t) → I c ρ w → I c ρ' w)
    (hL : ∀ t ∈ L, ∃ j o, j < n ∧ ops[j]? = some o ∧ o.dst = some t ∧ ∀ m, mk m = true → j ≠ m ∧ reachB ops 6 m j = true)
    (hZ : ∀ ρ w, S w → I (cntM mk n) ρ w → (∀ t F, (t, F) ∈ factsM mk 0 full [] → F.holds (ρ t) w) → (∀ t F, (t, F) ∈ factsG fl 0 full [] → F.holds (ρ t) w) → wpList P ops Q (ops.toList.drop n) (actOf a0 ρ full) w) :
    ∀ (fuel : Nat) (listed : Array Bool) (a : Act) (w : World) (ρ : Env), HeadInv .any ops n listed →
      (∃ todo : List Nat, todo.length ≤ fuel ∧ ∀ i, i < n → listed.getD i false = false → i ∈ todo) →
      Holds a0 full (fun i => listed.getD i false = true) ρ a → S w → (∀ c, c ≤ cntM mk n → (∀ m, mk m = true → (listed.getD m false = true ↔ cntM mk m < c)) → I c ρ w) → (∀ (i : Nat) (p : Oper × Kind E) (F : Fact E) (d : Tmp), listed.getD i false = true → (fl i = true ∨ ∀ m, mk m = true → i < m → listed.getD m false = false) → full[i]? = some p → p.2 = .fresh F → p.1.dst = some d → F.holds (ρ d) w) →
      (∀ (i : Nat) (p : Oper × Kind E) (F : Fact E) (d : Tmp), listed.getD i false = true → full[i]? = some p → p.2 = .fresh F → p.1.dst = some d → ∃ w, F.holds (ρ d) w) →
      wpAny P .any ops Q (fuel + (ops.size - n)) listed a w := by
  have hget : ∀ (i : Nat) (p : Oper × Kind E), full[i]? = some p → ops[i]? = some p.1 := fun i p h => by
    have : (full.map (·.1))[i]? = some p.1 := by simp [h]
    rw [hops, List.getElem?_take] at this
    split at this
    · simpa using this
    · cases this
  have hlen : full.length = n := by
    have := congrArg List.length hops
    simp only [List.length_map, List.length_take, Array.length_toList] at this
    omega
  have hget' : ∀ (i : Nat) (o : Oper), i < n → ops[i]? = some o → ∃ p : Oper × Kind E, full[i]? = some p ∧ p.1 = o := fun i o hin h => by
    have hi : i < full.length := by rw [hlen]; exact hin
    have h1 := hget i _ (List.getElem?_eq_getElem hi)
    rw [h] at h1
    injection h1 with h1
    exact ⟨_, List.getElem?_eq_getElem hi, h1.symm⟩
  have hdist : ∀ (i j : Nat) (p q : Oper × Kind E) (d : Tmp), i < j → full[i]? = some p → full[j]? = some q → p.1.dst = some d → q.1.dst ≠ some d := fun i j p q d hij h1 h2 => hlin.dist i j _ _ d hij (by have := (List.getElem?_eq_some_iff.1 h2).1; omega) (hget i p h1) (hget j q h2)
  have hdist2 : ∀ (i j : Nat) (p q : Oper × Kind E) (d : Tmp), i ≠ j → full[i]? = some p → full[j]? = some q → p.1.dst = some d → q.1.dst ≠ some d := fun i j p q d hij h1 h2 hd hd' => by
    rcases Nat.lt_or_gt_of_ne hij with h | h
    · exact hdist i j p q d h h1 h2 hd hd'
    · exact hdist j i q p d h h2 h1 hd' hd
  -- all have come up
  have fin : ∀ (fuel : Nat) (listed : Array Bool) (a : Act) (w : World) (ρ : Env), HeadInv .any ops n listed → (∀ i, i < n → listed.getD i false = true) → Holds a0 full (fun i => listed.getD i false = true) ρ a → S w → I (cntM mk n) ρ w →
      (∀ (i : Nat) (p : Oper × Kind E) (F : Fact E) (d : Tmp), listed.getD i false = true → (fl i = true ∨ ∀ m, mk m = true → i < m → listed.getD m false = false) → full[i]? = some p → p.2 = .fresh F → p.1.dst = some d → F.holds (ρ d) w) → wpAny P .any ops Q (fuel + (ops.size - n)) listed a w := fun fuel listed a w ρ inv hall hH hS hIn hF => by
    have h1 : Holds a0 full (fun i => i < full.length) ρ (actOf a0 ρ full) := by
      have := holds_prefix a0 full ρ hdist full.length (Nat.le_refl _)
      rwa [List.take_length] at this
    have h2 : Holds a0 full (fun i => i < full.length) ρ a :=
      ⟨hH.defers, hH.size, fun t ht => hH.far t fun i p hi hp => ht i p (List.getElem?_eq_some_iff.1 hp).1 hp, fun i p t hi => hH.near i p t (hall i (by omega))⟩
    rw [h2.unique h1]
    have hz := hZ ρ w hS hIn (fun t F hm => by
      rcases mem_factsM hm with ⟨h, -⟩ | ⟨i, p, h1, h2, h3, h4⟩
      · cases h
      · exact hF i p F t (hall i (by have := (List.getElem?_eq_some_iff.1 h1).1; omega)) (.inr fun m hm him => absurd (hmk.lt m hm) (fun h => h4 m hm (by omega) (by omega))) h1 h2 h3) (fun t F hm => by
      rcases mem_factsG hm with h | ⟨i, p, h1, h0, h2, h3⟩
      · cases h
      · exact hF i p F t (hall i (by have := (List.getElem?_eq_some_iff.1 h1).1; omega)) (.inl (by rwa [Nat.zero_add] at h0)) h1 h2 h3)
    have hdl : (ops.toList.drop n).length = ops.size - n := by simp
    have hs := hsq listed inv.size hall (fun i hi => by
      rcases Nat.lt_or_ge i ops.size with h | h
      · exact getD_both (inv.tail i hi h)
      · simp [Array.getD, inv.size, Nat.not_lt.2 h])
    have := wpAny_seq_more fuel (ops.toList.drop n) n listed (actOf a0 ρ full) w (fun j => by simp [List.getElem?_drop]) (by rw [hdl]; exact hs) hz
    rwa [hdl, Nat.add_comm] at this
  have none_left : ∀ listed : Array Bool, HeadInv .any ops n listed → Region.ready .any ops listed = [] → ∀ m i, i < m → i < n → listed.getD i false = true := by
    intro listed inv hr m
    induction m with
    | zero => intro i h; omega
    | succ m ih =>
      intro i hi hin
      cases hli : listed.getD i false with
      | true => rfl
      | false =>
        have hlt : i < ops.size := by omega
        have ho : ops[i]? = some ops[i] := Array.getElem?_eq_getElem hlt
        have hmem : i ∈ Region.ready .any ops listed := by
          rw [mem_ready]
          refine ⟨?_, _, ho, fun e he hb => ?_⟩
          · simp only [Array.getD, inv.size, hlt, dif_pos] at hli ⊢
            exact hli
          · have := hlin.back i _ hin ho e he hb
            exact ih e.on (by omega) (by omega)
        rw [hr] at hmem
        cases hmem
  have some_left : ∀ listed : Array Bool, (∀ i, i < n → listed.getD i false = true) ∨ ∃ i, i < n ∧ listed.getD i false = false := fun listed => by
    by_cases h : ∃ i, i < n ∧ listed.getD i false = false
    · exact .inr h
    · exact .inl fun i hi => by
        cases hl : listed.getD i false with
        | true => rfl
        | false => exact (h ⟨i, hi, hl⟩).elim
  intro fuel
  induction fuel with
  | zero =>
    intro listed a w ρ inv ⟨todo, htodo, hin⟩ hH hS hS0 hF hPu
    have hall : ∀ i, i < n → listed.getD i false = true := fun i hi => by
      cases hli : listed.getD i false with
      | true => rfl
      | false =>
        have := hin i hi hli
        rw [List.eq_nil_of_length_eq_zero (Nat.le_zero.1 htodo)] at this
        cases this
    exact fin 0 listed a w ρ inv hall hH hS (hS0 _ (Nat.le_refl _) fun m hm => ⟨fun _ => cntM_lt (hmk.lt m hm) hm, fun _ => hall m (hmk.lt m hm)⟩) hF
  | succ fuel ih =>
    intro listed a w ρ inv ⟨todo, htodo, hin⟩ hH hS hS0 hF hPu
    rcases some_left listed with hall | ⟨i0, hi0, hl0⟩
    · exact fin (fuel + 1) listed a w ρ inv hall hH hS (hS0 _ (Nat.le_refl _) fun m hm => ⟨fun _ => cntM_lt (hmk.lt m hm) hm, fun _ => hall m (hmk.lt m hm)⟩) hF
    have hsz := inv.size
    rw [show fuel + 1 + (ops.size - n) = (fuel + (ops.size - n)) + 1 by omega]
    refine ⟨fun hr => ?_, fun i hi => ?_⟩
    · have := none_left listed inv hr (i0 + 1) i0 (by omega) hi0
      rw [hl0] at this
      cases this
    have hilt : i < n := by
      rcases Nat.lt_or_ge i n with h | h
      · exact h
      · exact absurd hi (tail_waits hsk hch hn inv _ i0 rfl hi0 (getD_in (by omega) hl0) i h)
    obtain ⟨h0, o, ho, hall⟩ := mem_ready.1 hi
    have hlt := (Array.getElem?_eq_some_iff.1 ho).1
    have h0' : listed.getD i false = false := by
      simp only [Array.getD, hsz, hlt, dif_pos] at h0 ⊢
      exact h0
    obtain ⟨p, hpi, rfl⟩ := hget' i o hilt ho
    have hil : i < full.length := by omega
    have hpre : Holds a0 full (fun j => j < i) ρ (actOf a0 ρ (full.take i)) := holds_prefix a0 full ρ hdist i (by omega)
    have hsplit : full = full.take i ++ p :: full.drop (i + 1) := by
      have : full[i] = p := by have := List.getElem?_eq_getElem hil; rw [hpi] at this; injection this with this; exact this.symm
      rw [← this, List.getElem_cons_drop, List.take_append_drop]
    have hstep := hp.step _ p _ hsplit ρ w hS
    have conf : ∀ (j : Nat) (q : Oper × Kind E), full[j]? = some q → ∀ t, q.1.dst = some t → t ∈ p.1.looksAt ops → (listed.getD j false = true ↔ j < i) := by
      intro j q hq t hd hl
      have hoj := hget j q hq
      have hjn : j < n := by have := (List.getElem?_eq_some_iff.1 hq).1; omega
      rcases Nat.lt_trichotomy j i with h | h | h
      · refine ⟨fun _ => h, fun _ => ?_⟩
        rcases hlin.wait j i _ _ h hilt hoj ho with hap | ⟨e, he, hb, hon⟩
        · exact absurd hl ((Oper.apart_spec hap).1 t hd)
        · rw [← hon]; exact hall e he hb
      · subst h
        rw [hpi] at hq
        injection hq with hq
        subst hq
        exact absurd hl (hlin.self j _ t hilt ho hd)
      · refine ⟨fun hj => ?_, fun h' => by omega⟩
        exfalso
        rcases hlin.wait i j _ _ h hjn ho hoj with hap | ⟨e, he, hb, hon⟩
        · exact absurd hl ((Oper.apart_spec hap).2.2 t hd)
        · have := inv.closed j _ hoj hj e he hb
          rw [hon, h0'] at this
          cases this
    have hdown' : ∀ j o, listed.getD j false = true → ops[j]? = some o → ∀ e ∈ o.after, Region.binds .any e = true → listed.getD e.on false = true := fun j o hj ho e he hb => inv.closed j o ho hj e he hb
    have later : ∀ m, mk m = true → i < m → fl i = false → listed.getD m false = false := fun m hm him hfl => by
      cases hlm : listed.getD m false with
      | false => rfl
      | true =>
        have := reach_closed hdown' 6 m i (hmk.before m i hm him hfl) hlm
        rw [h0'] at this
        cases this
    have hfacts : FactsOK (p.1.looksAt ops) ρ w (cond (fl i) [] (factsM mk 0 (full.take i) [])) := factsOK_of _ fun t F hm hl => by
      rcases hfl : fl i with _ | _
      case true => rw [hfl] at hm; cases hm
      rw [hfl] at hm
      rcases mem_factsM hm with ⟨h, -⟩ | ⟨j, q, h1, h2, h3, h4⟩
      · cases h
      · have hji : j < i := by
          have := (List.getElem?_eq_some_iff.1 h1).1
          rw [List.length_take] at this
          omega
        have hq : full[j]? = some q := by
          rw [List.getElem?_take, if_pos hji] at h1
          exact h1
        refine hF j q F t ((conf j q hq t h3 (by simpa using hl)).2 hji) (.inr fun m hm hjm => ?_) hq h2 h3
        rcases Nat.lt_trichotomy i m with h | h | h
        · exact later m hm h hfl
        · rw [← h]; exact h0'
        · exact absurd (h4 m hm (by omega) (by rw [List.length_take]; omega)) id
    have hli' : (full.take i).length = i := by rw [List.length_take]; omega
    have earlier : ∀ m, mk m = true → m < i → fl i = false → listed.getD m false = true := fun m hm him hfl => by
      have hr := hmk.after m i hm him hilt hfl
      unfold reachB at hr
      rw [Bool.or_eq_true] at hr
      rcases hr with hr | hr
      · have : i = m := by simpa using hr
        omega
      · rw [ho] at hr
        obtain ⟨k, hk, hb⟩ := Array.any_eq_true.1 hr
        rw [Bool.and_eq_true] at hb
        exact reach_closed hdown' 5 _ _ hb.2 (hall _ (Array.getElem_mem hk) hb.1)
    have hst := hstep (by rw [hli']; exact hfacts) (by
      rw [hli']
      intro hfl
      refine hS0 _ (cntM_mono (by omega)) fun m hm => ?_
      rcases Nat.lt_trichotomy i m with h | h | h
      · rw [later m hm h hfl]
        have := cntM_mono (mk := mk) (show i ≤ m by omega)
        simp; omega
      · rw [← h, h0']
        simp
      · rw [earlier m hm h hfl]
        simp [cntM_lt h hm]) ⟨fun t F hm hl => by
      obtain ⟨j, q, h1, h2, h3⟩ := mem_factsH hm
      have hji : j < i := by
        have := (List.getElem?_eq_some_iff.1 h1).1
        rw [List.length_take] at this
        omega
      have hq : full[j]? = some q := by
        rw [List.getElem?_take, if_pos hji] at h1
        exact h1
      exact hPu j q F t ((conf j q hq t h3 hl).2 hji) hq h2 h3, fun t F hm hl => by
      rcases mem_factsG hm with h | ⟨j, q, h1, h0, h2, h3⟩
      · cases h
      have hji : j < i := by
        have := (List.getElem?_eq_some_iff.1 h1).1
        rw [List.length_take] at this
        omega
      have hq : full[j]? = some q := by
        rw [List.getElem?_take, if_pos hji] at h1
        exact h1
      exact hF j q F t ((conf j q hq t h3 hl).2 hji) (.inl (by rwa [Nat.zero_add] at h0)) hq h2 h3⟩
    have hag : ∀ t, t ∈ p.1.looksAt ops → a.tmps[t]? = (actOf a0 ρ (full.take i)).tmps[t]? := fun t ht =>
      hH.agree hpre t fun j q hq hd => conf j q hq t hd ht
    have hexec : execOp a.eval p.1 = execOp (actOf a0 ρ (full.take i)).eval p.1 := execOp_congr p.1 (fun cs b => hlin.sel i _ cs b ho) fun x hx => by
      cases x with
      | tmp t =>
        have := hag t (List.mem_append_left _ (List.mem_filterMap.2 ⟨.tmp t, by simpa using hx, rfl⟩))
        simp only [Act.eval, Array.getD_eq_getD_getElem?]
        rw [this]
      | _ => rfl
    have hwant : Region.wanted p.1 (yielded ops a.tmps) = Region.wanted p.1 (yielded ops (actOf a0 ρ (full.take i)).tmps) := by
      unfold Region.wanted
      cases hg : p.1.guard with
      | none => rfl
      | some gw =>
        obtain ⟨g, want⟩ := gw
        have : yielded ops a.tmps g = yielded ops (actOf a0 ρ (full.take i)).tmps g := by
          unfold yielded
          cases ht : (ops[g]?).bind (·.dst) with
          | none => rfl
          | some t =>
            have := hag t (List.mem_append_right _ (by simp [hg, ht]))
            simp only [Option.bind_some, this]
        simp only [this]
    have size_eq : (actOf a0 ρ (full.take i)).tmps.size = a.tmps.size := hpre.size.trans hH.size.symm
    -- the way on
    have go : ∀ v w', p.2.rel v w' → S w' → (∀ c, c ≤ cntM mk n → (∀ m, mk m = true → ((listed.setIfInBounds i true).getD m false = true ↔ cntM mk m < c)) → I c ρ w') → (∀ (j : Nat) (q : Oper × Kind E) (F : Fact E) (d : Tmp), listed.getD j false = true → (fl j = true ∨ ∀ m, mk m = true → j < m → (listed.setIfInBounds i true).getD m false = false) → full[j]? = some q → q.2 = .fresh F → q.1.dst = some d → F.holds (ρ d) w') →
        wpAny P .any ops Q (fuel + (ops.size - n)) (listed.setIfInBounds i true) (a.put p.1.dst v) w' := by
      intro v w' hR hS' hS0' hF'
      have next : ∀ ρ' : Env, p.2.val ρ' p.1 = v → (∀ j q, j ≠ i → full[j]? = some q → q.2.val ρ' q.1 = q.2.val ρ q.1) → (∀ j q F d, j ≠ i → full[j]? = some q → q.2 = .fresh F → q.1.dst = some d → ρ' d = ρ d) → (∀ F d, p.2 = .fresh F → p.1.dst = some d → F.holds (ρ' d) w') → (∀ t, (∀ F, p.2 = .fresh F → p.1.dst ≠ some t) → ρ' t = ρ t) →
          wpAny P .any ops Q (fuel + (ops.size - n)) (listed.setIfInBounds i true) (a.put p.1.dst v) w' := by
        intro ρ' hv hothers hd' hself hρ
        have hset : ∀ j, (listed.setIfInBounds i true).getD j false = true ↔ j = i ∨ listed.getD j false = true := fun j => by
          by_cases hji : j = i
          · subst hji
            simp [Array.getD, hsz, hlt]
          · rw [getD_set_ne false (Ne.symm hji)]
            simp [hji]
        refine ih _ _ _ ρ' (inv.set hi hilt) ⟨todo.filter (· != i), ?_, fun j hj hjl => ?_⟩ ?_ hS' (fun c hc hcm => ?_) (fun j q F d hj hjm hq hf hd => ?_) (fun j q F d hj hq hf hd => ?_)
        · have : (todo.filter (· != i)).length < todo.length := by
            rw [List.length_filter_lt_length_iff_exists]
            exact ⟨i, hin i hilt h0', by simp⟩
          omega
        · have hne : j ≠ i := fun e => by
            have := (hset j).2 (.inl e)
            rw [this] at hjl
            cases hjl
          refine List.mem_filter.2 ⟨hin j hj ?_, by simpa using hne⟩
          rwa [getD_set_ne false (Ne.symm hne)] at hjl
        · have := hH.put (ρ' := ρ') hpi hset (fun j q hj hq d hd => hdist2 j i q p d (fun e => by rw [e, h0'] at hj; cases hj) hq hpi hd) (fun j q hj hq => hothers j q (fun e => by rw [e, h0'] at hj; cases hj) hq)
          rwa [hv] at this
        · have hold := hS0' c hc hcm
          rcases c with _ | c
          · exact hI0 ρ ρ' w' hold
          · refine hIρ _ ρ ρ' w' (fun t ht => ?_) hold
            obtain ⟨j0, o0, hj0, ho0, hd0, hbm⟩ := hL t ht
            refine (hρ t fun F hF hd => ?_).symm
            have hji : j0 = i := by
              rcases Nat.lt_trichotomy j0 i with h | h | h
              · exact absurd hd (hlin.dist j0 i o0 p.1 t h hilt ho0 ho hd0)
              · exact h
              · exact absurd hd0 (hlin.dist i j0 p.1 o0 t h hj0 ho ho0 hd)
            obtain ⟨m0, -, hm0, hmk0, hc0⟩ := cntM_next (mk := mk) (a := 0) (b := n) (by simp [cntM]; omega)
            have hml := (hcm m0 hmk0).2 (by rw [hc0]; simp [cntM])
            obtain ⟨hne, hre⟩ := hbm m0 hmk0
            have hml' : listed.getD m0 false = true := ((hset m0).1 hml).resolve_left (fun e => hne (by omega))
            have := reach_closed hdown' 6 m0 j0 hre hml'
            rw [hji, h0'] at this
            cases this
        · rcases (hset j).1 hj with rfl | hj
          · rw [hpi] at hq
            injection hq with hq
            subst hq
            exact hself F d hf hd
          · have hne : j ≠ i := fun e => by rw [e, h0'] at hj; cases hj
            rw [hd' j q F d hne hq hf hd]
            exact hF' j q F d hj hjm hq hf hd
        · rcases (hset j).1 hj with rfl | hj
          · rw [hpi] at hq
            injection hq with hq
            subst hq
            exact ⟨w', hself F d hf hd⟩
          · have hne : j ≠ i := fun e => by rw [e, h0'] at hj; cases hj
            rw [hd' j q F d hne hq hf hd]
            exact hPu j q F d hj hq hf hd
      cases hk : p.2 with
      | fixed v0 =>
        have hv : v = v0 := by rw [hk] at hR; exact hR
        exact next ρ (by rw [hk]; exact hv.symm) (fun _ _ _ _ => rfl) (fun _ _ _ _ _ _ _ _ => rfl) (fun F d hf => by rw [hk] at hf; cases hf) (fun _ _ => rfl)
      | fresh F =>
        obtain ⟨d, hd⟩ := hp.dst p (by rw [hsplit]; simp) ⟨F, hk⟩
        have hR' : F.holds v w' := by rw [hk] at hR; exact hR
        have hne : ∀ j q d', j ≠ i → full[j]? = some q → q.1.dst = some d' → d' ≠ d := fun j q d' hji hq hd' e => hdist2 j i q p d' hji hq hpi hd' (by rw [hd, e])
        refine next (fun t => if t = d then v else ρ t) (by rw [hk]; simp [Kind.val, hd]) (fun j q hji hq => ?_) (fun j q F' d' hji hq _ hd' => if_neg (hne j q d' hji hq hd')) (fun F' d' hf hd' => ?_) (fun t ht => if_neg (fun e => ht F hk (by rw [hd, e])))
        · cases hkq : q.2 with
          | fixed v0 => rfl
          | fresh F' =>
            obtain ⟨d', hd'⟩ := hp.dst q (List.mem_of_getElem? hq) ⟨F', hkq⟩
            simp only [Kind.val, hd']
            exact if_neg (hne j q d' hji hq hd')
        · rw [hk] at hf
          injection hf with hf
          rw [hd] at hd'
          injection hd' with hd'
          subst hf hd'
          simpa using hR'
    have hset' : ∀ j, (listed.setIfInBounds i true).getD j false = false → listed.getD j false = false := fun j hj => by
      by_cases hji : j = i
      · rw [hji]; exact h0'
      · rwa [getD_set_ne false (Ne.symm hji)] at hj
    have hlen_i : (full.take i).length = i := by rw [List.length_take]; omega
    have hseti : (listed.setIfInBounds i true).getD i false = true := by simp [Array.getD, hsz, hlt]
    rw [hlen_i] at hst
    unfold wpOp
    simp only [ho]
    unfold StepTo at hst
    rw [← hwant] at hst
    split
    · rename_i hw
      rw [if_pos hw] at hst
      refine .inl (wp_carry (R := fun v w' => p.2.rel v w' ∧ S w' ∧ (EsF mk E Em I i ρ) w w') hexec size_eq (hst _ fun v w' h1 h2 h3 => ⟨v, rfl, h1, h2, h3⟩) fun v w' ⟨h1, h2, h3⟩ => go v w' h1 h2 (fun c hc hcm => ?_) fun j q F d hj hjm hq hf hd => ?_)
      · rcases hmi : mk i with _ | _
        · unfold EsF at h3
          rw [hmi] at h3
          refine hIE _ _ _ _ (hS0 c hc fun m hm => ?_) h3
          rw [← hcm m hm, getD_set_ne false (fun e => by rw [← e, hmi] at hm; cases hm)]
        · unfold EsF at h3
          rw [hmi] at h3
          have hci := (hcm i hmi).1 hseti
          have hceq : c = cntM mk i + 1 := by
            apply Classical.byContradiction
            intro hne
            have h1i : cntM mk (i + 1) = cntM mk i + 1 := by rw [cntM, hmi]; rfl
            obtain ⟨m', hm1, hm2, hm3, hm4⟩ := cntM_next (mk := mk) (a := i + 1) (b := n) (by omega)
            have hl := (hcm m' hm3).2 (by omega)
            rw [getD_set_ne false (by omega), later m' hm3 (by omega) (hmk.fix i hmi)] at hl
            cases hl
          rw [hceq]
          exact h3.1
      have hjm' : fl j = true ∨ ∀ m, mk m = true → j < m → listed.getD m false = false := hjm.imp id fun hjm m hm h => hset' m (hjm m hm h)
      rcases hmi : mk i with _ | _
      · unfold EsF at h3
        rw [hmi] at h3
        exact F.keep _ _ _ (hF j q F d hj hjm' hq hf hd) h3
      · unfold EsF at h3
        rw [hmi] at h3
        rcases hp.flt j q F hq hf with hfl | hst'
        · exfalso
          rcases Nat.lt_trichotomy j i with h | h | h
          · rcases hjm with h9 | hjm
            · rw [hfl] at h9; cases h9
            · have := hjm i hmi h
              rw [hseti] at this
              cases this
          · rw [h, h0'] at hj; cases hj
          · have := reach_closed hdown' 6 j i (hmk.after i j hmi h (by have := (List.getElem?_eq_some_iff.1 hq).1; omega) hfl) hj
            rw [h0'] at this
            cases this
        · exact hst' _ _ _ (hF j q F d hj hjm' hq hf hd) h3.2
    · rename_i hw
      rw [if_neg hw] at hst
      have hni : mk i = false := by
        rcases hmi : mk i with _ | _
        · rfl
        · exact absurd (by simp [Region.wanted, hmk.gd i _ hmi ho]) hw
      exact go undef w hst hS (fun c hc hcm => hS0 c hc fun m hm => by rw [← hcm m hm, getD_set_ne false (fun e => by rw [← e, hni] at hm; cases hm)]) fun j q F d hj hjm hq hf hd => hF j q F d hj (hjm.imp id fun hjm m hm h => hset' m (hjm m hm h)) hq hf hd

/-- the same, that nothing looks into -/
structure WalkG (P : Program) (ops : Array Oper) (S : World → Prop) (I : Nat → Env → World → Prop) (E Em : World → World → Prop) (mk fl : Nat → Bool) (Z : (Env → Act) → List (Tmp × Fact E) → List (Tmp × Fact E) → Prop) (k : Nat) (l : List Oper) (A : Env → Act) (Fs Gs Hs : List (Tmp × Fact E)) : Prop where
  out : SettleG P ops S I E Em mk fl Z k l A Fs Gs Hs

/-- THE RULE, with marks and a tail of n operations ahead of it -/
theorem wp_walk_pg {id : Nat} {a : Act} {w : World} {l : List Oper} (n : Nat) (mk fl : Nat → Bool) (ms : List Nat) (hms : ∀ m, mk m = true → m ∈ ms) (hm : P.follows .mixedOrders = true) (hB : tailB l.toArray n = true) (hmk : markPB l.toArray n mk fl ms = true) (L : List Tmp) (hLB : labB l.toArray n ms L = true) (E Em : World → World → Prop) (S : World → Prop) (I : Nat → Env → World → Prop) (hS : S w.drew) (hS0 : ∀ ρ, I 0 ρ w.drew) (hIE : ∀ c ρ w w', I c ρ w → E w w' → I c ρ w') (hI0 : ∀ ρ ρ' w, I 0 ρ w → I 0 ρ' w) (hIρ : ∀ c ρ ρ' w, (∀ t ∈ L, ρ t = ρ' t) → I c ρ w → I c ρ' w)
    (h : WalkG P l.toArray S I E Em mk fl (fun A Fs Gs => ∀ ρ w', S w' → I (cntM mk n) ρ w' → (∀ t F, (t, F) ∈ Fs → F.holds (ρ t) w') → (∀ t F, (t, F) ∈ Gs → F.holds (ρ t) w') → wpList P l.toArray Q (l.drop n) (A ρ) w') 0 (l.take n) (fun _ => a) [] [] []) : (Code.region id l.toArray true).wp P Q a w := by
  simp only [tailB, Bool.and_eq_true, decide_eq_true_eq] at hB
  obtain ⟨⟨⟨⟨hn, hlin⟩, hs⟩, hc⟩, hq⟩ := hB
  obtain ⟨full, hp, he, hZ⟩ := settleG_plan (l.take n) [] ⟨(fun _ h => by cases h), (fun j p F h => by simp at h), (fun pre p post he => by simp at he)⟩ h.out
  have inv0 : HeadInv .any l.toArray n (Array.replicate l.toArray.size false) :=
    ⟨by simp, fun j oj _ hl => (by rw [getD_replicate_false] at hl; cases hl), fun t _ ht => getD_in (by simpa using ht) (getD_replicate_false _ _)⟩
  have := any_order_pg (P := P) (Q := Q) hn (by simpa using he) (linearN_of hlin) hs hc (fun listed hsz h1 h2 => by
    have hn' := hn
    rw [show listed = (Array.replicate n true) ++ (Array.replicate (l.toArray.size - n) false) from getD_ext (by simp only [Array.size_append, Array.size_replicate]; omega) fun i => by
      rw [Array.getD_eq_getD_getElem? (xs := _ ++ _), Array.getElem?_append]
      rcases Nat.lt_or_ge i n with h | h
      · rw [h1 i h]
        simp [h]
      · rw [h2 i h]
        simp only [Array.size_replicate, Nat.not_lt.2 h, if_false, Array.getElem?_replicate]
        split <;> rfl]
    exact hq) (markedP_of hms hmk) hp hIE hI0 hIρ (labB_spec hms hLB) hZ n _ a w.drew (fun _ => undef) inv0 ⟨List.range n, by simp, fun i hi _ => List.mem_range.2 hi⟩ ⟨rfl, rfl, fun _ _ => rfl, fun i p t hi => ?_⟩ hS (fun c hc hcm => ?_) (fun i p F d hi => ?_) fun i p F d hi => ?_
  · refine wp_region_any hm ?_
    rwa [show n + (l.toArray.size - n) = l.toArray.size by omega] at this
  · exfalso; rw [getD_replicate_false] at hi; cases hi
  · rcases c with _ | c
    · exact hS0 _
    · obtain ⟨m0, -, hm0, hmk0, hc0⟩ := cntM_next (mk := mk) (a := 0) (b := n) (by simp [cntM]; omega)
      have := (hcm m0 hmk0).2 (by rw [hc0]; simp [cntM])
      rw [getD_replicate_false] at this
      cases this
  · exfalso; rw [getD_replicate_false] at hi; cases hi
  · exfalso; rw [getD_replicate_false] at hi; cases hi
variable {Z : (Env → Act) → List (Tmp × Fact E) → List (Tmp × Fact E) → Prop} {o : Oper} {rest : List Oper} {A : Env → Act} {Fs Gs Hs : List (Tmp × Fact E)} {k : Nat}
theorem gsettle_nil (h : Z A Fs Gs) : WalkG P ops S I E Em mk fl Z k [] A Fs Gs Hs := ⟨h⟩
theorem gsettle_skip (hmk : mk k = false) (hw : ∀ ρ, Region.wanted o (yielded ops (A ρ).tmps) = false) (h : WalkG P ops S I E Em mk fl Z (k + 1) rest (fun ρ => (A ρ).put o.dst undef) Fs Gs Hs) : WalkG P ops S I E Em mk fl Z k (o :: rest) A Fs Gs Hs :=
  ⟨.inl ⟨undef, fun ρ w _ _ _ _ => by unfold StepTo; rw [if_neg (by rw [hw]; simp)], by rw [hmk]; exact h.out⟩⟩
theorem gsettle_run {v : Value} (hmk : mk k = false) (hE : ∀ w, S w → E w w) (hw : ∀ ρ, Region.wanted o (yielded ops (A ρ).tmps) = true)
    (hr : ∀ ρ w, S w → FactsOK (o.looksAt ops) ρ w (cond (fl k) [] Fs) → PreP mk fl I k ρ w → ((∀ t F, (t, F) ∈ Hs → t ∈ o.looksAt ops → ∃ w, F.holds (ρ t) w) ∧ (∀ t F, (t, F) ∈ Gs → t ∈ o.looksAt ops → F.holds (ρ t) w)) → (execOp (A ρ).eval o).run P w = .ok (.value v) w) (h : WalkG P ops S I E Em mk fl Z (k + 1) rest (fun ρ => (A ρ).put o.dst v) Fs Gs Hs) : WalkG P ops S I E Em mk fl Z k (o :: rest) A Fs Gs Hs :=
  ⟨.inl ⟨v, fun ρ w hS hF hP hU => by
    unfold StepTo
    rw [if_pos (hw ρ)]
    unfold EsF
    rw [hmk]
    intro K hK
    unfold Oper.wp
    rw [hr ρ w hS hF hP hU]
    exact hK v w rfl hS (hE w hS), by rw [hmk]; exact h.out⟩⟩
theorem gsettle_step {v : Value} (hmk : mk k = false) (hw : ∀ ρ, Region.wanted o (yielded ops (A ρ).tmps) = true)
    (hc : ∀ ρ w, S w → FactsOK (o.looksAt ops) ρ w (cond (fl k) [] Fs) → PreP mk fl I k ρ w → ((∀ t F, (t, F) ∈ Hs → t ∈ o.looksAt ops → ∃ w, F.holds (ρ t) w) ∧ (∀ t F, (t, F) ∈ Gs → t ∈ o.looksAt ops → F.holds (ρ t) w)) → ∀ K : Act → World → Prop, (∀ w', S w' → E w w' → K ((A ρ).put o.dst v) w') → o.wp P (A ρ) w K (fun _ _ _ => False)) (h : WalkG P ops S I E Em mk fl Z (k + 1) rest (fun ρ => (A ρ).put o.dst v) Fs Gs Hs) : WalkG P ops S I E Em mk fl Z k (o :: rest) A Fs Gs Hs :=
  ⟨.inl ⟨v, fun ρ w hS hF hP hU => by
    unfold StepTo
    rw [if_pos (hw ρ)]
    unfold EsF
    rw [hmk]
    exact fun K hK => hc ρ w hS hF hP hU K fun w' h1 h2 => hK v w' rfl h1 h2, by rw [hmk]; exact h.out⟩⟩
theorem gsettle_known {d : Tmp} (F : Fact E) (hmk : mk k = false) (hfl : fl k = false) (hd : o.dst = some d) (hw : ∀ ρ, Region.wanted o (yielded ops (A ρ).tmps) = true)
    (hc : ∀ ρ w, S w → FactsOK (o.looksAt ops) ρ w (cond (fl k) [] Fs) → PreP mk fl I k ρ w → ((∀ t F, (t, F) ∈ Hs → t ∈ o.looksAt ops → ∃ w, F.holds (ρ t) w) ∧ (∀ t F, (t, F) ∈ Gs → t ∈ o.looksAt ops → F.holds (ρ t) w)) → ∀ K : Act → World → Prop, (∀ v w', F.holds v w' → S w' → E w w' → K ((A ρ).put o.dst v) w') → o.wp P (A ρ) w K (fun _ _ _ => False)) (h : WalkG P ops S I E Em mk fl Z (k + 1) rest (fun ρ => (A ρ).put (some d) (ρ d)) ((d, F) :: Fs) Gs ((d, F) :: Hs)) : WalkG P ops S I E Em mk fl Z k (o :: rest) A Fs Gs Hs :=
  ⟨.inr ⟨d, F, hd, .inl hfl, fun ρ w hS hF hP hU => by
    unfold StepTo
    rw [if_pos (hw ρ)]
    unfold EsF
    rw [hmk]
    exact fun K hK => hc ρ w hS hF hP hU K hK, by rw [hmk, hfl]; exact h.out⟩⟩
/-- a mark: what was known is forgotten -/
theorem gsettle_mark {d : Tmp} (F : Fact E) (hmk : mk k = true) (hfl : fl k = false) (hd : o.dst = some d) (hw : ∀ ρ, Region.wanted o (yielded ops (A ρ).tmps) = true)
    (hc : ∀ ρ w, S w → FactsOK (o.looksAt ops) ρ w (cond (fl k) [] Fs) → PreP mk fl I k ρ w → ((∀ t F, (t, F) ∈ Hs → t ∈ o.looksAt ops → ∃ w, F.holds (ρ t) w) ∧ (∀ t F, (t, F) ∈ Gs → t ∈ o.looksAt ops → F.holds (ρ t) w)) → ∀ K : Act → World → Prop, (∀ v w', F.holds v w' → S w' → I (cntM mk k + 1) ρ w' → Em w w' → K ((A ρ).put o.dst v) w') → o.wp P (A ρ) w K (fun _ _ _ => False)) (h : WalkG P ops S I E Em mk fl Z (k + 1) rest (fun ρ => (A ρ).put (some d) (ρ d)) [(d, F)] Gs ((d, F) :: Hs)) : WalkG P ops S I E Em mk fl Z k (o :: rest) A Fs Gs Hs :=
  ⟨.inr ⟨d, F, hd, .inl hfl, fun ρ w hS hF hP hU => by
    unfold StepTo
    rw [if_pos (hw ρ)]
    unfold EsF
    rw [hmk]
    exact fun K hK => hc ρ w hS hF hP hU K fun v w' h1 h2 h3 h4 => hK v w' h1 h2 ⟨h3, h4⟩, by rw [hmk, hfl]; exact h.out⟩⟩
/-- a mark whose value is known, or that has none -/
theorem gsettle_turn {v : Value} (hmk : mk k = true) (hw : ∀ ρ, Region.wanted o (yielded ops (A ρ).tmps) = true)
    (hc : ∀ ρ w, S w → FactsOK (o.looksAt ops) ρ w (cond (fl k) [] Fs) → PreP mk fl I k ρ w → ((∀ t F, (t, F) ∈ Hs → t ∈ o.looksAt ops → ∃ w, F.holds (ρ t) w) ∧ (∀ t F, (t, F) ∈ Gs → t ∈ o.looksAt ops → F.holds (ρ t) w)) → ∀ K : Act → World → Prop, (∀ w', S w' → I (cntM mk k + 1) ρ w' → Em w w' → K ((A ρ).put o.dst v) w') → o.wp P (A ρ) w K (fun _ _ _ => False)) (h : WalkG P ops S I E Em mk fl Z (k + 1) rest (fun ρ => (A ρ).put o.dst v) [] Gs Hs) : WalkG P ops S I E Em mk fl Z k (o :: rest) A Fs Gs Hs :=
  ⟨.inl ⟨v, fun ρ w hS hF hP hU => by
    unfold StepTo
    rw [if_pos (hw ρ)]
    unfold EsF
    rw [hmk]
    exact fun K hK => hc ρ w hS hF hP hU K fun w' h1 h2 h3 => hK v w' rfl h1 ⟨h2, h3⟩, by rw [hmk]; exact h.out⟩⟩
theorem gsettle_float {d : Tmp} (F : Fact E) (hst : Stays Em F) (hmk : mk k = false) (hfl : fl k = true) (hd : o.dst = some d) (hw : ∀ ρ, Region.wanted o (yielded ops (A ρ).tmps) = true)
    (hc : ∀ ρ w, S w → FactsOK (o.looksAt ops) ρ w (cond (fl k) [] Fs) → PreP mk fl I k ρ w → ((∀ t F, (t, F) ∈ Hs → t ∈ o.looksAt ops → ∃ w, F.holds (ρ t) w) ∧ (∀ t F, (t, F) ∈ Gs → t ∈ o.looksAt ops → F.holds (ρ t) w)) → ∀ K : Act → World → Prop, (∀ v w', F.holds v w' → S w' → E w w' → K ((A ρ).put o.dst v) w') → o.wp P (A ρ) w K (fun _ _ _ => False)) (h : WalkG P ops S I E Em mk fl Z (k + 1) rest (fun ρ => (A ρ).put (some d) (ρ d)) ((d, F) :: Fs) ((d, F) :: Gs) ((d, F) :: Hs)) : WalkG P ops S I E Em mk fl Z k (o :: rest) A Fs Gs Hs :=
  ⟨.inr ⟨d, F, hd, .inr hst, fun ρ w hS hF hP hU => by
    unfold StepTo
    rw [if_pos (hw ρ)]
    unfold EsF
    rw [hmk]
    exact fun K hK => hc ρ w hS hF hP hU K hK, by rw [hmk, hfl]; exact h.out⟩⟩
end
end Go.Proofs.Ytgaafgjhkkjalaa


namespace Go.Proofs.Ytgaafgjhkkjalaa
set_option linter.unusedVariables false
set_option linter.unusedSimpArgs false
set_option maxRecDepth 100000
open Go.RowKit

namespace St
open Ex
theorem plain_sizeU : ∀ (p : P), (plain p).size ≤ p.size
  | .nil => Nat.le_refl _
  | .cons k n a b body els r => by
    have h1 := plain_sizeU body
    have h2 := plain_sizeU els
    have h3 := plain_sizeU r
    have h4 := a.leaves_pos
    have h5 := b.leaves_pos
    unfold plain
    split <;> simp only [P.size, Ex.X.leaves] <;> omega
end St
/-- a slice of statements; what Unfold has; a term -/
def FPu (p : St.P) : Fact (fun w w' => Below w.heap.size w w') := ⟨fun v w => ∃ A n c, v = .slice A n c ∧ IsP w (.slice A n c) p, fun v w w' ⟨A, n, c, h1, h2⟩ k => ⟨A, n, c, h1, h2.step k⟩⟩
theorem KsR.step_ {w w' : World} {cs : List Value} {s : Ks} (h : KsR w.heap.size w cs s) (hb : Below w.heap.size w w') : KsR w'.heap.size w' cs s := (h.later hb).up hb.size
def FUn (H : Array Value) (E : Int) (t : Sp.T) : Fact (fun w w' => Below w.heap.size w w') := ⟨fun v w => ∃ k c b l A n cap, v = .tuple #[.agg #[.int .i64 k, .int .i64 c, .bool b, .int .i64 l, .slice A n cap], .agg H, .int .i64 E] ∧ KsR w.heap.size w (tcells k c b l A n cap) (Ks.of t), fun v w w' ⟨k, c, b, l, A, n, cap, h1, h2⟩ hb => ⟨k, c, b, l, A, n, cap, h1, h2.step_ hb⟩⟩
def FTu (t : Sp.T) : Fact (fun w w' => Below w.heap.size w w') := ⟨fun v w => ∃ k c b l A n cap, v = .agg #[.int .i64 k, .int .i64 c, .bool b, .int .i64 l, .slice A n cap] ∧ KsR w.heap.size w (tcells k c b l A n cap) (Ks.of t), fun v w w' ⟨k, c, b, l, A, n, cap, h1, h2⟩ hb => ⟨k, c, b, l, A, n, cap, h1, h2.step_ hb⟩⟩
theorem KsR.tm {w : World} {cs : List Value} {t : Sp.T} (h : KsR w.heap.size w cs (Ks.of t)) : TmR w.heap.size w cs t := by
  have h5 := h.terms 0 t (by rw [Ks.of_tt]; rfl)
  have h6 : cs.length = 5 := by rw [h.length, Ks.of_len]
  rwa [Nat.zero_mul, List.drop_zero, List.take_of_length_le (by omega)] at h5
/-- kids lie two in a row: no store into a short block meets them -/
theorem KsR.app_inv {B : Nat} {w : World} : ∀ {a b : Ks} {cs : List Value}, KsR B w cs (a.app b) → ∃ c1 c2, cs = c1 ++ c2 ∧ KsR B w c1 a ∧ KsR B w c2 b
  | .nil, _, cs, h => ⟨[], cs, rfl, .nil, h⟩
  | .cons k c b l kids rest, b', cs, h => by
    cases h with
    | cons _ _ _ _ A cap ds cs' _ _ h1 h2 h3 h4 h5 =>
      obtain ⟨c1, c2, rfl, h6, h7⟩ := KsR.app_inv h5
      exact ⟨tcells k c b l A kids.len cap ++ c1, c2, by rw [List.append_assoc], .cons k c b l A cap ds c1 kids rest h1 h2 h3 h4 h6, h7⟩
theorem KsR.put_short {B S : Nat} {w w' : World} {ty : TypeId} {zs : List Value} (hS : Blk w S ty zs) (hz : zs.length ≤ 9) (hg : w.grownBy w' (some S)) (hB : B ≤ w.heap.size) : ∀ {t : Sp.T} {cs : List Value}, KsR B w cs (Ks.of t) → KsR B w' cs (Ks.of t)
  | .nil, cs, h => by
    cases h with
    | cons _ _ _ _ A cap ds cs' _ _ h1 h2 h3 h4 h5 =>
      cases h4
      cases h5
      exact .cons 0 0 false 0 A cap [] [] .nil .nil h1 h2 (by obtain ⟨g, o, h6, h7⟩ := h3; exact ⟨g, o, h6, fun j u hu => by simp at hu⟩) .nil .nil
  | .one c b l, cs, h => by
    cases h with
    | cons _ _ _ _ A cap ds cs' _ _ h1 h2 h3 h4 h5 =>
      cases h4
      cases h5
      exact .cons 1 c b l A cap [] [] .nil .nil h1 h2 (by obtain ⟨g, o, h6, h7⟩ := h3; exact ⟨g, o, h6, fun j u hu => by simp at hu⟩) .nil .nil
  | .two par a b, cs, h => by
    cases h with
    | cons _ _ _ _ A cap ds cs' _ _ h1 h2 h3 h4 h5 =>
      cases h5
      have hlen := h4.length
      rw [Ks.app_len, Ks.of_len, Ks.of_len] at hlen
      obtain ⟨c1, c2, rfl, h6, h7⟩ := KsR.app_inv h4
      refine .cons _ 0 false 0 A cap _ [] _ .nil h1 h2 ?_ (KsR.app (KsR.put_short hS hz hg hB h6) (KsR.put_short hS hz hg hB h7)) .nil
      obtain ⟨g, o, h8, h9⟩ := h3
      have hne : c1 ++ c2 ≠ [] := fun e => by rw [e] at hlen; simp at hlen
      have hgS : g ≠ S := fun e => by
        subst e
        have h10 := h9 9 _ (List.getElem?_eq_getElem (by omega))
        rw [hS.cell] at h10
        rw [List.getElem?_eq_none (by omega)] at h10
        cases h10
      exact ⟨g, o, h8, fun j u hu => (World.cell?_of_block (a := ⟨g, o + j, none⟩) (hg.block g (by have := (h8 hne).2; omega) (fun e => hgS (by injection e)))).trans (h9 j u hu)⟩

/-- a term, put into a variable of its own; a heap's variable -/
def IT (B0 : Nat) (t : Sp.T) (v7 : Value) (w : World) : Prop := ∃ S k c b l A n cap, v7 = .pointer (some ⟨S, 0, none⟩) ∧ B0 ≤ S ∧ Blk w S 30 [.int .i64 k, .int .i64 c, .bool b, .int .i64 l, .slice A n cap] ∧ KsR w.heap.size w (tcells k c b l A n cap) (Ks.of t)
theorem IT.step {B0 : Nat} {t : Sp.T} {v7 : Value} {w w' : World} (h : IT B0 t v7 w) (hb : Below w.heap.size w w') : IT B0 t v7 w' := by
  obtain ⟨S, k, c, b, l, A, n, cap, h1, h3, h5, h7⟩ := h
  exact ⟨S, k, c, b, l, A, n, cap, h1, h3, h5.below hb, h7.step_ hb⟩
theorem IT.cong {B0 : Nat} {t : Sp.T} {v7 u7 : Value} {w : World} (h : IT B0 t v7 w) (h7 : v7 = u7) : IT B0 t u7 w := h7 ▸ h
def Blk8 (w : World) (q : Nat) : Prop := ∃ cs : List Value, cs.length = 8 ∧ Blk w q 24 cs
theorem blk8_put {w w5 : World} {H : Nat} {cs : List Value} (hl : cs.length = 8) (hB : Blk w5 H 24 cs) (hg : w.grownBy w5 (some H)) : ∀ q, Blk8 w q → Blk8 w5 q := fun q ⟨cs', hl', hq⟩ => by
  by_cases e : q = H
  · subst e
    exact ⟨cs, hl, hB⟩
  · exact ⟨cs', hl', hq.grown hg (fun h => e (by injection h))⟩
def FH8 (B0 : Nat) : Fact (fun w w' => Below w.heap.size w w') := ⟨fun v w => ∃ g, v = .pointer (some ⟨g, 0, none⟩) ∧ B0 ≤ g ∧ Blk8 w g, fun _ _ _ ⟨g, h1, h2, cs, h3, h4⟩ k => ⟨g, h1, h2, cs, h3, h4.below k⟩⟩

set_option maxHeartbeats 8000000 in
theorem unfoldPlain_any (p : St.P) (h : List Int) (fuel : Int) (w : World) (D : Option Addr) (dl dc : Nat) (hp : IsP w (.slice D dl dc) p) (hs : p.size ≤ 137438953472) (hh : h.length = 8) (hr : ∀ x ∈ h, Ex.rng x) :
    Calls Try.prog 5 #[.slice D dl dc, hcells h, .int .i64 fuel] w fun e w' => e = .returned (.bool true) ∧ Below w.heap.size w w' := by
  obtain ⟨b0, b1, b2, b3, b4, b5, b6, b7, rfl⟩ := Sr.heap8 hh
  have hsp : (St.plain p).size ≤ 274877906944 := Nat.le_trans (St.plain_sizeU p) (by omega)
  have gUf := fun w' A n c (h : IsP w' (.slice A n c) (St.plain p)) => isP_unfold h [b0, b1, b2, b3, b4, b5, b6, b7] fuel hsp rfl hr
  have hPl : ∀ w', IsP w' (.slice D dl dc) p → Calls Try.prog 13 #[.slice D dl dc] w' fun e w'' => ∃ A n c, e = .returned (.slice A n c) ∧ IsP w'' (.slice A n c) (St.plain p) ∧ Below w'.heap.size w' w'' := fun w' hp => by
    obtain ⟨A, n, c, e, h1, h2, h3⟩ := hp
    injection e with e1 e2 e3
    subst e1 e2 e3
    refine (plain_any p w' _ dl dc D (Nat.le_refl _) h3 h1 h2 (by omega)).mono ?_
    rintro e w'' ⟨u, rfl, h4, h5⟩
    have h6 := h4.is
    obtain ⟨A, n, c, rfl, -⟩ := id h6
    exact ⟨A, n, c, rfl, h6, h5⟩
  have hch := Un.plain_law p [b0, b1, b2, b3, b4, b5, b6, b7] fuel
  have hsz := Un.term_size (St.plain p) [b0, b1, b2, b3, b4, b5, b6, b7] fuel
  obtain ⟨a0, a1, a2, a3, a4, a5, a6, a7, hfin⟩ := Sr.heap8 (Un.fin_len (St.plain p) [b0, b1, b2, b3, b4, b5, b6, b7] fuel rfl)
  obtain ⟨E, hE⟩ : ∃ E, E = Sr.err (St.plain p) [b0, b1, b2, b3, b4, b5, b6, b7] fuel := ⟨_, rfl⟩
  obtain ⟨t, ht⟩ : ∃ t, t = Un.term (St.plain p) [b0, b1, b2, b3, b4, b5, b6, b7] fuel := ⟨_, rfl⟩
  rw [← ht] at hsz hch
  simp only [hcells, ← hE, ← ht, hfin] at gUf
  simp only [hcells, ints, List.map_cons, List.map_nil] at gUf ⊢
  have hb0 : Below w.heap.size w (w.alloc (.cells #[.int .i64 b0, .int .i64 b1, .int .i64 b2, .int .i64 b3, .int .i64 b4, .int .i64 b5, .int .i64 b6, .int .i64 b7] 24)) := below_alloc (Below.refl _ _) _
  have x0 := Blk.new w 24 [.int .i64 b0, .int .i64 b1, .int .i64 b2, .int .i64 b3, .int .i64 b4, .int .i64 b5, .int .i64 b6, .int .i64 b7]
  have ip0 := hp.step hb0
  have HH := Lib.hid (And.intro hch hsz)
  clear hE ht hfin hch hsz hp hs hh hr hsp
  go_enter Try.func5, Try.ntmps5
  go_upto_region 1 with (fail)
  obtain ⟨Q, hQ⟩ : ∃ Q, Q = w.heap.size := ⟨_, rfl⟩
  generalize (w.alloc (.cells #[.int .i64 b0, .int .i64 b1, .int .i64 b2, .int .i64 b3, .int .i64 b4, .int .i64 b5, .int .i64 b6, .int .i64 b7] 24)) = W0 at hb0 x0 ip0 ⊢
  rw [← hQ] at x0 ⊢
  clear hQ
  go_wp2_with fail
  refine (alive14_any W0).mono ?_
  rintro e w1 ⟨rfl, hb1⟩
  replace x0 := x0.below hb1
  replace ip0 := ip0.step hb1
  replace hb0 := below_next hb1 hb0
  clear hb1
  have keepS : ∀ w', Below w1.heap.size w1 w' → (Below w1.heap.size w1 w' ∧ w'.cell? ⟨Q, 0, none⟩ = some (.int .i64 b0) ∧ w'.cell? ⟨Q, 1, none⟩ = some (.int .i64 b1) ∧ w'.cell? ⟨Q, 2, none⟩ = some (.int .i64 b2) ∧ w'.cell? ⟨Q, 3, none⟩ = some (.int .i64 b3) ∧ w'.cell? ⟨Q, 4, none⟩ = some (.int .i64 b4) ∧ w'.cell? ⟨Q, 5, none⟩ = some (.int .i64 b5) ∧ w'.cell? ⟨Q, 6, none⟩ = some (.int .i64 b6) ∧ w'.cell? ⟨Q, 7, none⟩ = some (.int .i64 b7)) := fun w' hb => ⟨hb, ((x0.below hb).cell 0).trans rfl, ((x0.below hb).cell 1).trans rfl, ((x0.below hb).cell 2).trans rfl, ((x0.below hb).cell 3).trans rfl, ((x0.below hb).cell 4).trans rfl, ((x0.below hb).cell 5).trans rfl, ((x0.below hb).cell 6).trans rfl, ((x0.below hb).cell 7).trans rfl⟩
  have hS0 := keepS _ (below_drew (Below.refl _ _))
  have gP := fun w' (hb : Below w1.heap.size w1 w') => hPl w' (ip0.step hb)
  clear hPl ip0 x0
  go_wp2_with fail
  refine wp_walk_pg 13 (fun i => ([11,12] : List Nat).contains i) (fun i => ([7,8,10] : List Nat).contains i) [11,12] (by intro m h; simpa using h) (by kernel_rfl) (by kernel_rfl) (by kernel_rfl) [7] (by kernel_rfl) (fun w w' => Below w.heap.size w w') (fun w w' => ∀ q, Blk8 w q → Blk8 w' q) (fun w' => (Below w1.heap.size w1 w' ∧ w'.cell? ⟨Q, 0, none⟩ = some (.int .i64 b0) ∧ w'.cell? ⟨Q, 1, none⟩ = some (.int .i64 b1) ∧ w'.cell? ⟨Q, 2, none⟩ = some (.int .i64 b2) ∧ w'.cell? ⟨Q, 3, none⟩ = some (.int .i64 b3) ∧ w'.cell? ⟨Q, 4, none⟩ = some (.int .i64 b4) ∧ w'.cell? ⟨Q, 5, none⟩ = some (.int .i64 b5) ∧ w'.cell? ⟨Q, 6, none⟩ = some (.int .i64 b6) ∧ w'.cell? ⟨Q, 7, none⟩ = some (.int .i64 b7))) (fun c ρ w' => match c with | 0 => True | 1 => IT w1.heap.size t (ρ 7) w' | _ + 2 => IT w1.heap.size t (ρ 7) w') hS0 (fun _ => trivial) (fun c ρ w w' h k => match c, h with | 0, _ => trivial | 1, h => IT.step h k | _ + 2, h => IT.step h k) (fun _ _ _ _ => trivial) (fun c ρ ρ' w h k => match c, k with | 0, _ => trivial | 1, k => IT.cong k (h 7 (by simp)) | _ + 2, k => IT.cong k (h 7 (by simp))) ?_
  simp only [List.length_cons, List.length_nil, Nat.reduceAdd, Nat.reduceSub, List.take_succ_cons, List.take_zero, List.drop_succ_cons, List.drop_zero]
  repeat (first | (refine gsettle_skip (by rfl) (fun _ => by rfl) ?_; (simp only [Act.put, List.setIfInBounds_toArray, List.set_cons_zero, List.set_cons_succ])) | (refine' gsettle_run (by rfl) (fun _ _ => Below.refl _ _) (fun _ => by rfl) ?_ ?_; rotate_left; (focus (intro ρ w hS hF hP hU; (try dsimp only at hS); go_split_ands; go_simp; try with_reducible rfl)); (simp only [Act.put, List.setIfInBounds_toArray, List.set_cons_zero, List.set_cons_succ])))
  (refine gsettle_known (FPu (St.plain p)) (by rfl) (by rfl) (by rfl) (fun _ => by rfl)  ?_ ?_; (focus (intro ρ w hS hF hP hU K hK; (simp only [Act.put, List.setIfInBounds_toArray, List.set_cons_zero, List.set_cons_succ] at hK); go_simp; (go_at_call 13; refine (gP _ hS.1).mono ?_; rintro e w' ⟨A, n, c, rfl, h1, hb'⟩; exact hK _ _ ⟨A, n, c, rfl, h1⟩ (keepS _ (below_next hb' hS.1)) hb'))); (simp only [Act.put, List.setIfInBounds_toArray, List.set_cons_zero, List.set_cons_succ]))
  repeat (first | (refine gsettle_skip (by rfl) (fun _ => by rfl) ?_; (simp only [Act.put, List.setIfInBounds_toArray, List.set_cons_zero, List.set_cons_succ])) | (refine' gsettle_run (by rfl) (fun _ _ => Below.refl _ _) (fun _ => by rfl) ?_ ?_; rotate_left; (focus (intro ρ w hS hF hP hU; (try dsimp only at hS); go_split_ands; go_simp; try with_reducible rfl)); (simp only [Act.put, List.setIfInBounds_toArray, List.set_cons_zero, List.set_cons_succ])))
  (refine gsettle_known (FUn #[.int .i64 a0, .int .i64 a1, .int .i64 a2, .int .i64 a3, .int .i64 a4, .int .i64 a5, .int .i64 a6, .int .i64 a7] E t) (by rfl) (by rfl) (by rfl) (fun _ => by rfl)  ?_ ?_; (focus (intro ρ w hS hF hP hU K hK; (simp only [Act.put, List.setIfInBounds_toArray, List.set_cons_zero, List.set_cons_succ] at hK); go_simp; (obtain ⟨A0, n0, c0, e14, h14⟩ := hF.1 (by rfl); rw [e14] at hK ⊢; go_at_call 8; refine (gUf _ _ _ _ h14).mono ?_; rintro e w' ⟨k, c, b, l, A, n, cap, rfl, -, h2, hb'⟩; exact hK _ _ ⟨k, c, b, l, A, n, cap, rfl, h2⟩ (keepS _ (below_next hb' hS.1)) hb'))); (simp only [Act.put, List.setIfInBounds_toArray, List.set_cons_zero, List.set_cons_succ]))
  (refine gsettle_known (FUn #[.int .i64 a0, .int .i64 a1, .int .i64 a2, .int .i64 a3, .int .i64 a4, .int .i64 a5, .int .i64 a6, .int .i64 a7] E t) (by rfl) (by rfl) (by rfl) (fun _ => by rfl)  ?_ ?_; (focus (intro ρ w hS hF hP hU K hK; (simp only [Act.put, List.setIfInBounds_toArray, List.set_cons_zero, List.set_cons_succ] at hK); go_simp; exact hK _ _ (hF.1 (by rfl)) hS (Below.refl _ _))); (simp only [Act.put, List.setIfInBounds_toArray, List.set_cons_zero, List.set_cons_succ]))
  (refine gsettle_known (FTu t) (by rfl) (by rfl) (by rfl) (fun _ => by rfl)  ?_ ?_; (focus (intro ρ w hS hF hP hU K hK; (simp only [Act.put, List.setIfInBounds_toArray, List.set_cons_zero, List.set_cons_succ] at hK); go_simp; (obtain ⟨k, c, b, l, A, n, cap, e12, h12⟩ := hF.1 (by rfl); generalize ρ 12 = v12 at e12 hK ⊢; subst e12; go_simp; exact hK _ _ ⟨k, c, b, l, A, n, cap, rfl, h12⟩ hS (Below.refl _ _)))); (simp only [Act.put, List.setIfInBounds_toArray, List.set_cons_zero, List.set_cons_succ]))
  (refine gsettle_run (v := .agg #[.int .i64 a0, .int .i64 a1, .int .i64 a2, .int .i64 a3, .int .i64 a4, .int .i64 a5, .int .i64 a6, .int .i64 a7]) (by rfl) (fun _ _ => Below.refl _ _) (fun _ => by rfl) ?_ ?_; (focus (intro ρ w hS hF hP hU2; obtain ⟨w9, k, c, b, l, A, n, cap, e12, -⟩ := hU2.1 12 (FUn #[.int .i64 a0, .int .i64 a1, .int .i64 a2, .int .i64 a3, .int .i64 a4, .int .i64 a5, .int .i64 a6, .int .i64 a7] E t) (by repeat (first | exact List.mem_cons_self | apply List.mem_cons_of_mem)) (by decide); generalize ρ 12 = v12 at e12 ⊢; subst e12; go_simp)); (simp only [Act.put, List.setIfInBounds_toArray, List.set_cons_zero, List.set_cons_succ]))
  (refine gsettle_run (v := .int .i64 E) (by rfl) (fun _ _ => Below.refl _ _) (fun _ => by rfl) ?_ ?_; (focus (intro ρ w hS hF hP hU2; obtain ⟨w9, k, c, b, l, A, n, cap, e12, -⟩ := hU2.1 12 (FUn #[.int .i64 a0, .int .i64 a1, .int .i64 a2, .int .i64 a3, .int .i64 a4, .int .i64 a5, .int .i64 a6, .int .i64 a7] E t) (by repeat (first | exact List.mem_cons_self | apply List.mem_cons_of_mem)) (by decide); generalize ρ 12 = v12 at e12 ⊢; subst e12; go_simp)); (simp only [Act.put, List.setIfInBounds_toArray, List.set_cons_zero, List.set_cons_succ]))
  (refine gsettle_known (FZu w1.heap.size 30 zterm) (by rfl) (by rfl) (by rfl) (fun _ => by rfl)  ?_ ?_; (focus (intro ρ w hS hF hP hU K hK; (simp only [Act.put, List.setIfInBounds_toArray, List.set_cons_zero, List.set_cons_succ] at hK); go_simp; exact hK _ _ ⟨_, rfl, hS.1.size, Blk.new _ _ zterm⟩ (keepS _ (below_alloc hS.1 _)) (below_alloc (Below.refl _ _) _))); (simp only [Act.put, List.setIfInBounds_toArray, List.set_cons_zero, List.set_cons_succ]))
  (refine gsettle_float (FH8 w1.heap.size) (fun v w w' ⟨g, h1, h2, h3⟩ k ↦ ⟨g, h1, h2, k _ h3⟩) (by rfl) (by rfl) (by rfl) (fun _ => by rfl) ?_ ?_; (focus (intro ρ w hS hF hP hU K hK; (simp only [Act.put, List.setIfInBounds_toArray, List.set_cons_zero, List.set_cons_succ] at hK); go_simp; exact hK _ _ ⟨_, rfl, hS.1.size, zheap, rfl, Blk.new _ _ zheap⟩ (keepS _ (below_alloc hS.1 _)) (below_alloc (Below.refl _ _) _))); (simp only [Act.put, List.setIfInBounds_toArray, List.set_cons_zero, List.set_cons_succ]))
  (refine gsettle_turn (v := undef) (by rfl) (fun _ => by rfl) ?_ ?_; (focus (intro ρ w hS hF hP hU K hK; (simp only [Act.put, List.setIfInBounds_toArray, List.set_cons_zero, List.set_cons_succ] at hK); (obtain ⟨S, hv, hg1, hB⟩ := hF.2.1 (by rfl); obtain ⟨k, c, b, l, A, n, cap, e18, h18⟩ := hF.2.2.1 (by rfl); refine wp_put_blk hB [.int .i64 k, .int .i64 c, .bool b, .int .i64 l, .slice A n cap] (by kernel_rfl) rfl (by intro v hv; simp at hv; rcases hv with rfl | rfl | rfl | rfl | rfl <;> rfl) rfl hv e18 ?_; intro w5 hB5 hg5; exact hK _ (keepS _ (hS.1.trans (below_of_grown hg5 hS.1.size hg1))) ⟨S, k, c, b, l, A, n, cap, hv, hg1, hB5, (h18.put_short hB (by decide) hg5 (Nat.le_refl _)).up hg5.size⟩ (fun q ⟨cs, hl, hq⟩ => ⟨cs, hl, hq.grown hg5 (fun e => by injection e with e; subst e; exact absurd (blk_type hq hB) (by decide))⟩)))); (simp only [Act.put, List.setIfInBounds_toArray, List.set_cons_zero, List.set_cons_succ]))
  (refine gsettle_turn (v := undef) (by rfl) (fun _ => by rfl) ?_ ?_; (focus (intro ρ w hS hF hP hU K hK; (simp only [Act.put, List.setIfInBounds_toArray, List.set_cons_zero, List.set_cons_succ] at hK); (obtain ⟨S, k, c, b, l, A, n, cap, hv, hg1, hB, h18⟩ := hP (by rfl); obtain ⟨H, hv8, hg8, cs8, hl8, hB8⟩ := hU.2 8 (FH8 w1.heap.size) (by repeat (first | exact List.mem_cons_self | apply List.mem_cons_of_mem)) (by decide); refine wp_put_blk hB8 [.int .i64 a0, .int .i64 a1, .int .i64 a2, .int .i64 a3, .int .i64 a4, .int .i64 a5, .int .i64 a6, .int .i64 a7] (by rw [hl8]; kernel_rfl) (by rw [hl8]; rfl) (by intro v hv; simp at hv; rcases hv with rfl | rfl | rfl | rfl | rfl | rfl | rfl | rfl <;> rfl) rfl hv8 rfl ?_; intro w5 hB5 hg5; exact hK _ (keepS _ (hS.1.trans (below_of_grown hg5 hS.1.size hg8))) ⟨S, k, c, b, l, A, n, cap, hv, hg1, hB.grown hg5 (fun e => by injection e with e; subst e; exact absurd (blk_type hB hB8) (by decide)), (h18.put_short hB8 (by omega) hg5 (Nat.le_refl _)).up hg5.size⟩ (blk8_put rfl hB5 hg5)))); (simp only [Act.put, List.setIfInBounds_toArray, List.set_cons_zero, List.set_cons_succ]))
  refine gsettle_nil ?_
  intro ρ w6 hS hI hF hG
  obtain ⟨S, k, c, b, l, A, n, cap, e7, hSg, q06, ks6⟩ := hI
  have hb06 := hb0.trans (hS.1.mono hb0.size)
  clear hF hG keepS hS0 hS gP gUf
  dsimp only
  rw [e7]
  clear e7
  have hc : ∀ w', Below w6.heap.size w6 w' → (Below w6.heap.size w6 w' ∧ w'.cell? ⟨S, 0, none⟩ = some (.int .i64 k) ∧ w'.cell? ⟨S, 1, none⟩ = some (.int .i64 c) ∧ w'.cell? ⟨S, 2, none⟩ = some (.bool b) ∧ w'.cell? ⟨S, 3, none⟩ = some (.int .i64 l) ∧ w'.cell? ⟨S, 4, none⟩ = some (.slice A n cap)) := fun w' hb => ⟨hb, ((q06.below hb).cell 0).trans rfl, ((q06.below hb).cell 1).trans rfl, ((q06.below hb).cell 2).trans rfl, ((q06.below hb).cell 3).trans rfl, ((q06.below hb).cell 4).trans rfl⟩
  have hT : ∀ w', Below w6.heap.size w6 w' → TmR w'.heap.size w' (tcells k c b l A n cap) t := fun w' hb => (ks6.step_ hb).tm
  have HF := Lib.hid (And.intro hb06 hT)
  clear hSg hb0 q06 ks6 hb06
  rcases hE0 : (E != 0) with _ | _
  · have hS0 := hc _ (below_drew (Below.refl _ _))
    have f1 : ((t.span : Int) == (t.size : Int)) = true := by rw [HH.out.1.span]; simp
    have f2 : decide ((t.width : Int) ≤ 1) = true := decide_eq_true (by have := HH.out.1.width; omega)
    have hn : t.size ≤ 4194304 := by have := HH.out.2; omega
    have gS := fun w' (hb : Below w6.heap.size w6 w') => span_any w'.heap.size w' (tcells k c b l A n cap) t (hT w' hb) (Nat.le_refl _) hn
    have gW := fun w' (hb : Below w6.heap.size w6 w') => work_any w'.heap.size w' (tcells k c b l A n cap) t (hT w' hb) (Nat.le_refl _) hn
    have gD := fun w' (hb : Below w6.heap.size w6 w') => width_any w'.heap.size w' (tcells k c b l A n cap) t (hT w' hb) (Nat.le_refl _) hn
    unfold tcells at gS gW gD
    clear hT hn
    go_wp2_with fail
    refine wp_walk (by kernel_rfl) (by kernel_rfl) (fun w w' => Below w.heap.size w w') (fun w' => (Below w6.heap.size w6 w' ∧ w'.cell? ⟨S, 0, none⟩ = some (.int .i64 k) ∧ w'.cell? ⟨S, 1, none⟩ = some (.int .i64 c) ∧ w'.cell? ⟨S, 2, none⟩ = some (.bool b) ∧ w'.cell? ⟨S, 3, none⟩ = some (.int .i64 l) ∧ w'.cell? ⟨S, 4, none⟩ = some (.slice A n cap))) hS0 ?_
    repeat (first | (refine settle_skip (fun _ => by rfl) ?_; (simp only [Act.put, List.setIfInBounds_toArray, List.set_cons_zero, List.set_cons_succ])) | (refine' settle_run (fun _ _ => Below.refl _ _) (fun _ => by rfl) ?_ ?_; rotate_left; (focus (intro ρ w hS hF; (try dsimp only at hS); go_split_ands; go_simp; try with_reducible rfl)); (simp only [Act.put, List.setIfInBounds_toArray, List.set_cons_zero, List.set_cons_succ])))
    (refine' settle_step (fun _ => by rfl) ?_ ?_; rotate_left; (focus (intro ρ w hS hF K hK; (simp only [Act.put, List.setIfInBounds_toArray, List.set_cons_zero, List.set_cons_succ] at hK); go_simp; go_at_call 14; refine (gS _ hS.1).mono ?_; rintro e w' ⟨rfl, hb'⟩; have hS' := hc _ (below_next hb' hS.1); have hE' := hb'; exact hK _ hS' hE')); (simp only [Act.put, List.setIfInBounds_toArray, List.set_cons_zero, List.set_cons_succ]))
    repeat (first | (refine settle_skip (fun _ => by rfl) ?_; (simp only [Act.put, List.setIfInBounds_toArray, List.set_cons_zero, List.set_cons_succ])) | (refine' settle_run (fun _ _ => Below.refl _ _) (fun _ => by rfl) ?_ ?_; rotate_left; (focus (intro ρ w hS hF; (try dsimp only at hS); go_split_ands; go_simp; try with_reducible rfl)); (simp only [Act.put, List.setIfInBounds_toArray, List.set_cons_zero, List.set_cons_succ])))
    (refine' settle_step (fun _ => by rfl) ?_ ?_; rotate_left; (focus (intro ρ w hS hF K hK; (simp only [Act.put, List.setIfInBounds_toArray, List.set_cons_zero, List.set_cons_succ] at hK); go_simp; go_at_call 15; refine (gW _ hS.1).mono ?_; rintro e w' ⟨rfl, hb'⟩; have hS' := hc _ (below_next hb' hS.1); have hE' := hb'; exact hK _ hS' hE')); (simp only [Act.put, List.setIfInBounds_toArray, List.set_cons_zero, List.set_cons_succ]))
    repeat (first | (refine settle_skip (fun _ => by rfl) ?_; (simp only [Act.put, List.setIfInBounds_toArray, List.set_cons_zero, List.set_cons_succ])) | (refine' settle_run (fun _ _ => Below.refl _ _) (fun _ => by rfl) ?_ ?_; rotate_left; (focus (intro ρ w hS hF; (try dsimp only at hS); go_split_ands; go_simp; try with_reducible rfl)); (simp only [Act.put, List.setIfInBounds_toArray, List.set_cons_zero, List.set_cons_succ])))
    (refine' settle_step (fun _ => by rfl) ?_ ?_; rotate_left; (focus (intro ρ w hS hF K hK; (simp only [Act.put, List.setIfInBounds_toArray, List.set_cons_zero, List.set_cons_succ] at hK); go_simp; go_at_call 16; refine (gD _ hS.1).mono ?_; rintro e w' ⟨rfl, hb'⟩; have hS' := hc _ (below_next hb' hS.1); have hE' := hb'; exact hK _ hS' hE')); (simp only [Act.put, List.setIfInBounds_toArray, List.set_cons_zero, List.set_cons_succ]))
    repeat (first | (refine settle_skip (fun _ => by rfl) ?_; (simp only [Act.put, List.setIfInBounds_toArray, List.set_cons_zero, List.set_cons_succ])) | (refine' settle_run (fun _ _ => Below.refl _ _) (fun _ => by rfl) ?_ ?_; rotate_left; (focus (intro ρ w hS hF; (try dsimp only at hS); go_split_ands; go_simp; try with_reducible rfl)); (simp only [Act.put, List.setIfInBounds_toArray, List.set_cons_zero, List.set_cons_succ])))
    refine settle_nil ?_
    intro ρ w8 hS hF
    have hb8 := hS.1
    have HZ := Lib.hid (below_next hb8 HF.out.1)
    clear hS hF hS0 gS gW gD hc hb8
    dsimp only
    go_wp2_with fail
    go_ret
    exact ⟨rfl, HZ.out⟩
  · clear hc hT
    go_wp2_with fail
    go_quiet (fail)
    go_wp2_with fail
    go_ret
    exact ⟨rfl, below_drewN HF.out.1 _⟩
end Go.Proofs.Ytgaafgjhkkjalaa
