/-
  A yard in memory: its parts, who is where, their queues, what is done.
-/
import Derived.Test.YtajddbmmbhdnfaaDeq3
import Derived.Test.YtajddbmmbhdnfaaRow
import Derived.Test.YtajddbmmbhdnfaaStlLaws
import Derived.Test.YtajddbmmbhdnfaaBase2
namespace Go.Proofs.Ytajddbmmbhdnfaa
set_option linter.unusedVariables false
set_option linter.unusedSimpArgs false
set_option maxRecDepth 100000
open Go.RowKit

def partc (p : Stl.Part) : List Value := [.int .i64 (p.kind : Int), .int .i64 p.leaf, .int .i64 (p.left : Int), .int .i64 (p.right : Int), .int .i64 p.up, .bool p.onR, .bool p.done]
def partcs (l : List Stl.Part) : List Value := l.flatMap partc
theorem partcs_length (l : List Stl.Part) : (partcs l).length = l.length * 7 := flat_length partc 7 (fun _ => rfl) l
theorem partcs_append (a b : List Stl.Part) : partcs (a ++ b) = partcs a ++ partcs b := by simp [partcs]
theorem partcs_get (l : List Stl.Part) (i j : Nat) (p : Stl.Part) (h : l[i]? = some p) (hj : j < 7) : (partcs l)[i * 7 + j]? = (partc p)[j]? := flat_get partc 7 (fun _ => rfl) l i j p h hj
theorem partc_one (p : Stl.Part) : ∀ u ∈ partc p, u.oneCell' = true := by
  intro u hu
  simp only [partc, List.mem_cons, List.not_mem_nil, or_false] at hu
  rcases hu with rfl | rfl | rfl | rfl | rfl | rfl | rfl <;> rfl
theorem partcs_ext {l l' : List Stl.Part} {cs : List Value} (hl : l'.length = l.length) (hc : cs.length = l.length * 7) (h : ∀ i p j, l'[i]? = some p → j < 7 → cs[i * 7 + j]? = (partc p)[j]?) : cs = partcs l' := by
  apply List.ext_getElem?
  intro k
  by_cases hk : k < l.length * 7
  · have h1 : k / 7 < l'.length := by omega
    obtain ⟨p, hp⟩ : ∃ p, l'[k / 7]? = some p := ⟨_, List.getElem?_eq_getElem h1⟩
    have e := h (k / 7) p (k % 7) hp (by omega)
    have e' := partcs_get l' (k / 7) (k % 7) p hp (by omega)
    rw [show k / 7 * 7 + k % 7 = k by omega] at e e'
    rw [e, e']
  · rw [List.getElem?_eq_none (by omega), List.getElem?_eq_none (by rw [partcs_length]; omega)]
/-- a part's mark is set -/
theorem partcs_mark (l : List Stl.Part) (n : Nat) (p : Stl.Part) (hp : l[n]? = some p) : (partcs l).set (n * 7 + 6) (.bool true) = partcs (Stl.mark l n) := by
  have hm : Stl.mark l n = l.set n { p with done := true } := by unfold Stl.mark; rw [hp]
  have hn := (List.getElem?_eq_some_iff.1 hp).1
  refine partcs_ext (l := l) (by rw [hm, List.length_set]) (by rw [List.length_set, partcs_length]) fun i q j hq hj => ?_
  rw [hm, List.getElem?_set] at hq
  rw [List.getElem?_set]
  by_cases e : n = i
  · subst e
    rw [if_pos rfl, if_pos hn] at hq
    cases hq
    by_cases ej : j = 6
    · subst ej
      rw [if_pos rfl, if_pos (by rw [partcs_length]; omega)]
      rfl
    · rw [if_neg (by omega), partcs_get _ _ _ _ hp hj]
      match j, hj, ej with
      | 0, _, _ => rfl
      | 1, _, _ => rfl
      | 2, _, _ => rfl
      | 3, _, _ => rfl
      | 4, _, _ => rfl
      | 5, _, _ => rfl
      | 6, _, e => exact absurd rfl e
      | j + 7, hj, _ => omega
  · rw [if_neg e] at hq
    rw [if_neg (by omega), partcs_get _ _ _ _ hq hj]
/-- a part is laid in another one's place -/
theorem partcs_put (l : List Stl.Part) (n : Nat) (p : Stl.Part) (hn : n < l.length) : (partcs l).take (n * 7) ++ partc p ++ (partcs l).drop (n * 7 + 7) = partcs (l.set n p) := by
  have hl := partcs_length l
  refine partcs_ext (l := l) (by rw [List.length_set]) (by simp [hl, partc]; omega) fun i q j hq hj => ?_
  rw [part_get _ _ _ 7 (by omega) rfl]
  rw [List.getElem?_set] at hq
  by_cases e : n = i
  · subst e
    rw [if_pos rfl, if_pos hn] at hq
    cases hq
    rw [if_neg (by omega), if_pos (by omega), show n * 7 + j - n * 7 = j by omega]
  · rw [if_neg e] at hq
    by_cases h1 : i < n
    · rw [if_pos (by omega), partcs_get _ _ _ _ hq hj]
    · rw [if_neg (by omega), if_neg (by omega), partcs_get _ _ _ _ hq hj]

def donec (x : Nat × Int) : List Value := [.int .i64 (x.1 : Int), .int .i64 x.2]
def donecs (l : List (Nat × Int)) : List Value := l.flatMap donec
theorem donecs_length (l : List (Nat × Int)) : (donecs l).length = l.length * 2 := flat_length donec 2 (fun _ => rfl) l
theorem donecs_append (a b : List (Nat × Int)) : donecs (a ++ b) = donecs a ++ donecs b := by simp [donecs]
theorem donecs_get (l : List (Nat × Int)) (i : Nat) (p : Nat × Int) (h : l[i]? = some p) : (donecs l)[i * 2]? = some (.int .i64 (p.1 : Int)) ∧ (donecs l)[i * 2 + 1]? = some (.int .i64 p.2) :=
  ⟨flat_get donec 2 (fun _ => rfl) l i 0 p h (by omega), flat_get donec 2 (fun _ => rfl) l i 1 p h (by omega)⟩
theorem donec_one (x : Nat × Int) : ∀ u ∈ donec x, u.oneCell' = true := by
  intro u hu
  simp only [donec, List.mem_cons, List.not_mem_nil, or_false] at hu
  rcases hu with rfl | rfl <;> rfl

theorem info_part : (Try.prog.info? 100).map (fun i => (i.zero, i.size, i.bytes)) = some (some (.agg #[.int .i64 0, .int .i64 0, .int .i64 0, .int .i64 0, .int .i64 0, .bool false, .bool false]), 7, 48) := by kernel_rfl
theorem info_done : (Try.prog.info? 38).map (fun i => (i.zero, i.size, i.bytes)) = some (some (.agg #[.int .i64 0, .int .i64 0]), 2, 16) := by kernel_rfl
theorem info_pdq : (Try.prog.info? 75).map (fun i => (i.zero, i.size, i.bytes)) = some (some (.pointer none), 1, 8) := by kernel_rfl

def ptrs (gs : List Nat) : List Value := gs.map fun g => .pointer (some ⟨g, 0, none⟩)
theorem ptrs_get (gs : List Nat) (i g : Nat) (h : gs[i]? = some g) : (ptrs gs)[i]? = some (.pointer (some ⟨g, 0, none⟩)) := by simp [ptrs, h]

/-- a yard in block yb -/
structure YA (w : World) (yb base : Nat) (y : Stl.Y) (lv : Nat) (P A Q D : Value) (gs : List Nat) (rs : List (Option Nat)) : Prop where
  blk : Blk w yb 74 [P, .int .i64 (lv : Int), A, Q, D]
  above : base ≤ yb
  parts : w.ownsRow base 100 7 P y.ps.length (partcs y.ps)
  ats : w.ownsRow base 3 1 A y.at_.length (ints .i64 y.at_)
  qus : w.ownsRow base 75 1 Q gs.length (ptrs gs)
  log : w.ownsRow base 38 2 D y.log.length (donecs y.log)
  len1 : gs.length = y.qs.length
  len2 : rs.length = y.qs.length
  len3 : y.at_.length = y.qs.length
  dq : ∀ (i g : Nat) (r : Option Nat) (l : List Nat), gs[i]? = some g → rs[i]? = some r → y.qs[i]? = some l → DqRep w g (l.map fun (k : Nat) => (k : Int)) r ∧ base ≤ g
  gnd : gs.Nodup
  apart : ∀ (i j b : Nat), i ≠ j → rs[i]? = some (some b) → rs[j]? ≠ some (some b)
  off : ∀ (i b : Nat), rs[i]? = some (some b) → A.ownBlock ≠ some b

/-- blocks of unlike types are unlike -/
theorem Blk.type_ne {w : World} {g h : Nat} {t u : TypeId} {cs ds : List Value} (hg : Blk w g t cs) (hh : Blk w h u ds) (hne : t ≠ u) : g ≠ h := by
  rintro rfl
  unfold Blk at hg hh
  rw [hg] at hh
  injection hh with hh
  injection hh with _ ht
  exact hne ht
theorem DqRep.keeps {w w' : World} {g : Nat} {l : List Int} {r : Option Nat} {S : Nat → Prop} (h : DqRep w g l r) (k : Keeps S w w') (hg : ¬ S g) (hr : ∀ b, r = some b → ¬ S b) : DqRep w' g l r := by
  obtain ⟨ring, top, A, c, h, rfl⟩ := h
  exact ⟨ring, top, A, c, ⟨h.blk.keeps k hg, own_keeps h.own k (fun b hb => hr b hb), h.rng, h.small, h.small'⟩, rfl⟩
theorem DqRep.blk {w : World} {g : Nat} {l : List Int} {r : Option Nat} (h : DqRep w g l r) : ∃ cs, Blk w g 77 cs := by
  obtain ⟨ring, top, A, c, h, rfl⟩ := h
  exact ⟨_, h.blk⟩
theorem DqRep.row {w : World} {g : Nat} {l : List Int} {r : Option Nat} (h : DqRep w g l r) : ∃ v n xs, w.ownsRow (g + 1) 3 1 v n xs ∧ v.ownBlock = r := by
  obtain ⟨ring, top, A, c, h, rfl⟩ := h
  exact ⟨_, _, _, h.own, rfl⟩
theorem DqRep.lt {w : World} {g : Nat} {l : List Int} {r : Option Nat} (h : DqRep w g l r) : g < w.heap.size ∧ ∀ b, r = some b → g < b ∧ b < w.heap.size := by
  obtain ⟨ring, top, A, c, h, rfl⟩ := h
  exact ⟨h.blk.lt, fun b hb => h.own.lt b hb⟩

section
variable {w w' : World} {yb base lv : Nat} {y : Stl.Y} {P A Q D : Value} {gs : List Nat} {rs : List (Option Nat)}
theorem YA.at_dq (h : YA w yb base y lv P A Q D gs rs) {i : Nat} {l : List Nat} (hl : y.qs[i]? = some l) : ∃ g r, gs[i]? = some g ∧ rs[i]? = some r ∧ DqRep w g (l.map fun (k : Nat) => (k : Int)) r ∧ base ≤ g := by
  have hi := (List.getElem?_eq_some_iff.1 hl).1
  have h1 := h.len1
  have h2 := h.len2
  exact ⟨gs[i], rs[i], List.getElem?_eq_getElem (by omega), List.getElem?_eq_getElem (by omega), h.dq i _ _ l (List.getElem?_eq_getElem (by omega)) (List.getElem?_eq_getElem (by omega)) hl⟩
theorem YA.of_g (h : YA w yb base y lv P A Q D gs rs) {i g : Nat} (hg : gs[i]? = some g) : ∃ r l, rs[i]? = some r ∧ y.qs[i]? = some l ∧ DqRep w g (l.map fun (k : Nat) => (k : Int)) r ∧ base ≤ g := by
  have hi := (List.getElem?_eq_some_iff.1 hg).1
  have h1 := h.len1
  have h2 := h.len2
  exact ⟨rs[i], y.qs[i], List.getElem?_eq_getElem (by omega), List.getElem?_eq_getElem (by omega), h.dq i g _ _ hg (List.getElem?_eq_getElem (by omega)) (List.getElem?_eq_getElem (by omega))⟩
theorem YA.of_r (h : YA w yb base y lv P A Q D gs rs) {i b : Nat} (hb : rs[i]? = some (some b)) : ∃ g l, gs[i]? = some g ∧ y.qs[i]? = some l ∧ DqRep w g (l.map fun (k : Nat) => (k : Int)) (some b) := by
  have hi := (List.getElem?_eq_some_iff.1 hb).1
  have h1 := h.len1
  have h2 := h.len2
  exact ⟨gs[i], y.qs[i], List.getElem?_eq_getElem (by omega), List.getElem?_eq_getElem (by omega), (h.dq i _ _ _ (List.getElem?_eq_getElem (by omega)) hb (List.getElem?_eq_getElem (by omega))).1⟩
/-- what a ring's block is not -/
theorem YA.ring_ne (h : YA w yb base y lv P A Q D gs rs) {i b : Nat} (hb : rs[i]? = some (some b)) : yb ≠ b ∧ P.ownBlock ≠ some b ∧ Q.ownBlock ≠ some b ∧ D.ownBlock ≠ some b ∧ b ∉ gs := by
  obtain ⟨g, l, -, -, hd⟩ := h.of_r hb
  obtain ⟨v, n, xs, hr, hv⟩ := hd.row
  refine ⟨fun e => own_blk_ne hr h.blk (by decide) (e ▸ hv), fun e => own_own_ne h.parts hr (by decide) e hv, fun e => own_own_ne h.qus hr (by decide) e hv, fun e => own_own_ne h.log hr (by decide) e hv, fun hm => ?_⟩
  obtain ⟨j, hj⟩ := List.getElem?_of_mem hm
  obtain ⟨_, _, -, -, hd', -⟩ := h.of_g hj
  obtain ⟨cs, hc⟩ := hd'.blk
  exact own_blk_ne hr hc (by decide) hv
/-- what a deque's block is not -/
theorem YA.dq_ne (h : YA w yb base y lv P A Q D gs rs) {i g : Nat} (hg : gs[i]? = some g) : yb ≠ g ∧ P.ownBlock ≠ some g ∧ A.ownBlock ≠ some g ∧ Q.ownBlock ≠ some g ∧ D.ownBlock ≠ some g := by
  obtain ⟨_, _, -, -, hd, -⟩ := h.of_g hg
  obtain ⟨cs, hc⟩ := hd.blk
  exact ⟨fun e => Blk.type_ne h.blk hc (by decide) e, own_blk_ne h.parts hc (by decide), own_blk_ne h.ats hc (by decide), own_blk_ne h.qus hc (by decide), own_blk_ne h.log hc (by decide)⟩
theorem YA.keeps {S : Nat → Prop} (h : YA w yb base y lv P A Q D gs rs) (k : Keeps S w w') (h1 : ¬ S yb) (h2 : ∀ b, P.ownBlock = some b → ¬ S b) (h3 : ∀ b, A.ownBlock = some b → ¬ S b) (h4 : ∀ b, Q.ownBlock = some b → ¬ S b) (h5 : ∀ b, D.ownBlock = some b → ¬ S b) (h6 : ∀ (i g : Nat), gs[i]? = some g → ¬ S g) (h7 : ∀ (i b : Nat), rs[i]? = some (some b) → ¬ S b) : YA w' yb base y lv P A Q D gs rs :=
  ⟨h.blk.keeps k h1, h.above, own_keeps h.parts k h2, own_keeps h.ats k h3, own_keeps h.qus k h4, own_keeps h.log k h5, h.len1, h.len2, h.len3, fun i g r l a b c => ⟨(h.dq i g r l a b c).1.keeps k (h6 i g a) (fun b' e => h7 i b' (by rw [b, e])), (h.dq i g r l a b c).2⟩, h.gnd, h.apart, h.off⟩
theorem YA.below (h : YA w yb base y lv P A Q D gs rs) (k : Below w.heap.size w w') : YA w' yb base y lv P A Q D gs rs :=
  h.keeps (S := fun _ => False) (Keeps.of_below k _) (fun h => h) (fun _ _ h => h) (fun _ _ h => h) (fun _ _ h => h) (fun _ _ h => h) (fun _ _ _ h => h) (fun _ _ _ h => h)
theorem YA.lt (h : YA w yb base y lv P A Q D gs rs) : yb < w.heap.size := h.blk.lt
theorem YA.base_le (h : YA w yb base y lv P A Q D gs rs) : base ≤ w.heap.size := Nat.le_trans h.above (Nat.le_of_lt h.lt)

/-- something is done to a deque -/
theorem YA.deque (h : YA w yb base y lv P A Q D gs rs) {i g : Nat} {r r' : Option Nat} {l : List Nat} (hg : gs[i]? = some g) (hr : rs[i]? = some r) (k : Keeps (fun k => k = g ∨ some k = r) w w') (hd : DqRep w' g (l.map fun (k : Nat) => (k : Int)) r') (hr' : r' = r ∨ r' = some w.heap.size) : YA w' yb base { y with qs := y.qs.set i l } lv P A Q D gs (rs.set i r') := by
  have hi : i < rs.length := (List.getElem?_eq_some_iff.1 hr).1
  obtain ⟨n1, n2, n3, n4, n5⟩ := h.dq_ne hg
  have hrn : ∀ b, r = some b → yb ≠ b ∧ P.ownBlock ≠ some b ∧ Q.ownBlock ≠ some b ∧ D.ownBlock ≠ some b ∧ b ∉ gs := fun b e => h.ring_ne (by rw [hr, e])
  have hS : ∀ b : Nat, (b = g ∨ some b = r) → b ≠ yb ∧ P.ownBlock ≠ some b ∧ A.ownBlock ≠ some b ∧ Q.ownBlock ≠ some b ∧ D.ownBlock ≠ some b := fun b hb => by
    rcases hb with rfl | hb
    · exact ⟨fun e => n1 e.symm, n2, n3, n4, n5⟩
    · obtain ⟨a1, a2, a3, a4, a5⟩ := hrn b hb.symm
      exact ⟨fun e => a1 e.symm, a2, h.off i b (by rw [hr, hb]), a3, a4⟩
  have hold : ∀ b : Nat, r' = some b → r = some b ∨ b = w.heap.size := fun b e => by
    rcases hr' with e' | e'
    · exact .inl (by rw [← e', e])
    · rw [e'] at e; injection e with e; exact .inr e.symm
  have hset : ∀ j x, (rs.set i r')[j]? = some x → (j = i ∧ x = r') ∨ (j ≠ i ∧ rs[j]? = some x) := fun j x hx => by
    rw [List.getElem?_set] at hx
    by_cases e : i = j
    · subst e; rw [if_pos rfl, if_pos hi] at hx; cases hx; exact .inl ⟨rfl, rfl⟩
    · rw [if_neg e] at hx; exact .inr ⟨fun e' => e e'.symm, hx⟩
  have hrlt : ∀ (j b : Nat), rs[j]? = some (some b) → b < w.heap.size := fun j b hb => by
    obtain ⟨_, _, -, -, hd⟩ := h.of_r hb
    exact (hd.lt.2 b rfl).2
  refine ⟨h.blk.keeps k (fun e => (hS _ e).1 rfl), h.above, own_keeps h.parts k (fun b e hb => (hS b hb).2.1 e), own_keeps h.ats k (fun b e hb => (hS b hb).2.2.1 e), own_keeps h.qus k (fun b e hb => (hS b hb).2.2.2.1 e), own_keeps h.log k (fun b e hb => (hS b hb).2.2.2.2 e), by simpa using h.len1, by simpa using h.len2, by simpa using h.len3, ?_, h.gnd, ?_, ?_⟩
  · intro j g' x l' hg' hx hl'
    rcases hset j x hx with ⟨rfl, rfl⟩ | ⟨hne, hx⟩
    · rw [hg] at hg'; cases hg'
      have hiq : j < y.qs.length := by have := h.len2; omega
      rw [List.getElem?_set, if_pos rfl, if_pos hiq] at hl'
      cases hl'
      obtain ⟨_, _, -, -, -, hb⟩ := h.of_g hg
      exact ⟨hd, hb⟩
    · rw [List.getElem?_set, if_neg (fun e => hne e.symm)] at hl'
      obtain ⟨d1, d2⟩ := h.dq j g' x l' hg' hx hl'
      refine ⟨d1.keeps k (fun hs => ?_) (fun b e hs => ?_), d2⟩
      · rcases hs with e | e
        · subst e
          exact hne ((List.getElem?_inj (List.getElem?_eq_some_iff.1 hg').1 h.gnd).1 (hg'.trans hg.symm))
        · exact (hrn g' e.symm).2.2.2.2 (List.mem_of_getElem? hg')
      · subst e
        rcases hs with e | e
        · subst e
          exact (h.ring_ne hx).2.2.2.2 (List.mem_of_getElem? hg)
        · exact h.apart i j b (fun e' => hne e'.symm) (by rw [hr, e]) hx
  · intro j j' b hne hb hb'
    rcases hset j _ hb with ⟨rfl, e⟩ | ⟨hn, hx⟩ <;> rcases hset j' _ hb' with ⟨rfl, e'⟩ | ⟨hn', hx'⟩
    · exact hne rfl
    · rcases hold b e.symm with h1 | h1
      · exact h.apart j j' b hne (by rw [hr, h1]) hx'
      · have := hrlt j' b hx'; omega
    · rcases hold b e'.symm with h1 | h1
      · exact h.apart j' j b hn.symm (by rw [hr, h1]) hx
      · have := hrlt j b hx; omega
    · exact h.apart j j' b hne hx hx'
  · intro j b hb
    rcases hset j _ hb with ⟨rfl, e⟩ | ⟨hn, hx⟩
    · rcases hold b e.symm with h1 | h1
      · exact h.off j b (by rw [hr, h1])
      · intro e'
        have := (h.ats.lt b e').2
        omega
    · exact h.off j b hx

/-- parts are turned in their place -/
theorem YA.turned (h : YA w yb base y lv P A Q D gs rs) {pg : Nat} (hP : P.ownBlock = some pg) {ps : List Stl.Part} (hl : ps.length = y.ps.length) (ho : w'.ownsRow base 100 7 P y.ps.length (partcs ps)) (hg : w.grownBy w' (some pg)) : YA w' yb base { y with ps := ps } lv P A Q D gs rs := by
  have k : Keeps (fun k => some k = some pg) w w' := Keeps.of_grown hg
  refine ⟨h.blk.keeps k (fun e => own_blk_ne h.parts h.blk (by decide) (by rw [hP]; exact e.symm)), h.above, by rw [hl]; exact ho, own_keeps h.ats k (fun b e hb => own_own_ne h.parts h.ats (by decide) hP (by rw [e]; exact hb)), own_keeps h.qus k (fun b e hb => own_own_ne h.parts h.qus (by decide) hP (by rw [e]; exact hb)), own_keeps h.log k (fun b e hb => own_own_ne h.parts h.log (by decide) hP (by rw [e]; exact hb)), h.len1, h.len2, h.len3, fun i g r l a b c => ⟨(h.dq i g r l a b c).1.keeps k (fun e => (h.dq_ne a).2.1 (by rw [hP]; exact e.symm)) (fun b' e hb' => ?_), (h.dq i g r l a b c).2⟩, h.gnd, h.apart, h.off⟩
  exact (h.ring_ne (i := i) (b := b') (by rw [b, e])).2.1 (by rw [hP]; exact hb'.symm)
/-- a worker goes on -/
theorem YA.moved (h : YA w yb base y lv P A Q D gs rs) {ag : Nat} (hA : A.ownBlock = some ag) {xs : List Int} (hl : xs.length = y.at_.length) (ho : w'.ownsRow base 3 1 A y.at_.length (ints .i64 xs)) (hg : w.grownBy w' (some ag)) : YA w' yb base { y with at_ := xs } lv P A Q D gs rs := by
  have k : Keeps (fun k => some k = some ag) w w' := Keeps.of_grown hg
  refine ⟨h.blk.keeps k (fun e => own_blk_ne h.ats h.blk (by decide) (by rw [hA]; exact e.symm)), h.above, own_keeps h.parts k (fun b e hb => own_own_ne h.ats h.parts (by decide) hA (by rw [e]; exact hb)), by rw [hl]; exact ho, own_keeps h.qus k (fun b e hb => own_own_ne h.ats h.qus (by decide) hA (by rw [e]; exact hb)), own_keeps h.log k (fun b e hb => own_own_ne h.ats h.log (by decide) hA (by rw [e]; exact hb)), h.len1, h.len2, by rw [← h.len3]; exact hl, fun i g r l a b c => ⟨(h.dq i g r l a b c).1.keeps k (fun e => (h.dq_ne a).2.2.1 (by rw [hA]; exact e.symm)) (fun b' e hb' => ?_), (h.dq i g r l a b c).2⟩, h.gnd, h.apart, h.off⟩
  exact h.off i b' (by rw [b, e]) (by rw [hA]; exact hb'.symm)
/-- something more is done -/
theorem YA.logged {w'' : World} {D' : Value} {x : Nat × Int} (h : YA w yb base y lv P A Q D gs rs) (ho : w'.ownsRow base 38 2 D' (y.log.length + 1) (donecs y.log ++ donec x)) (hg : w.grownBy w' D.ownBlock) (hB : Blk w'' yb 74 [P, .int .i64 (lv : Int), A, Q, D']) (hg2 : w'.grownBy w'' (some yb)) : YA w'' yb base { y with log := y.log ++ [x] } lv P A Q D' gs rs := by
  have hyD : D.ownBlock ≠ some yb := own_blk_ne h.log h.blk (by decide)
  have hB' : Blk w' yb 74 [P, .int .i64 (lv : Int), A, Q, D] := h.blk.grown hg (fun e => hyD e.symm)
  have k : Keeps (fun k => D.ownBlock = some k ∨ k = yb) w w'' := ((Keeps.of_grown hg).mono fun i e => .inl e.symm).trans ((Keeps.of_grown hg2).mono fun i e => .inr (by injection e))
  have hne : ∀ {e : TypeId} {size n : Nat} {v : Value} {xs : List Value}, w.ownsRow base e size v n xs → e ≠ 38 → e ≠ 74 → ∀ b, v.ownBlock = some b → ¬ (D.ownBlock = some b ∨ b = yb) := fun hr h1 h2 b e hs => by
    rcases hs with hs | hs
    · exact own_own_ne hr h.log h1 e hs
    · exact own_blk_ne hr h.blk h2 (by rw [e, hs])
  refine ⟨hB, h.above, own_keeps h.parts k (hne h.parts (by decide) (by decide)), own_keeps h.ats k (hne h.ats (by decide) (by decide)), own_keeps h.qus k (hne h.qus (by decide) (by decide)), ?_, h.len1, h.len2, h.len3, fun i g r l a b c => ⟨(h.dq i g r l a b c).1.keeps k (fun e => ?_) (fun b' e hb' => ?_), (h.dq i g r l a b c).2⟩, h.gnd, h.apart, h.off⟩
  · have := own_keeps ho (Keeps.of_grown hg2) (fun b e e' => own_blk_ne ho hB' (by decide) (by rw [e, e']))
    simpa [donecs] using this
  · rcases e with e | e
    · exact (h.dq_ne a).2.2.2.2 e
    · exact (h.dq_ne a).1 e.symm
  · have hn := h.ring_ne (i := i) (b := b') (by rw [b, e])
    rcases hb' with e' | e'
    · exact hn.2.2.2.1 e'
    · exact hn.1 e'.symm
end
end Go.Proofs.Ytajddbmmbhdnfaa
