/-
  What may be done at once, in plain Lean. No program of the machine is named here.
-/
import Derived.Test.YtajddbmmbhdnfaaStLaw
namespace Go.Proofs.Ytajddbmmbhdnfaa.St
set_option linter.unusedVariables false
set_option linter.unusedSimpArgs false
set_option maxRecDepth 100000
open Ex

/-- how many labels a statement has, its lists of statements having so many -/
def lab1 (k : Int) (b e : Nat) : Nat := if k = 2 ∨ k = 3 then 1 else if k = 4 ∨ k = 5 ∨ k = 7 then b else if k = 6 then b + e else 0
def labels : P → Nat
  | .nil => 0
  | .cons k _ _ _ body els r => lab1 k (labels body) (labels els) + labels r
theorem lab1_le (k : Int) (b e : Nat) : lab1 k b e ≤ 1 + b + e := by
  unfold lab1
  split
  · omega
  · split
    · omega
    · split <;> omega
theorem labels_le : ∀ p : P, labels p ≤ p.size
  | .nil => Nat.le_refl _
  | .cons k _ a b body els r => by
    have h1 := labels_le body
    have h2 := labels_le els
    have h3 := labels_le r
    have h4 := lab1_le k (labels body) (labels els)
    unfold labels P.size
    omega
theorem labels_append : ∀ p q : P, labels (p ++ q) = labels p + labels q
  | .nil, q => by rw [P.nil_append]; simp [labels]
  | .cons k n a b body els r, q => by rw [P.cons_append, labels, labels, labels_append r]; omega

/-- i, j: of one of both -/
def mixed (A B : Nat → Prop) (i j : Nat) : Prop := ∃ x y, A x ∧ B y ∧ i = min x y ∧ j = max x y
def span (l n : Nat) (x : Nat) : Prop := l ≤ x ∧ x < l + n
def none_ (_ : Nat) : Prop := False
def both (A B : Nat → Prop) (x : Nat) : Prop := A x ∨ B x

/-- what a statement leaves to be done, its lists leaving so much -/
def news1 (k : Int) (l n : Nat) (B E : Nat → Prop) (x : Nat) : Prop := (k = 4 ∧ span l n x) ∨ (k = 6 ∧ (B x ∨ E x)) ∨ (k = 7 ∧ B x)
def news : Nat → P → Nat → Prop
  | _, .nil => none_
  | l, .cons k _ _ _ body els r => both (news1 k l (lab1 k (labels body) (labels els)) (news l body) (news (l + labels body) els)) (news (l + lab1 k (labels body) (labels els)) r)
/-- what is done at once within a statement -/
def in1 (k : Int) (l n : Nat) (A : Nat → Prop) (B E : Nat → Nat → Prop) (i j : Nat) : Prop :=
  ((k = 4 ∨ k = 5) ∧ B i j) ∨ (k = 6 ∧ (B i j ∨ E i j)) ∨ (k = 7 ∧ (B i j ∨ mixed A (span l n) i j))
def noted : Nat → (Nat → Prop) → P → Nat → Nat → Prop
  | _, _, .nil, _, _ => False
  | l, O, .cons k _ _ _ body els r, i, j =>
    mixed O (span l (lab1 k (labels body) (labels els))) i j ∨
    in1 k l (lab1 k (labels body) (labels els)) (news l body) (noted l none_ body) (noted (l + labels body) none_ els) i j ∨
    noted (l + lab1 k (labels body) (labels els)) (both O (news1 k l (lab1 k (labels body) (labels els)) (news l body) (news (l + labels body) els))) r i j

/-! ### they lie where they ought -/
theorem news_span : ∀ (p : P) (l x : Nat), news l p x → span l (labels p) x
  | .nil, _, _, h => h.elim
  | .cons k _ _ _ body els r, l, x, h => by
    unfold labels
    rcases h with h | h
    · rcases h with ⟨hk, h⟩ | ⟨hk, h | h⟩ | ⟨hk, h⟩
      · unfold span at h ⊢; omega
      · have := news_span body l x h
        subst hk
        simp only [lab1, span] at this ⊢
        simp
        omega
      · have := news_span els _ x h
        subst hk
        simp only [lab1, span] at this ⊢
        simp
        omega
      · have := news_span body l x h
        subst hk
        simp only [lab1, span] at this ⊢
        simp
        omega
    · have := news_span r _ x h
      unfold span at this ⊢
      omega

theorem mixed_lt {A B : Nat → Prop} {n i j : Nat} (hA : ∀ x, A x → x < n) (hB : ∀ x, B x → x < n) (h : mixed A B i j) : i < n ∧ j < n := by
  obtain ⟨x, y, hx, hy, rfl, rfl⟩ := h
  have := hA x hx
  have := hB y hy
  omega

/-! ### laws -/
theorem mixed_none (B : Nat → Prop) (i j : Nat) : ¬ mixed none_ B i j := fun ⟨_, _, h, _⟩ => h
theorem mixed_mono {A A' B : Nat → Prop} (h : ∀ x, A x → A' x) {i j : Nat} (hm : mixed A B i j) : mixed A' B i j := by
  obtain ⟨x, y, hx, hy, e⟩ := hm
  exact ⟨x, y, h x hx, hy, e⟩
theorem noted_mono : ∀ (p : P) (l : Nat) (O O' : Nat → Prop) (_ : ∀ x, O x → O' x) (i j : Nat), noted l O p i j → noted l O' p i j
  | .nil, _, _, _, _, _, _, h => h
  | .cons k _ _ _ body els r, l, O, O', hO, i, j, h => by
    rcases h with h | h | h
    · exact .inl (mixed_mono hO h)
    · exact .inr (.inl h)
    · exact .inr (.inr (noted_mono r _ _ _ (fun x hx => hx.imp (hO x) id) i j h))

theorem both_assoc (A B C : Nat → Prop) (x : Nat) : both (both A B) C x ↔ both A (both B C) x := by unfold both; exact or_assoc
theorem noted_iff (p : P) (l : Nat) {O O' : Nat → Prop} (h : ∀ x, O x ↔ O' x) (i j : Nat) : noted l O p i j ↔ noted l O' p i j :=
  ⟨noted_mono p l O O' (fun x => (h x).1) i j, noted_mono p l O' O (fun x => (h x).2) i j⟩
theorem both_none (A : Nat → Prop) (x : Nat) : both A none_ x ↔ A x := by unfold both none_; simp
theorem none_both (A : Nat → Prop) (x : Nat) : both none_ A x ↔ A x := by unfold both none_; simp

theorem noted_append : ∀ (p q : P) (l : Nat) (O : Nat → Prop) (i j : Nat), noted l O (p ++ q) i j ↔ noted l O p i j ∨ noted (l + labels p) (both O (news l p)) q i j
  | .nil, q, l, O, i, j => by
    rw [P.nil_append]
    simp only [noted, false_or, labels, Nat.add_zero]
    exact noted_iff q l (fun x => (both_none O x).symm) i j
  | .cons k n a b body els r, q, l, O, i, j => by
    rw [P.cons_append]
    simp only [noted]
    rw [noted_append r q]
    rw [or_assoc, or_assoc]
    refine or_congr Iff.rfl (or_congr Iff.rfl (or_congr Iff.rfl ?_))
    rw [labels, ← Nat.add_assoc]
    exact noted_iff q _ (fun x => both_assoc _ _ _ x) i j
theorem news_append : ∀ (p q : P) (l x : Nat), news l (p ++ q) x ↔ news l p x ∨ news (l + labels p) q x
  | .nil, q, l, x => by
    rw [P.nil_append]
    simp [news, none_, labels]
  | .cons k n a b body els r, q, l, x => by
    rw [P.cons_append]
    simp only [news, both]
    rw [news_append r q, labels, ← Nat.add_assoc, or_assoc]

/-- all that is open is at once with all that comes -/
theorem mixed_noted : ∀ (p : P) (l : Nat) (O : Nat → Prop) (i j : Nat), mixed O (span l (labels p)) i j → noted l O p i j
  | .nil, l, O, i, j, h => by
    obtain ⟨x, y, _, hy, _⟩ := h
    unfold span labels at hy
    omega
  | .cons k n a b body els r, l, O, i, j, h => by
    obtain ⟨x, y, hx, hy, hi, hj⟩ := h
    by_cases hlt : y < l + lab1 k (labels body) (labels els)
    · exact .inl ⟨x, y, hx, ⟨hy.1, hlt⟩, hi, hj⟩
    · refine .inr (.inr (mixed_noted r _ _ i j ⟨x, y, .inl hx, ?_, hi, hj⟩))
      unfold span labels at hy
      unfold span
      omega

/-- one statement -/
def fin (b : P) : P := .cons 5 [] .bad .bad b .nil .nil
theorem labels_cons5 (n : Bs) (x y : X) (b e : P) : labels (.cons 5 n x y b e .nil) = labels b := by simp [labels, lab1]
theorem noted_fin (n : Bs) (x y : X) (b e : P) (l : Nat) (O : Nat → Prop) (i j : Nat) : noted l O (.cons 5 n x y b e .nil) i j ↔ mixed O (span l (labels b)) i j ∨ noted l none_ b i j := by
  simp [noted, in1, lab1]
theorem news_fin (n : Bs) (x y : X) (b e : P) (l z : Nat) : ¬ news l (.cons 5 n x y b e .nil) z := by
  simp [news, both, news1, none_]

theorem more (a b c : P) (n : Bs) (x y : X) (e : P) (i j : Nat) (h : noted 0 none_ (a ++ (.cons 5 n x y b e .nil ++ c)) i j) : noted 0 none_ (a ++ (b ++ c)) i j := by
  rw [noted_append] at h ⊢
  refine h.imp id fun h => ?_
  rw [noted_append] at h ⊢
  rcases h with h | h
  · rw [noted_fin] at h
    rcases h with h | h
    · exact .inl (mixed_noted _ _ _ _ _ h)
    · exact .inl (noted_mono _ _ _ _ (fun x hx => hx.elim) _ _ h)
  · rw [labels_cons5] at h
    refine .inr (noted_mono _ _ _ _ (fun x hx => hx.imp id fun hx => ?_) _ _ h)
    exact (news_fin _ _ _ _ _ _ _ hx).elim

/-- a round of the program's loop over statements -/
theorem round {k : Int} {nm : Bs} {a b : X} {body els rest p : P} {l l' m : Nat} {O O' O5 : Nat → Prop} {R R' R5 : Nat → Nat → Prop} (hm : m = lab1 k (labels body) (labels els))
    (h2 : ∀ x, O' x → x < l') (h3 : l' + labels (.cons k nm a b body els rest) = l + labels p) (h4 : ∀ x, both O' (news l' (.cons k nm a b body els rest)) x ↔ both O (news l p) x)
    (h5 : ∀ i j, (R' i j ∨ noted l' O' (.cons k nm a b body els rest) i j) ↔ (R i j ∨ noted l O p i j))
    (hO : ∀ x, O5 x ↔ both O' (news1 k l' m (news l' body) (news (l' + labels body) els)) x)
    (hR : ∀ i j, R5 i j ↔ (R' i j ∨ mixed O' (span l' m) i j) ∨ in1 k l' m (news l' body) (noted l' none_ body) (noted (l' + labels body) none_ els) i j) :
    (∀ x, O5 x → x < l' + m) ∧ l' + m + labels rest = l + labels p ∧ (∀ x, both O5 (news (l' + m) rest) x ↔ both O (news l p) x) ∧ (∀ i j, (R5 i j ∨ noted (l' + m) O5 rest i j) ↔ (R i j ∨ noted l O p i j)) := by
  subst hm
  refine ⟨fun x hx => ?_, ?_, fun x => ?_, fun i j => ?_⟩
  · rcases (hO x).1 hx with h | h
    · have := h2 x h
      omega
    · have := news_span (.cons k nm a b body els .nil) l' x (.inl h)
      simp only [labels, span] at this
      omega
  · rw [← h3, labels]
    omega
  · rw [← h4 x]
    simp only [news]
    rw [← both_assoc]
    exact or_congr (hO x) Iff.rfl
  · rw [← h5 i j]
    simp only [noted]
    rw [hR i j, or_assoc, or_assoc]
    refine or_congr Iff.rfl (or_congr Iff.rfl (or_congr Iff.rfl ?_))
    exact noted_iff rest _ hO i j

/-! ### the two turned programs -/
def plain : P → P
  | .nil => .nil
  | .cons k n a b body els r => if k = 4 ∨ k = 5 then .cons 6 [] (.num 1) .bad (plain body) .nil (plain r) else .cons k n a b (plain body) (plain els) (plain r)
def calm : P → P
  | .nil => .nil
  | .cons k n a b body els r => if k = 4 then .cons 5 [] .bad .bad (.cons 4 n a b (calm body) (calm els) .nil) .nil (calm r) else .cons k n a b (calm body) (calm els) (calm r)

theorem plain_quiet : ∀ (p : P), (∀ l x, ¬ news l (plain p) x) ∧ (∀ l i j, ¬ noted l none_ (plain p) i j)
  | .nil => ⟨fun _ _ h => h, fun _ _ _ h => h⟩
  | .cons k n a b body els r => by
    obtain ⟨b1, b2⟩ := plain_quiet body
    obtain ⟨e1, e2⟩ := plain_quiet els
    obtain ⟨r1, r2⟩ := plain_quiet r
    unfold plain
    split
    · have hn : ∀ l x, ¬ both none_ (news1 6 l (lab1 6 (labels (plain body)) (labels P.nil)) (news l (plain body)) (news (l + labels (plain body)) .nil)) x := fun l x h => by
        rcases h with h | ⟨h, _⟩ | ⟨_, h | h⟩ | ⟨h, _⟩
        · exact h
        · exact absurd h (by decide)
        · exact b1 _ _ h
        · exact h
        · exact absurd h (by decide)
      refine ⟨fun l x h => ?_, fun l i j h => ?_⟩
      · rcases h with h | h
        · exact hn l x (.inr h)
        · exact r1 _ _ h
      · rcases h with h | (⟨h, _⟩ | ⟨_, h | h⟩ | ⟨h, _⟩) | h
        · exact mixed_none _ _ _ h
        · exact absurd h (by decide)
        · exact b2 _ _ _ h
        · exact h
        · exact absurd h (by decide)
        · exact r2 _ _ _ (noted_mono _ _ _ _ (fun x hx => hn l x hx) _ _ h)
    · rename_i hk
      have hn : ∀ l m x, ¬ both none_ (news1 k l m (news l (plain body)) (news (l + labels (plain body)) (plain els))) x := fun l m x h => by
        rcases h with h | ⟨h, _⟩ | ⟨_, h | h⟩ | ⟨_, h⟩
        · exact h
        · exact hk (.inl h)
        · exact b1 _ _ h
        · exact e1 _ _ h
        · exact b1 _ _ h
      refine ⟨fun l x h => ?_, fun l i j h => ?_⟩
      · rcases h with h | h
        · exact hn l _ x (.inr h)
        · exact r1 _ _ h
      · rcases h with h | (⟨_, h⟩ | ⟨_, h | h⟩ | ⟨_, h | h⟩) | h
        · exact mixed_none _ _ _ h
        · exact b2 _ _ _ h
        · exact b2 _ _ _ h
        · exact e2 _ _ _ h
        · exact b2 _ _ _ h
        · obtain ⟨x, y, hx, _⟩ := h
          exact b1 _ _ hx
        · exact r2 _ _ _ (noted_mono _ _ _ _ (fun x hx => hn l _ x hx) _ _ h)

theorem calm_quiet : ∀ (p : P), (∀ l x, ¬ news l (calm p) x) ∧ (∀ l i j, ¬ noted l none_ (calm p) i j)
  | .nil => ⟨fun _ _ h => h, fun _ _ _ h => h⟩
  | .cons k n a b body els r => by
    obtain ⟨b1, b2⟩ := calm_quiet body
    obtain ⟨e1, e2⟩ := calm_quiet els
    obtain ⟨r1, r2⟩ := calm_quiet r
    unfold calm
    split
    · refine ⟨fun l x h => ?_, fun l i j h => ?_⟩
      · rcases h with h | h
        · simp [news1] at h
        · exact r1 _ _ h
      · rcases h with h | (⟨_, h⟩ | ⟨h, _⟩ | ⟨h, _⟩) | h
        · exact mixed_none _ _ _ h
        · rcases h with h | (⟨_, h⟩ | ⟨h, _⟩ | ⟨h, _⟩) | h
          · exact mixed_none _ _ _ h
          · exact b2 _ _ _ h
          · exact absurd h (by decide)
          · exact absurd h (by decide)
          · exact h
        · exact absurd h (by decide)
        · exact absurd h (by decide)
        · refine r2 _ _ _ (noted_mono _ _ _ _ (fun x hx => ?_) _ _ h)
          rcases hx with h | h
          · exact h
          · simp [news1] at h
    · rename_i hk
      have hn : ∀ l m x, ¬ both none_ (news1 k l m (news l (calm body)) (news (l + labels (calm body)) (calm els))) x := fun l m x h => by
        rcases h with h | ⟨h, _⟩ | ⟨_, h | h⟩ | ⟨_, h⟩
        · exact h
        · exact hk h
        · exact b1 _ _ h
        · exact e1 _ _ h
        · exact b1 _ _ h
      refine ⟨fun l x h => ?_, fun l i j h => ?_⟩
      · rcases h with h | h
        · exact hn l _ x (.inr h)
        · exact r1 _ _ h
      · rcases h with h | (⟨_, h⟩ | ⟨_, h | h⟩ | ⟨_, h | h⟩) | h
        · exact mixed_none _ _ _ h
        · exact b2 _ _ _ h
        · exact b2 _ _ _ h
        · exact e2 _ _ _ h
        · exact b2 _ _ _ h
        · obtain ⟨x, y, hx, _⟩ := h
          exact b1 _ _ hx
        · exact r2 _ _ _ (noted_mono _ _ _ _ (fun x hx => hn l _ x hx) _ _ h)

/-! ### what the program answers -/
open Classical in
noncomputable def listOf (n : Nat) (S : Nat → Prop) : List Nat := (List.range n).filter fun j => decide (S j)
open Classical in
noncomputable def pairsOf (n : Nat) (R : Nat → Nat → Prop) : List (Nat × Nat) := (List.range n).flatMap fun i => (listOf n (R i)).map fun j => (i, j)
noncomputable def pairs (p : P) : List (Nat × Nat) := if 65535 < labels p then [] else pairsOf (labels p) (noted 0 none_ p)
noncomputable def open_ (p : P) : List Nat := if 65535 < labels p then [] else listOf (labels p) (news 0 p)
theorem mem_listOf {n : Nat} {S : Nat → Prop} {j : Nat} : j ∈ listOf n S ↔ j < n ∧ S j := by simp [listOf]
theorem mem_pairsOf {n : Nat} {R : Nat → Nat → Prop} {x : Nat × Nat} : x ∈ pairsOf n R ↔ x.1 < n ∧ x.2 < n ∧ R x.1 x.2 := by
  obtain ⟨i, j⟩ := x
  simp only [pairsOf, List.mem_flatMap, List.mem_range, List.mem_map, Prod.mk.injEq, mem_listOf]
  constructor
  · rintro ⟨i', h1, j', ⟨h2, h3⟩, rfl, rfl⟩
    exact ⟨h1, h2, h3⟩
  · rintro ⟨h1, h2, h3⟩
    exact ⟨i, h1, j, ⟨h2, h3⟩, rfl, rfl⟩
theorem pairs_none {p : P} (h : ∀ i j, ¬ noted 0 none_ p i j) : pairs p = [] := by
  unfold pairs
  split
  · rfl
  · exact List.eq_nil_iff_forall_not_mem.2 fun x hx => h _ _ (mem_pairsOf.1 hx).2.2
theorem pairs_plain (p : P) : pairs (plain p) = [] := pairs_none ((plain_quiet p).2 0)
theorem pairs_calm (p : P) : pairs (calm p) = [] := pairs_none ((calm_quiet p).2 0)
theorem open_all (n : Bs) (x y : X) (b e : P) : open_ (.cons 5 n x y b e .nil) = [] := by
  unfold open_
  split
  · rfl
  · exact List.eq_nil_iff_forall_not_mem.2 fun z hz => news_fin n x y b e 0 z (mem_listOf.1 hz).2
theorem pairs_all (n : Bs) (x y : X) (b e : P) : pairs (.cons 5 n x y b e .nil) = pairs b := by
  unfold pairs
  rw [labels_cons5]
  have h : noted 0 none_ (.cons 5 n x y b e .nil) = noted 0 none_ b := by
    funext i j
    refine propext ((noted_fin n x y b e 0 none_ i j).trans ⟨fun h => h.resolve_left (mixed_none _ _ _), .inr⟩)
  rw [h]
theorem pairs_more (a b c : P) (n : Bs) (x y : X) (e : P) : ∀ z ∈ pairs (a ++ (.cons 5 n x y b e .nil ++ c)), z ∈ pairs (a ++ (b ++ c)) := by
  intro z hz
  unfold pairs at hz ⊢
  have e1 : labels (a ++ (.cons 5 n x y b e .nil ++ c)) = labels (a ++ (b ++ c)) := by rw [labels_append, labels_append, labels_append, labels_append, labels_cons5]
  rw [e1] at hz
  split
  · rename_i h; rw [if_pos h] at hz; exact hz
  · rename_i h
    rw [if_neg h] at hz
    obtain ⟨h1, h2, h3⟩ := mem_pairsOf.1 hz
    exact mem_pairsOf.2 ⟨h1, h2, more a b c n x y e _ _ h3⟩
end Go.Proofs.Ytajddbmmbhdnfaa.St
