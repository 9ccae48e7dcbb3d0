/-
  A region that draws its order and in which some operations (the marks) turn what was made in it: what is known of a value lasts till the next mark; every other operation is forced to one side of each mark, or (a float) looks at nothing that was made. No program is named here.
-/
import Derived.Test.YtdhjfckckghicaaDoorScP1
import Derived.Lib.ItoaNum
import Derived.Test.YtdhjfckckghicaaDoorRows
import Derived.OrdersIn
import Derived.CallsIn
import Derived.RangeFuncCalls
import Derived.TacticsIn

namespace Go.Proofs.YtdhjfckckghicaaDoor.Sr
set_option linter.unusedVariables false
set_option linter.unusedSimpArgs false
set_option maxRecDepth 100000
open Ex St

/-! ### new names for old ones -/
/-- the last one that is bound so -/
def find (s : Bs) : List (Bs × Bs) → Option Bs
  | [] => none
  | b :: l => match find s l with | some t => some t | none => if b.1 == s then some b.2 else none
theorem find_snoc (s : Bs) (l : List (Bs × Bs)) (b : Bs × Bs) : find s (l ++ [b]) = if b.1 == s then some b.2 else find s l := by
  induction l with
  | nil => simp [find]
  | cons c l ih =>
    rw [List.cons_append, find, ih]
    by_cases h : (b.1 == s) = true
    · simp [h]
    · have h' : (b.1 == s) = false := by simpa using h
      simp only [h', Bool.false_eq_true, if_false]
      rw [find]
theorem find_mem {s t : Bs} : ∀ {l : List (Bs × Bs)}, find s l = some t → (s, t) ∈ l
  | [], h => by cases h
  | b :: l, h => by
    rw [find] at h
    rcases hf : find s l with _ | u
    · rw [hf] at h
      by_cases hb : (b.1 == s) = true
      · rw [if_pos hb] at h
        injection h with h
        have := eq_of_beq hb
        rw [← this, ← h]
        exact List.mem_cons_self
      · rw [if_neg hb] at h; cases h
    · rw [hf] at h
      injection h with h
      subst h
      exact List.mem_cons_of_mem _ (find_mem hf)
theorem find_none {s : Bs} : ∀ {l : List (Bs × Bs)}, find s l = none ↔ s ∉ l.map (·.1)
  | [] => by simp [find]
  | b :: l => by
    rw [find]
    rcases hf : find s l with _ | u
    · have := find_none.1 hf
      by_cases hb : (b.1 == s) = true
      · rw [if_pos hb]
        have := eq_of_beq hb
        simp [this]
      · rw [if_neg hb]
        have hb' : b.1 ≠ s := by simpa using hb
        simp only [List.map_cons, List.mem_cons, not_or, true_iff]
        exact ⟨fun e => hb' e.symm, this⟩
    · refine ⟨fun h => (by cases h), fun h => ?_⟩
      exfalso
      have := find_mem hf
      exact h (List.mem_cons_of_mem _ (List.mem_map.2 ⟨_, this, rfl⟩))
/-- an expression, with new names -/
def rnx (en : List (Bs × Bs)) : X → X
  | .num n => .num n
  | .name s => .name ((find s en).getD s)
  | .two k a b => .two k (rnx en a) (rnx en b)
  | .bad => .num 0

section
variable (vn : Nat → Bs)
/-- statements, with new names; how many names there are behind -/
def rn : P → List (Bs × Bs) → Nat → P × Nat
  | .nil, _, m => (.nil, m)
  | .cons k nm a b body els rest, en, m =>
    if k = 1 ∨ k = 2 then ((.cons k (vn m) (rnx en a) .bad .nil .nil (rn rest (en ++ [(nm, vn m)]) (m + 1)).1), (rn rest (en ++ [(nm, vn m)]) (m + 1)).2)
    else if k = 3 then (.cons k [] (rnx en a) (rnx en b) .nil .nil (rn rest en m).1, (rn rest en m).2)
    else if k = 4 ∨ k = 5 then (.cons k [] .bad .bad (rn body en m).1 .nil (rn rest en (rn body en m).2).1, (rn rest en (rn body en m).2).2)
    else if k = 6 then (.cons k [] (rnx en a) .bad (rn body en m).1 (rn els en (rn body en m).2).1 (rn rest en (rn els en (rn body en m).2).2).1, (rn rest en (rn els en (rn body en m).2).2).2)
    else if k = 7 then (.cons k (vn m) (rnx en a) (rnx en b) (rn body (en ++ [(nm, vn m)]) (m + 1)).1 .nil (rn rest en (rn body (en ++ [(nm, vn m)]) (m + 1)).2).1, (rn rest en (rn body (en ++ [(nm, vn m)]) (m + 1)).2).2)
    else (.cons k [] .bad .bad .nil .nil (rn rest en m).1, (rn rest en m).2)
def rename (p : P) : P := (rn vn p [] 0).1

end

/-! ### what is free behind what is bound -/
/-- all that is free lies in a list: bound by it, nothing is -/
theorem use_sub {bd acc bd' : List ByteArray} {e : X} (h : ∀ s ∈ use bd acc e, s ∈ bd') (hb : ∀ s ∈ bd, s ∈ bd') : okx (bss bd') e ∧ ∀ s ∈ acc, s ∈ bd' := by
  unfold use at h
  have key : ∀ (l acc : List ByteArray), (∀ s ∈ l.foldl (use1 bd) acc, s ∈ bd') → (∀ s ∈ acc, s ∈ bd') ∧ ∀ s ∈ l, s ∈ bd' := by
    intro l
    induction l with
    | nil => exact fun acc h => ⟨h, fun s hs => by cases hs⟩
    | cons x l ih =>
      intro acc h
      obtain ⟨h1, h2⟩ := ih _ h
      have hx : x ∈ bd' ∧ ∀ s ∈ acc, s ∈ bd' := by
        unfold use1 at h1
        split at h1
        · exact ⟨h1 x (by simp), fun s hs => h1 s (by simp [hs])⟩
        · rename_i hn
          refine ⟨?_, h1⟩
          rcases hxb : has x bd with _ | _
          · rcases hxa : has x acc with _ | _
            · exact absurd ⟨hxb, hxa⟩ hn
            · exact h1 x ((has_mem _ _).1 hxa)
          · exact hb x ((has_mem _ _).1 hxb)
      exact ⟨hx.2, fun s hs => (List.mem_cons.1 hs).elim (fun e => e ▸ hx.1) (h2 s)⟩
  obtain ⟨h1, h2⟩ := key _ _ h
  refine ⟨(okx_occ _ _).2 fun s hs => ?_, h1⟩
  have := h2 (ba s) ((mem_names _ _).2 (by simpa [ba] using hs))
  rw [← mem_bss] at this
  simpa [ba] using this
theorem sub_snoc {bd bd' : List ByteArray} {x : ByteArray} (hb : ∀ s ∈ bd, s ∈ bd') : ∀ s ∈ bd ++ [x], s ∈ bd' ++ [x] := fun s hs => by
  rcases List.mem_append.1 hs with h | h
  · exact List.mem_append_left _ (hb s h)
  · exact List.mem_append_right _ h
theorem fr_sub.use_grow (bd acc : List ByteArray) (e : X) (s : ByteArray) (h : s ∈ acc) : s ∈ use bd acc e := by
  unfold use
  generalize names [] e = l
  induction l generalizing acc with
  | nil => exact h
  | cons x l ih =>
    refine ih _ ?_
    unfold use1
    split
    · exact List.mem_append_left _ h
    · exact h
theorem fr_sub.fr_grow : ∀ (q : P) (bd ac : List ByteArray) (s : ByteArray), s ∈ ac → s ∈ fr q bd ac
| .nil, _, _, _, h => h
| .cons k nm a b body els rest, bd, ac, s, h => by
  unfold fr
  split
  · exact fr_sub.fr_grow rest _ _ s (fr_sub.use_grow _ _ _ s h)
  split
  · exact fr_sub.fr_grow rest _ _ s (fr_sub.use_grow _ _ _ s (fr_sub.use_grow _ _ _ s h))
  split
  · exact fr_sub.fr_grow rest _ _ s (fr_sub.fr_grow body _ _ s h)
  split
  · exact fr_sub.fr_grow rest _ _ s (fr_sub.fr_grow els _ _ s (fr_sub.fr_grow body _ _ s (fr_sub.use_grow _ _ _ s h)))
  split
  · exact fr_sub.fr_grow rest _ _ s (fr_sub.fr_grow body _ _ s (fr_sub.use_grow _ _ _ s (fr_sub.use_grow _ _ _ s h)))
  · exact fr_sub.fr_grow rest _ _ s h
theorem fr_sub : ∀ (p : P) (bd acc bd' : List ByteArray), (∀ s ∈ fr p bd acc, s ∈ bd') → (∀ s ∈ bd, s ∈ bd') → cl p (bss bd') ∧ ∀ s ∈ acc, s ∈ bd'
  | .nil, bd, acc, bd', h, hb => ⟨trivial, h⟩
  | .cons k nm a b body els rest, bd, acc, bd', h, hb => by
    unfold fr at h
    unfold cl
    have grow : ∀ {q : P} {bd2 ac : List ByteArray} {s : ByteArray}, s ∈ ac → s ∈ fr q bd2 ac := fun {q bd2 ac s} => fr_sub.fr_grow q bd2 ac s
    split at h
    · rename_i hk
      rw [if_pos hk]
      obtain ⟨h1, -⟩ := fr_sub rest (bd ++ [ba nm]) _ (bd' ++ [ba nm]) (fun s hs => List.mem_append_left _ (h s hs)) (sub_snoc hb)
      rw [bss_snoc] at h1
      obtain ⟨h2, h3⟩ := use_sub (fun s hs => h s (grow hs)) hb
      exact ⟨⟨h2, h1⟩, h3⟩
    rename_i hk; rw [if_neg hk]
    split at h
    · rename_i hk
      rw [if_pos hk]
      obtain ⟨h1, h2⟩ := fr_sub rest _ _ bd' h hb
      obtain ⟨h3, h4⟩ := use_sub h2 hb
      obtain ⟨h5, h6⟩ := use_sub h4 hb
      exact ⟨⟨⟨h5, h3⟩, h1⟩, h6⟩
    rename_i hk; rw [if_neg hk]
    split at h
    · rename_i hk
      rw [if_pos hk]
      obtain ⟨h1, h2⟩ := fr_sub rest _ _ bd' h hb
      obtain ⟨h3, h4⟩ := fr_sub body _ _ bd' h2 hb
      exact ⟨⟨h3, h1⟩, h4⟩
    rename_i hk; rw [if_neg hk]
    split at h
    · rename_i hk
      rw [if_pos hk]
      obtain ⟨h1, h2⟩ := fr_sub rest _ _ bd' h hb
      obtain ⟨h3, h4⟩ := fr_sub els _ _ bd' h2 hb
      obtain ⟨h5, h6⟩ := fr_sub body _ _ bd' h4 hb
      obtain ⟨h7, h8⟩ := use_sub h6 hb
      exact ⟨⟨⟨h7, h5, h3⟩, h1⟩, h8⟩
    rename_i hk; rw [if_neg hk]
    split at h
    · rename_i hk
      rw [if_pos hk]
      obtain ⟨h1, h2⟩ := fr_sub rest _ _ bd' h hb
      obtain ⟨h3, -⟩ := fr_sub body (bd ++ [ba nm]) _ (bd' ++ [ba nm]) (fun s hs => List.mem_append_left _ (h2 s hs)) (sub_snoc hb)
      rw [bss_snoc] at h3
      have h4 : ∀ s ∈ use bd (use bd acc a) b, s ∈ bd' := fun s hs => h2 s (grow hs)
      obtain ⟨h5, h6⟩ := use_sub h4 hb
      obtain ⟨h7, h8⟩ := use_sub h6 hb
      exact ⟨⟨⟨⟨h7, h5⟩, h3⟩, h1⟩, h8⟩
    rename_i hk; rw [if_neg hk]
    exact fr_sub rest bd acc bd' h hb
/-- a let of each name -/
def lets : List ByteArray → P
  | [] => .nil
  | s :: l => .cons 1 s.data.toList (.num 0) .bad .nil .nil (lets l)
theorem fr_lets : ∀ (l : List ByteArray) (p : P) (bd : List ByteArray), fr (lets l ++ p) bd [] = fr p (bd ++ l) []
  | [], p, bd => by rw [List.append_nil]; rfl
  | s :: l, p, bd => by
    unfold lets
    rw [P.cons_append, fr, if_pos (.inl rfl)]
    have e : use bd [] (.num 0) = [] := rfl
    rw [e, fr_lets l p, ba_data, List.append_assoc]
    simp
theorem closed_law (p : P) : free (lets (free p) ++ p) = [] := by
  unfold free
  rw [fr_lets, List.nil_append, fr_nil]
  exact ⟨rfl, (fr_sub p [] [] _ (fun s hs => hs) (fun s hs => by cases hs)).1⟩

/-! ### a block, and what is behind it -/
/-- those of both, each once -/
def merge (a b : List ByteArray) : List ByteArray := b.foldl (fun out s => if has s out then out else out ++ [s]) a
theorem merge_snoc (a b : List ByteArray) (s : ByteArray) : merge a (b ++ [s]) = if has s (merge a b) then merge a b else merge a b ++ [s] := by
  unfold merge
  rw [List.foldl_append]
  rfl
theorem mem_merge (a b : List ByteArray) (s : ByteArray) : s ∈ merge a b ↔ s ∈ a ∨ s ∈ b := by
  unfold merge
  induction b generalizing a with
  | nil => simp
  | cons x b ih =>
    rw [List.foldl_cons, ih]
    by_cases h : has x a = true
    · rw [if_pos h]
      have := (has_mem _ _).1 h
      constructor
      · rintro (h | h)
        · exact .inl h
        · exact .inr (List.mem_cons_of_mem _ h)
      · rintro (h | h)
        · exact .inl h
        · rcases List.mem_cons.1 h with rfl | h
          · exact .inl this
          · exact .inr h
    · rw [if_neg h, List.mem_append, List.mem_singleton, List.mem_cons, or_assoc]
/-- what had come is ahead of what is used anew -/
theorem use1_merge (bd acc x : List ByteArray) (s : ByteArray) : use1 bd (merge acc x) s = merge acc (use1 bd x s) := by
  unfold use1
  rcases h1 : has s bd with _ | _
  · rcases h2 : has s x with _ | _
    · rw [if_pos (show false = false ∧ false = false from ⟨rfl, rfl⟩), merge_snoc]
      rcases h3 : has s (merge acc x) with _ | _
      · simp
      · simp
    · have h3 : has s (merge acc x) = true := (has_mem _ _).2 ((mem_merge _ _ _).2 (.inr ((has_mem _ _).1 h2)))
      rw [h3]
      simp
  · simp
theorem use_merge (bd acc x : List ByteArray) (e : X) : use bd (merge acc x) e = merge acc (use bd x e) := by
  unfold use
  generalize names [] e = l
  induction l generalizing x with
  | nil => rfl
  | cons s l ih => rw [List.foldl_cons, List.foldl_cons, use1_merge, ih]
theorem fr_merge : ∀ (p : P) (bd acc x : List ByteArray), fr p bd (merge acc x) = merge acc (fr p bd x)
  | .nil, _, _, _ => rfl
  | .cons k nm a b body els rest, bd, acc, x => by
    unfold fr
    split
    · rw [use_merge, fr_merge rest]
    split
    · rw [use_merge, use_merge, fr_merge rest]
    split
    · rw [fr_merge body, fr_merge rest]
    split
    · rw [use_merge, fr_merge body, fr_merge els, fr_merge rest]
    split
    · rw [use_merge, use_merge, fr_merge body, fr_merge rest]
    · rw [fr_merge rest]
theorem block_law (k : Int) (hk : k = 4 ∨ k = 5) (nm : Bs) (e f : X) (els a b : P) : free (.cons k nm e f a els b) = merge (free a) (free b) := by
  unfold free
  rw [fr, if_neg (by omega), if_neg (by omega), if_pos hk]
  exact fr_merge b [] (fr a [] []) []
end Go.Proofs.YtdhjfckckghicaaDoor.Sr


namespace Go.Proofs.YtdhjfckckghicaaDoor.Sr
set_option linter.unusedVariables false
set_option linter.unusedSimpArgs false
set_option maxRecDepth 100000
open Ex St

/-! ### the new names -/
def vn (i : Nat) : Bs := 118 :: Lib.decDigits i
theorem digits_pos (u : Nat) : Lib.decDigits u ≠ [] := by
  rw [Lib.decDigits]
  split <;> simp
theorem digit_inj {a b : Nat} (ha : a < 10) (hb : b < 10) (h : UInt8.ofNat (48 + a) = UInt8.ofNat (48 + b)) : a = b := by
  have := congrArg UInt8.toNat h
  simp only [UInt8.toNat_ofNat'] at this
  omega
theorem digits_inj : ∀ (u v : Nat), Lib.decDigits u = Lib.decDigits v → u = v := by
  intro u
  induction u using Nat.strongRecOn with
  | _ u ih =>
    intro v h
    rw [Lib.decDigits.eq_def u, Lib.decDigits.eq_def v] at h
    by_cases hu : u < 10
    · rw [dif_pos hu] at h
      by_cases hv : v < 10
      · rw [dif_pos hv] at h
        exact digit_inj hu hv (by simpa using h)
      · rw [dif_neg hv] at h
        have := congrArg List.length h
        have hp := List.length_pos_iff.2 (digits_pos (v / 10))
        simp only [List.length_append, List.length_singleton] at this
        omega
    · rw [dif_neg hu] at h
      by_cases hv : v < 10
      · rw [dif_pos hv] at h
        have := congrArg List.length h
        have hp := List.length_pos_iff.2 (digits_pos (u / 10))
        simp only [List.length_append, List.length_singleton] at this
        omega
      · rw [dif_neg hv] at h
        obtain ⟨h1, h2⟩ := List.append_inj' h rfl
        have := ih (u / 10) (by omega) _ h1
        have := digit_inj (a := u % 10) (b := v % 10) (by omega) (by omega) (by simpa using h2)
        omega
theorem vn_inj {i j : Nat} (h : vn i = vn j) : i = j := digits_inj i j (by unfold vn at h; injection h)

/-! ### renamed twice -/
/-- each name for itself -/
def idn (en : List (Bs × Bs)) : Prop := ∀ b ∈ en, b.1 = b.2
theorem idn.snoc {en : List (Bs × Bs)} (h : idn en) (s : Bs) : idn (en ++ [(s, s)]) := fun b hb => by
  rcases List.mem_append.1 hb with hb | hb
  · exact h b hb
  · rw [List.mem_singleton.1 hb]
theorem find_idn {en : List (Bs × Bs)} (h : idn en) (s : Bs) : (find s en).getD s = s := by
  rcases hf : find s en with _ | t
  · rfl
  · exact (h _ (find_mem hf)).symm
theorem rnx_twice {en en2 : List (Bs × Bs)} (h : idn en2) : ∀ e : X, rnx en2 (rnx en e) = rnx en e
  | .num _ => rfl
  | .bad => rfl
  | .name s => by rw [rnx, rnx, find_idn h]
  | .two _ a b => by rw [rnx, rnx, rnx_twice h a, rnx_twice h b]
theorem rn_twice : ∀ (p : P) (en en2 : List (Bs × Bs)) (m : Nat), idn en2 → rn vn (rn vn p en m).1 en2 m = rn vn p en m
  | .nil, _, _, _, _ => rfl
  | .cons k nm a b body els rest, en, en2, m, h => by
    by_cases h1 : k = 1 ∨ k = 2
    · have e := rn_twice rest (en ++ [(nm, vn m)]) (en2 ++ [(vn m, vn m)]) (m + 1) (h.snoc _)
      simp only [rn, if_pos h1, rnx_twice h, e]
    by_cases h3 : k = 3
    · simp only [rn, if_pos h3, if_neg h1, rnx_twice h, rn_twice rest _ _ _ h]
    by_cases h4 : k = 4 ∨ k = 5
    · simp only [rn, if_pos h4, if_neg h1, if_neg h3, rn_twice body _ _ _ h, rn_twice rest _ _ _ h]
    by_cases h6 : k = 6
    · simp only [rn, if_pos h6, if_neg h1, if_neg h3, if_neg h4, rnx_twice h, rn_twice body _ _ _ h, rn_twice els _ _ _ h, rn_twice rest _ _ _ h]
    by_cases h7 : k = 7
    · have e := rn_twice body (en ++ [(nm, vn m)]) (en2 ++ [(vn m, vn m)]) (m + 1) (h.snoc _)
      simp only [rn, if_pos h7, if_neg h1, if_neg h3, if_neg h4, if_neg h6, rnx_twice h, e, rn_twice rest _ _ _ h]
    · simp only [rn, if_neg h7, if_neg h1, if_neg h3, if_neg h4, if_neg h6, rn_twice rest _ _ _ h]
theorem twice_law (p : P) : rename vn (rename vn p) = rename vn p := by
  unfold rename
  rw [rn_twice p [] [] 0 (fun _ hb => by cases hb)]

/-! ### how many accesses -/
theorem labels_rn : ∀ (p : P) (en : List (Bs × Bs)) (m : Nat), labels (rn vn p en m).1 = labels p
  | .nil, _, _ => rfl
  | .cons k nm a b body els rest, en, m => by
    obtain ⟨l1, l2, l3, l4, l6, l7, l8⟩ := lab_cases k (labels body) (labels els)
    obtain ⟨z1, z2, z3, z4, z6, z7, z8⟩ := lab_cases k 0 0
    obtain ⟨y1, y2, y3, y4, y6, y7, y8⟩ := lab_cases k (labels body) 0
    by_cases h1 : k = 1 ∨ k = 2
    · simp only [rn, if_pos h1, labels, labels_rn rest]
      rcases h1 with h1 | h1
      · rw [l1 h1, z1 h1]
      · rw [l2 h1, z2 h1]
    by_cases h3 : k = 3
    · simp only [rn, if_pos h3, if_neg h1, labels, labels_rn rest, l3 h3, z3 h3]
    by_cases h4 : k = 4 ∨ k = 5
    · simp only [rn, if_pos h4, if_neg h1, if_neg h3, labels, labels_rn rest, labels_rn body, l4 h4, y4 h4]
    by_cases h6 : k = 6
    · simp only [rn, if_pos h6, if_neg h1, if_neg h3, if_neg h4, labels, labels_rn rest, labels_rn body, labels_rn els]
    by_cases h7 : k = 7
    · simp only [rn, if_pos h7, if_neg h1, if_neg h3, if_neg h4, if_neg h6, labels, labels_rn rest, labels_rn body, l7 h7, y7 h7]
    · simp only [rn, if_neg h7, if_neg h1, if_neg h3, if_neg h4, if_neg h6, labels, labels_rn rest]
      rw [l8 (by omega) h3 h4 h6 h7, z8 (by omega) h3 h4 h6 h7]
theorem labels_law (p : P) : labels (rename vn p) = labels p := labels_rn p [] 0

/-! ### what is free in what is renamed -/
/-- all the uses in their order -/
def ux (bd acc : List ByteArray) : X → List ByteArray
  | .name s => use1 bd acc (ba s)
  | .two _ a b => ux bd (ux bd acc a) b
  | _ => acc
theorem use1_twice (bd acc : List ByteArray) (s : ByteArray) : has s bd = true ∨ has s acc = true → use1 bd acc s = acc := fun h => by
  unfold use1
  rcases h with h | h <;> simp [h]
theorem use1_has (bd acc : List ByteArray) (s : ByteArray) : has s bd = true ∨ has s (use1 bd acc s) = true := by
  rcases h : has s bd with _ | _
  · refine .inr ?_
    unfold use1
    rcases h' : has s acc with _ | _
    · rw [if_pos ⟨h, rfl⟩]; simp [has]
    · rw [if_neg (by simp)]; exact h'
  · exact .inl rfl
theorem use1_keeps (bd acc : List ByteArray) (s t : ByteArray) (h : has s acc = true) : has s (use1 bd acc t) = true := by
  unfold use1
  split
  · rw [has_mem] at h ⊢
    exact List.mem_append_left _ h
  · exact h
theorem fold_has (bd : List ByteArray) (s : ByteArray) : ∀ (l acc : List ByteArray), has s l = true ∨ has s acc = true → has s bd = true ∨ has s (l.foldl (use1 bd) acc) = true
  | [], acc, h => .inr (h.elim (fun h => by simp [has] at h) id)
  | x :: l, acc, h => by
    rw [List.foldl_cons]
    by_cases hx : s = x
    · subst hx
      rcases use1_has bd acc s with h1 | h1
      · exact .inl h1
      · exact fold_has bd s l _ (.inr h1)
    · refine fold_has bd s l _ (h.imp (fun h => ?_) (use1_keeps bd acc s x))
      rw [has_mem] at h ⊢
      exact (List.mem_cons.1 h).resolve_left hx
theorem names_ux (bd : List ByteArray) : ∀ (e : X) (ns acc : List ByteArray), (names ns e).foldl (use1 bd) acc = ux bd (ns.foldl (use1 bd) acc) e
  | .num _, _, _ => rfl
  | .bad, _, _ => rfl
  | .name s, ns, acc => by
    unfold names ux
    rcases h : has (ba s) ns with _ | _
    · simp [List.foldl_append]
    · rw [use1_twice _ _ _ (fold_has bd _ ns acc (.inl h))]
      simp
  | .two _ a b, ns, acc => by
    unfold names ux
    rw [names_ux bd b, names_ux bd a]
theorem use_ux (bd acc : List ByteArray) (e : X) : use bd acc e = ux bd acc e := by
  unfold use
  rw [names_ux]
  rfl

/-- it looks like a new one -/
def vlike (s : ByteArray) : Bool := s.data.toList.head? == some 118
theorem vlike_vn (i : Nat) : vlike (ba (vn i)) = true := by simp [vlike, ba, vn]
def olds (en : List (Bs × Bs)) : List ByteArray := en.map fun b => ba b.1
def nows (en : List (Bs × Bs)) : List ByteArray := en.map fun b => ba b.2
theorem olds_snoc (en : List (Bs × Bs)) (s t : Bs) : olds (en ++ [(s, t)]) = olds en ++ [ba s] := by simp [olds]
theorem nows_snoc (en : List (Bs × Bs)) (s t : Bs) : nows (en ++ [(s, t)]) = nows en ++ [ba t] := by simp [nows]
theorem ba_inj {s t : Bs} (h : ba s = ba t) : s = t := by simpa [ba] using h
theorem has_olds (s : Bs) (en : List (Bs × Bs)) : has (ba s) (olds en) = true ↔ find s en ≠ none := by
  rw [has_mem, Ne, find_none, Decidable.not_not]
  unfold olds
  simp only [List.mem_map]
  exact ⟨fun ⟨b, hb, e⟩ => ⟨b, hb, ba_inj e⟩, fun ⟨b, hb, e⟩ => ⟨b, hb, by rw [e]⟩⟩
theorem has_nows {s t : Bs} {en : List (Bs × Bs)} (h : find s en = some t) : has (ba t) (nows en) = true := by
  rw [has_mem]
  exact List.mem_map.2 ⟨_, find_mem h, rfl⟩
/-- the new ones all look so -/
def vens (en : List (Bs × Bs)) : Prop := ∀ b ∈ en, vlike (ba b.2) = true
theorem vens.snoc {en : List (Bs × Bs)} (h : vens en) (s : Bs) (i : Nat) : vens (en ++ [(s, vn i)]) := fun b hb => by
  rcases List.mem_append.1 hb with hb | hb
  · exact h b hb
  · rw [List.mem_singleton.1 hb]; exact vlike_vn i
theorem not_nows {en : List (Bs × Bs)} (h : vens en) {s : ByteArray} (hs : vlike s = false) : has s (nows en) = false := by
  rcases hh : has s (nows en) with _ | _
  · rfl
  · rw [has_mem] at hh
    obtain ⟨b, hb, rfl⟩ := List.mem_map.1 hh
    rw [h b hb] at hs
    cases hs
/-- nothing in it looks so -/
def novs (l : List ByteArray) : Prop := ∀ s ∈ l, vlike s = false
theorem ux_grow (bd : List ByteArray) : ∀ (e : X) (acc : List ByteArray) (s : ByteArray), s ∈ acc → s ∈ ux bd acc e
  | .num _, _, _, h => h
  | .bad, _, _, h => h
  | .name x, acc, s, h => by rw [← has_mem] at h ⊢; exact use1_keeps bd acc s _ h
  | .two _ a b, acc, s, h => ux_grow bd b _ s (ux_grow bd a _ s h)
theorem ux_rn {en : List (Bs × Bs)} (h : vens en) : ∀ (e : X) (acc : List ByteArray), novs (ux (olds en) acc e) → ux (nows en) acc (rnx en e) = ux (olds en) acc e
  | .num _, _, _ => rfl
  | .bad, _, _ => rfl
  | .name s, acc, hv => by
    unfold ux at hv ⊢
    unfold rnx
    rcases hf : find s en with _ | t
    · have h1 : has (ba s) (olds en) = false := by
        rcases hh : has (ba s) (olds en) with _ | _
        · rfl
        · exact absurd hf ((has_olds _ _).1 hh)
      have hb : vlike (ba s) = false := by
        rcases use1_has (olds en) acc (ba s) with h2 | h2
        · rw [h1] at h2; cases h2
        · exact hv _ ((has_mem _ _).1 h2)
      show use1 (nows en) acc (ba s) = _
      unfold use1
      rw [h1, not_nows h hb]
    · show use1 (nows en) acc (ba t) = _
      rw [use1_twice _ _ _ (.inl (has_nows hf)), use1_twice _ _ _ (.inl ((has_olds _ _).2 (by rw [hf]; simp)))]
  | .two _ a b, acc, hv => by
    rw [ux] at hv ⊢
    rw [rnx, ux, ux_rn h a acc (fun s hs => hv s (ux_grow _ _ _ _ hs)), ux_rn h b _ hv]
theorem use_rn {en : List (Bs × Bs)} (h : vens en) (e : X) (acc : List ByteArray) (hv : novs (use (olds en) acc e)) : use (nows en) acc (rnx en e) = use (olds en) acc e := by
  rw [use_ux] at hv ⊢
  rw [use_ux]
  exact ux_rn h e acc hv
theorem use_bad (bd acc : List ByteArray) : use bd acc .bad = acc := rfl
theorem fr_rn : ∀ (p : P) (en : List (Bs × Bs)) (m : Nat) (acc : List ByteArray), vens en → novs (fr p (olds en) acc) → fr (rn vn p en m).1 (nows en) acc = fr p (olds en) acc
  | .nil, _, _, _, _, _ => rfl
  | .cons k nm a b body els rest, en, m, acc, h, hv => by
    have grow : ∀ {q : P} {bd ac : List ByteArray}, novs (fr q bd ac) → novs ac := fun {q bd ac} h s hs => h s (fr_sub.fr_grow q bd ac s hs)
    have gru : ∀ {e : X} {bd ac : List ByteArray}, novs (use bd ac e) → novs ac := fun {e bd ac} h s hs => h s (fr_sub.use_grow bd ac e s hs)
    unfold rn
    rw [fr] at hv ⊢
    by_cases h1 : k = 1 ∨ k = 2
    · simp only [if_pos h1] at hv ⊢
      rw [fr, if_pos h1, use_rn h a acc (grow hv), ← nows_snoc (s := nm), ← olds_snoc (t := vn m)]
      rw [← olds_snoc (t := vn m)] at hv
      exact fr_rn rest _ _ _ (h.snoc _ _) hv
    simp only [if_neg h1] at hv ⊢
    by_cases h3 : k = 3
    · simp only [if_pos h3] at hv ⊢
      rw [fr, if_neg h1, if_pos h3, use_rn h a acc (gru (grow hv)), use_rn h b _ (grow hv)]
      exact fr_rn rest _ _ _ h hv
    simp only [if_neg h3] at hv ⊢
    by_cases h4 : k = 4 ∨ k = 5
    · simp only [if_pos h4] at hv ⊢
      rw [fr, if_neg h1, if_neg h3, if_pos h4, fr_rn body _ _ _ h (grow hv)]
      exact fr_rn rest _ _ _ h hv
    simp only [if_neg h4] at hv ⊢
    by_cases h6 : k = 6
    · simp only [if_pos h6] at hv ⊢
      rw [fr, if_neg h1, if_neg h3, if_neg h4, if_pos h6, use_rn h a acc (grow (grow (grow hv))), fr_rn body _ _ _ h (grow (grow hv)), fr_rn els _ _ _ h (grow hv)]
      exact fr_rn rest _ _ _ h hv
    simp only [if_neg h6] at hv ⊢
    by_cases h7 : k = 7
    · simp only [if_pos h7] at hv ⊢
      rw [fr, if_neg h1, if_neg h3, if_neg h4, if_neg h6, if_pos h7]
      have hv1 := grow hv
      rw [use_rn h a acc (gru (grow hv1)), use_rn h b _ (grow hv1), ← nows_snoc (s := nm), ← olds_snoc (t := vn m)]
      rw [← olds_snoc (t := vn m)] at hv hv1
      rw [fr_rn body _ _ _ (h.snoc _ _) hv1]
      exact fr_rn rest _ _ _ h hv
    simp only [if_neg h7] at hv ⊢
    rw [fr, if_neg h1, if_neg h3, if_neg h4, if_neg h6, if_neg h7]
    exact fr_rn rest _ _ _ h hv
theorem free_law (p : P) (h : novs (free p)) : free (rename vn p) = free p := fr_rn p [] 0 [] (fun _ hb => by cases hb) h

/-! ### one name for another one -/
/-- another one in its place, and what means something alone -/
def eput (t : Bs) (by_ : X) : X → X
  | .num n => .num n
  | .name s => if s == t then by_ else .name s
  | .two k a b => .two k (eput t by_ a) (eput t by_ b)
  | .bad => .num 0
theorem eput_turn (t u : Bs) : ∀ e : X, (occ u e = true → u = t) → rnx [(t, vn 0)] (eput t (.name t) e) = rnx [(u, vn 0)] (eput t (.name u) e)
  | .num _, _ => rfl
  | .bad, _ => rfl
  | .name s, h => by
    unfold eput
    unfold occ at h
    by_cases hs : (s == t) = true
    · rw [if_pos hs, if_pos hs]
      simp [rnx, find]
    · rw [if_neg hs, if_neg hs]
      have h1 : (t == s) = false := by simpa using fun e => hs (by simp [e])
      have h2 : (u == s) = false := by
        rcases hu : (u == s) with _ | _
        · rfl
        · have e1 := eq_of_beq hu
          have e2 := h (by simp [e1])
          exact absurd (by rw [← e1, e2]; simp) hs
      simp [rnx, find, h1, h2]
  | .two _ a b, h => by
    unfold occ at h
    unfold eput
    rw [rnx, rnx, eput_turn t u a (fun h' => h (by simp [h'])), eput_turn t u b (fun h' => h (by simp [h']))]
def turnP (a : X) (n name : Bs) (b : X) : P := .cons 1 n a .bad .nil .nil (.cons 3 [] (.name n) (eput name (.name n) b) .nil .nil .nil)
theorem turn_law (a : X) (name other : Bs) (b : X) (h : occ other b = true → other = name) : rename vn (turnP a name name b) = rename vn (turnP a other name b) := by
  have e : ∀ n, rename vn (turnP a n name b) = .cons 1 (vn 0) (rnx [] a) .bad .nil .nil (.cons 3 [] (.name (vn 0)) (rnx [(n, vn 0)] (eput name (.name n) b)) .nil .nil .nil) := fun n => by
    simp [rename, turnP, rn, rnx, find]
  rw [e, e, eput_turn name other b h]

/-! ### what a renamed program does -/
/-- the new names are those of these numbers, each once -/
def nums (en : List (Bs × Bs)) (m : Nat) : Prop := ∀ b ∈ en, ∃ i, i < m ∧ b.2 = vn i
theorem nums.snoc {en : List (Bs × Bs)} {m : Nat} (h : nums en m) (s : Bs) : nums (en ++ [(s, vn m)]) (m + 1) := fun b hb => by
  rcases List.mem_append.1 hb with hb | hb
  · obtain ⟨i, hi, e⟩ := h b hb
    exact ⟨i, by omega, e⟩
  · exact ⟨m, by omega, by rw [List.mem_singleton.1 hb]⟩
theorem nums.mono {en : List (Bs × Bs)} {m m' : Nat} (h : nums en m) (hm : m ≤ m') : nums en m' := fun b hb => by
  obtain ⟨i, hi, e⟩ := h b hb
  exact ⟨i, by omega, e⟩
theorem rn_grow : ∀ (p : P) (en : List (Bs × Bs)) (m : Nat), m ≤ (rn vn p en m).2
  | .nil, _, _ => Nat.le_refl _
  | .cons k nm a b body els rest, en, m => by
    unfold rn
    split
    · exact Nat.le_trans (Nat.le_succ _) (rn_grow rest _ (m + 1))
    split
    · exact rn_grow rest _ m
    split
    · exact Nat.le_trans (rn_grow body _ m) (rn_grow rest _ _)
    split
    · exact Nat.le_trans (rn_grow body _ m) (Nat.le_trans (rn_grow els _ _) (rn_grow rest _ _))
    split
    · exact Nat.le_trans (Nat.le_succ _) (Nat.le_trans (rn_grow body _ (m + 1)) (rn_grow rest _ _))
    · exact rn_grow rest _ m
theorem rn_le : ∀ (p : P) (en : List (Bs × Bs)) (m : Nat), (rn vn p en m).2 ≤ m + p.size
  | .nil, _, _ => Nat.le_refl _
  | .cons k nm a b body els rest, en, m => by
    unfold rn P.size
    split
    · have := rn_le rest (en ++ [(nm, vn m)]) (m + 1); omega
    split
    · have := rn_le rest en m; omega
    split
    · have h1 := rn_le body en m; have h2 := rn_le rest en (rn vn body en m).2; omega
    split
    · have h1 := rn_le body en m; have h2 := rn_le els en (rn vn body en m).2; have h3 := rn_le rest en (rn vn els en (rn vn body en m).2).2; omega
    split
    · have h1 := rn_le body (en ++ [(nm, vn m)]) (m + 1); have h2 := rn_le rest en (rn vn body (en ++ [(nm, vn m)]) (m + 1)).2; omega
    · have := rn_le rest en m; omega
/-- the same values under the new names -/
def par (en : List (Bs × Bs)) (e e' : Env) : Prop := ∀ s t, find s en = some t → Ex.look s e = Ex.look t e'
theorem par.snoc {en : List (Bs × Bs)} {e e' : Env} {m : Nat} (h : par en e e') (hn : nums en m) (nm : Bs) (v : Int) : par (en ++ [(nm, vn m)]) (e ++ [(nm, v)]) (e' ++ [(vn m, v)]) := fun s t ht => by
  rw [look_snoc, look_snoc]
  rw [find_snoc] at ht
  by_cases hs : (nm == s) = true
  · rw [if_pos hs] at ht ⊢
    injection ht with ht
    rw [← ht]
    simp
  · rw [if_neg hs] at ht ⊢
    obtain ⟨i, hi, e1⟩ := hn _ (find_mem ht)
    have : (vn m == t) = false := by
      rcases hh : (vn m == t) with _ | _
      · rfl
      · have e2 := (eq_of_beq hh).trans e1
        have := vn_inj e2
        omega
    rw [this]
    exact h s t ht
theorem evl_rn {en : List (Bs × Bs)} {e e' : Env} (h : par en e e') : ∀ x : X, okx (en.map (·.1)) x → evl e x = evl e' (rnx en x)
  | .num _, _ => rfl
  | .bad, _ => rfl
  | .name s, hs => by
    rcases hf : find s en with _ | t
    · exact absurd hs (find_none.1 hf)
    · rw [rnx, hf]
      exact h s t hf
  | .two _ a b, hs => by rw [rnx, evl, evl, evl_rn h a hs.1, evl_rn h b hs.2]
theorem okx_rn {en : List (Bs × Bs)} : ∀ x : X, okx (en.map (·.1)) x → okx (en.map (·.2)) (rnx en x)
  | .num _, _ => trivial
  | .bad, _ => trivial
  | .name s, hs => by
    rcases hf : find s en with _ | t
    · exact absurd hs (find_none.1 hf)
    · rw [rnx, hf]
      exact List.mem_map.2 ⟨_, find_mem hf, rfl⟩
  | .two _ a b, hs => ⟨okx_rn a hs.1, okx_rn b hs.2⟩
theorem map_snoc1 (en : List (Bs × Bs)) (b : Bs × Bs) : (en ++ [b]).map (·.1) = en.map (·.1) ++ [b.1] := by simp
theorem map_snoc2 (en : List (Bs × Bs)) (b : Bs × Bs) : (en ++ [b]).map (·.2) = en.map (·.2) ++ [b.2] := by simp
theorem cl_rn : ∀ (p : P) (en : List (Bs × Bs)) (m : Nat), cl p (en.map (·.1)) → cl (rn vn p en m).1 (en.map (·.2))
  | .nil, _, _, _ => trivial
  | .cons k nm a b body els rest, en, m, hc => by
    unfold rn
    unfold cl at hc
    by_cases h1 : k = 1 ∨ k = 2
    · simp only [if_pos h1] at hc ⊢
      rw [cl, if_pos h1]
      refine ⟨okx_rn a hc.1, ?_⟩
      have := cl_rn rest (en ++ [(nm, vn m)]) (m + 1) (by rw [map_snoc1]; exact hc.2)
      rwa [map_snoc2] at this
    simp only [if_neg h1] at hc ⊢
    by_cases h3 : k = 3
    · simp only [if_pos h3] at hc ⊢
      rw [cl, if_neg h1, if_pos h3]
      exact ⟨⟨okx_rn a hc.1.1, okx_rn b hc.1.2⟩, cl_rn rest _ _ hc.2⟩
    simp only [if_neg h3] at hc ⊢
    by_cases h4 : k = 4 ∨ k = 5
    · simp only [if_pos h4] at hc ⊢
      rw [cl, if_neg h1, if_neg h3, if_pos h4]
      exact ⟨cl_rn body _ _ hc.1, cl_rn rest _ _ hc.2⟩
    simp only [if_neg h4] at hc ⊢
    by_cases h6 : k = 6
    · simp only [if_pos h6] at hc ⊢
      rw [cl, if_neg h1, if_neg h3, if_neg h4, if_pos h6]
      exact ⟨⟨okx_rn a hc.1.1, cl_rn body _ _ hc.1.2.1, cl_rn els _ _ hc.1.2.2⟩, cl_rn rest _ _ hc.2⟩
    simp only [if_neg h6] at hc ⊢
    by_cases h7 : k = 7
    · simp only [if_pos h7] at hc ⊢
      rw [cl, if_neg h1, if_neg h3, if_neg h4, if_neg h6, if_pos h7]
      refine ⟨⟨⟨okx_rn a hc.1.1.1, okx_rn b hc.1.1.2⟩, ?_⟩, cl_rn rest _ _ hc.2⟩
      have := cl_rn body (en ++ [(nm, vn m)]) (m + 1) (by rw [map_snoc1]; exact hc.1.2)
      rwa [map_snoc2] at this
    simp only [if_neg h7] at hc ⊢
    rw [cl, if_neg h1, if_neg h3, if_neg h4, if_neg h6, if_neg h7]
    exact cl_rn rest _ _ hc
theorem run_rn : ∀ (p : P) (en : List (Bs × Bs)) (m : Nat) (e e' : Env) (l : Nat) (M0 : M), cl p (en.map (·.1)) → par en e e' → nums en m → run (rn vn p en m).1 e' l M0 = run p e l M0
  | .nil, _, _, _, _, _, _, _, _, _ => rfl
  | .cons k nm a b body els rest, en, m, e, e', l, M0, hc, h, hn => by
    unfold rn
    unfold cl at hc
    rw [run]
    by_cases h1 : k = 1
    · simp only [if_pos (Or.inl h1 : k = 1 ∨ k = 2)] at hc ⊢
      rw [run, if_pos h1, if_pos h1, ← evl_rn h a hc.1]
      exact run_rn rest _ _ _ _ _ _ (by rw [map_snoc1]; exact hc.2) (h.snoc hn nm _) (hn.snoc nm)
    by_cases h2 : k = 2
    · simp only [if_pos (Or.inr h2 : k = 1 ∨ k = 2)] at hc ⊢
      rw [run, if_neg h1, if_pos h2, if_neg h1, if_pos h2, ← evl_rn h a hc.1]
      exact run_rn rest _ _ _ _ _ _ (by rw [map_snoc1]; exact hc.2) (h.snoc hn nm _) (hn.snoc nm)
    have h12 : ¬ (k = 1 ∨ k = 2) := by omega
    simp only [if_neg h12] at hc ⊢
    by_cases h3 : k = 3
    · simp only [if_pos h3] at hc ⊢
      rw [run, if_neg h1, if_neg h2, if_pos h3, if_neg h1, if_neg h2, ← evl_rn h a hc.1.1, ← evl_rn h b hc.1.2]
      exact run_rn rest _ _ _ _ _ _ hc.2 h hn
    simp only [if_neg h3] at hc ⊢
    by_cases h4 : k = 4 ∨ k = 5
    · simp only [if_pos h4] at hc ⊢
      rw [run, if_neg h1, if_neg h2, if_neg h3, if_pos h4, if_neg h1, if_neg h2, labels_rn, run_rn body _ _ _ _ _ _ hc.1 h hn]
      exact run_rn rest _ _ _ _ _ _ hc.2 h (hn.mono (rn_grow body _ _))
    simp only [if_neg h4] at hc ⊢
    by_cases h6 : k = 6
    · simp only [if_pos h6] at hc ⊢
      have hn1 := hn.mono (rn_grow body en m)
      have hn2 := hn1.mono (rn_grow els en _)
      rw [run, if_neg h1, if_neg h2, if_neg h3, if_neg h4, if_pos h6, if_neg h1, if_neg h2, labels_rn, labels_rn, run_rn body _ _ _ _ _ _ hc.1.2.1 h hn, run_rn els _ _ _ _ _ _ hc.1.2.2 h hn1, ← evl_rn h a hc.1.1]
      exact run_rn rest _ _ _ _ _ _ hc.2 h hn2
    simp only [if_neg h6] at hc ⊢
    by_cases h7 : k = 7
    · simp only [if_pos h7] at hc ⊢
      rw [run, if_neg h1, if_neg h2, if_neg h3, if_neg h4, if_neg h6, if_pos h7, if_neg h1, if_neg h2, labels_rn, ← evl_rn h a hc.1.1.1, ← evl_rn h b hc.1.1.2]
      rw [iter_congr (fun i M1 => run_rn body _ _ _ _ _ _ (by rw [map_snoc1]; exact hc.1.2) (h.snoc hn nm i) (hn.snoc nm))]
      exact run_rn rest _ _ _ _ _ _ hc.2 h (hn.mono (Nat.le_trans (Nat.le_succ _) (rn_grow body _ _)))
    simp only [if_neg h7] at hc ⊢
    rw [run, if_neg h1, if_neg h2, if_neg h3, if_neg h4, if_neg h6, if_neg h7, if_neg h1, if_neg h2]
    exact run_rn rest _ _ _ _ _ _ hc h hn
theorem same_law (p : P) (h : free p = []) : free (rename vn p) = [] ∧ ∀ M0, run (rename vn p) [] 0 M0 = run p [] 0 M0 := by
  rw [free_nil] at h
  exact ⟨(free_nil _).2 (cl_rn p [] 0 h), fun M0 => run_rn p [] 0 [] [] 0 M0 h (fun s t ht => by cases ht) (fun b hb => by cases hb)⟩
end Go.Proofs.YtdhjfckckghicaaDoor.Sr


namespace Go.Proofs.YtdhjfckckghicaaDoor
set_option linter.unusedVariables false
set_option linter.unusedSimpArgs false
set_option maxRecDepth 100000
open Go.RowKit

def strs (l : List ByteArray) : List Value := l.map Value.string
theorem strs_length (l : List ByteArray) : (strs l).length = l.length := by simp [strs]
theorem strs_get (l : List ByteArray) (i : Nat) (x : ByteArray) (h : l[i]? = some x) : (strs l)[i]? = some (.string x) := by simp [strs, h]
theorem strs_one (l : List ByteArray) : ∀ u ∈ strs l, u.oneCell' = true := by
  intro u hu
  obtain ⟨x, -, rfl⟩ := List.mem_map.1 hu
  rfl
theorem Cells.str {w : World} {B : Nat} {A : Option Addr} {xs : List ByteArray} (h : Cells w B A (strs xs)) {k : Nat} {x : ByteArray} (hx : xs[k]? = some x) :
    ∃ b o, A = some ⟨b, o, none⟩ ∧ b < B ∧ w.cell? ⟨b, o + k, none⟩ = some (.string x) := by
  have g := strs_get xs k x hx
  obtain ⟨b, o, hA, hb, hc⟩ := h.at_ (fun e => by rw [e] at g; simp at g)
  exact ⟨b, o, hA, hb, hc _ _ g⟩
theorem index_str (v : Value) (xs : List ByteArray) (s : ByteArray) (w : World) (h : SlV w 1 v xs.length (strs xs)) :
    Calls Tryd.prog 53 #[v, .string s] w fun e w' => (∃ z : Int, e = .returned (.int .i64 z) ∧ decide (0 ≤ z) = Ex.has s xs) ∧ ∃ m, w' = w.drewN m := by
  obtain ⟨A, c, rfl, hle, hm, hlen, hc⟩ := h
  clear hlen
  unfold maxLen at hm
  go_enter Tryd.func53, Tryd.ntmps53
  go_wp2
  go_loopw [8] (fun i wr => ∃ k : Nat, k ≤ xs.length ∧ i = .int .i64 k ∧ (∃ a, wr = w.drewN a) ∧ (xs.take k).any (fun x => s.toList == x.toList) = false) (fun i _ => xs.length - (intOf i).toNat)
  case atStart => exact ⟨0, Nat.zero_le _, rfl, ⟨0, rfl⟩, rfl⟩
  case round =>
    obtain ⟨k, hk, rfl, ⟨a, rfl⟩, ht⟩ := hrel
    have HT := Lib.hid ht
    clear ht
    by_cases hlt : k < xs.length
    · obtain ⟨x, hx⟩ : ∃ x, xs[k]? = some x := ⟨_, List.getElem?_eq_getElem hlt⟩
      obtain ⟨b, o, rfl, hb, hcc⟩ := hc.str hx
      have HX := Lib.hid hx
      clear hc hx
      rcases hq : (s.toList == x.toList) with _ | _
      · go_wp2
        go_roundw
        case rel => exact ⟨k + 1, by omega, by go_num, ⟨_, rfl⟩, by
          obtain ⟨h', hx'⟩ := List.getElem?_eq_some_iff.1 HX.out
          rw [List.take_succ_eq_append_getElem h', List.any_append, HT.out, hx']
          simp [hq]⟩
        case measure => simp [intOf]; omega
      · go_wp2
        go_ret
        exact ⟨⟨_, rfl, by
          have : Ex.has s xs = true := List.any_eq_true.2 ⟨x, List.mem_of_getElem? HX.out, hq⟩
          rw [this]
          simp⟩, ⟨_, rfl⟩⟩
    · have HK := Lib.hid (show k = xs.length by omega)
      clear hc
      go_wp2
      go_ret
      exact ⟨⟨_, rfl, by
        have := HT.out
        rw [HK.out, List.take_length] at this
        show _ = Ex.has s xs
        unfold Ex.has
        rw [this]
        rfl⟩, ⟨_, rfl⟩⟩

theorem contains_str (v : Value) (xs : List ByteArray) (s : ByteArray) (w : World) (h : SlV w 1 v xs.length (strs xs)) :
    Calls Tryd.prog 43 #[v, .string s] w fun e w' => e = .returned (.bool (Ex.has s xs)) ∧ ∃ m, w' = w.drewN m := by
  have hi := index_str v xs s w h
  obtain ⟨A, c, rfl, hle, hm, hlen, hc⟩ := h
  clear hlen hc hm hle
  go_enter Tryd.func43, Tryd.ntmps43
  go_wp2_with fail
  refine hi.mono ?_
  rintro e w1 ⟨⟨z, rfl, hz⟩, m, rfl⟩
  have HZ := Lib.hid hz
  clear hz hi
  go_wp2
  go_ret
  exact ⟨ret_bool HZ.out, m, rfl⟩
end Go.Proofs.YtdhjfckckghicaaDoor


namespace Go.Proofs.YtdhjfckckghicaaDoor
set_option linter.unusedVariables false
set_option linter.unusedSimpArgs false
set_option maxRecDepth 100000
open Go.RowKit Go.Shelf

attribute [local go_sem] Oper.semAt_some

namespace Sr
open Ex
/-- what has come, m being left: downward -/
def dn (n m : Nat) : List (Fin n) := ((List.finRange n).drop m).reverse
theorem dn_all (n : Nat) : dn n n = [] := by simp [dn]
theorem dn_succ (n m : Nat) (h : m < n) : dn n m = dn n (m + 1) ++ [⟨m, h⟩] := by
  unfold dn
  rw [List.drop_eq_getElem_cons (by simpa using h)]
  simp
theorem dn_length (n m : Nat) : (dn n m).length = n - m := by simp [dn]
theorem mem_dn {n m : Nat} {x : Fin n} (h : m ≤ x.1) : x ∈ dn n m := by
  unfold dn
  rw [List.mem_reverse, List.mem_iff_getElem]
  refine ⟨x.1 - m, by simp; omega, ?_⟩
  simp only [List.getElem_drop, List.getElem_finRange]
  ext
  simp
  omega
theorem dn_last {n m : Nat} {ini : List (Fin n)} {x : Fin n} (hm : m ≤ n) (h : dn n m = ini ++ [x]) : x.1 = m ∧ ini = dn n (m + 1) := by
  have hl := congrArg List.length h
  rw [dn_length, List.length_append, List.length_singleton] at hl
  rw [dn_succ n m (by omega)] at h
  obtain ⟨h1, h2⟩ := List.append_inj' h rfl
  simp only [List.cons.injEq, and_true] at h2
  exact ⟨by rw [← h2], h1.symm⟩
theorem find_append (s : Bs) : ∀ (l r : List (Bs × Bs)), find s (l ++ r) = match find s r with | some t => some t | none => find s l
  | [], r => by rw [List.nil_append]; rcases find s r with _ | t <;> rfl
  | b :: l, r => by
    rw [List.cons_append, find, find_append s l r, find]
    rcases find s r with _ | t <;> rfl
theorem find_at {s : Bs} {en : List (Bs × Bs)} {m : Nat} (h : m < en.length) (hm : (en[m].1 == s) = true) (hr : ∀ (j : Nat) (hj : j < en.length), m < j → (en[j].1 == s) = false) : find s en = some en[m].2 := by
  have e : en = en.take m ++ en[m] :: en.drop (m + 1) := by rw [List.getElem_cons_drop, List.take_append_drop]
  have hn : find s (en.drop (m + 1)) = none := find_none.2 fun hs => by
    obtain ⟨b, hb, rfl⟩ := List.mem_map.1 hs
    obtain ⟨j, hj, rfl⟩ := List.mem_iff_getElem.1 hb
    rw [List.length_drop] at hj
    have := hr (m + 1 + j) (by omega) (by omega)
    rw [List.getElem_drop] at this
    simp at this
  exact (congrArg (find s) e).trans (by rw [find_append, find, hn]; simp [hm])
theorem find_no {s : Bs} {en : List (Bs × Bs)} (hr : ∀ (j : Nat) (hj : j < en.length), (en[j].1 == s) = false) : find s en = none := find_none.2 fun hs => by
  obtain ⟨b, hb, rfl⟩ := List.mem_map.1 hs
  obtain ⟨j, hj, rfl⟩ := List.mem_iff_getElem.1 hb
  have := hr j hj
  simp at this
theorem olds_length (en : List (Bs × Bs)) : (olds en).length = en.length := by simp [olds]
theorem nows_length (en : List (Bs × Bs)) : (nows en).length = en.length := by simp [nows]
theorem olds_beq (en : List (Bs × Bs)) (s : ByteArray) (j : Nat) (h : j < (olds en).length) (h' : j < en.length) : ((olds en)[j].toList == s.toList) = (en[j].1 == s.data.toList) := by
  simp [olds, ba, ByteArray.toList_eq]
theorem find_dn_none (s : ByteArray) (en : List (Bs × Bs)) (h : ∀ p ∈ dn (olds en).length 0, ((olds en)[p.1].toList == s.toList) = false) : find s.data.toList en = none := find_no fun j hj => by
  have hj' : j < (olds en).length := by rwa [olds_length]
  rw [← olds_beq en s j hj' hj]
  exact h ⟨j, hj'⟩ (mem_dn (Nat.zero_le _))
theorem find_dn_some (s : ByteArray) (en : List (Bs × Bs)) (m : Nat) (hm : m ≤ (olds en).length) (ini : List (Fin (olds en).length)) (x : Fin (olds en).length) (e : dn (olds en).length m = ini ++ [x]) (hx : ((olds en)[x.1].toList == s.toList) = true)
    (hi : ∀ p ∈ ini, ((olds en)[p.1].toList == s.toList) = false) (hy : x.1 < (nows en).length) : find s.data.toList en = some (nows en)[x.1].data.toList := by
  obtain ⟨e1, e2⟩ := dn_last hm e
  have hl : x.1 < en.length := by rwa [nows_length] at hy
  rw [olds_beq en s x.1 x.2 hl] at hx
  rw [find_at hl hx fun j hj hlt => by
    have hj' : j < (olds en).length := by rwa [olds_length]
    rw [← olds_beq en s j hj' hj]
    refine hi ⟨j, hj'⟩ ?_
    rw [e2]
    exact mem_dn (by show m + 1 ≤ j; omega)]
  simp [nows, ba]
end Sr

/-- the closure -/
theorem sback1_in (F : Fence) (n : Nat) (hF : F.fn 49) (hro : F.round = none) (hn : 1 ≤ n) (l Bs n₀ cap : Nat) (A : Option Addr) (zs : List ByteArray) (hreach : zs.length ≤ 8796093022200) (J Jx : List (Fin zs.length) → World → Prop)
    (hY : ∀ pre x W, J pre W → pre.length < zs.length → YieldAt F (n - 1) Tryd.prog l #[.int .i64 (x.1 : Int), .string (zs.get x)] W fun e W' =>
      (e = .returned (.bool true) ∧ J (pre ++ [x]) W' ∧ Below n₀ W W') ∨ (e = .returned (.bool false) ∧ Jx (pre ++ [x]) W'))
    (W : World) (hB : Bs < n₀) (hBs : W.cell? ⟨Bs, 0, none⟩ = some (.slice A zs.length cap)) (hc : Cells W n₀ A (strs zs)) (h0 : J [] W) :
    CallsIn F n Tryd.prog 49 #[.func (.yield l) #[] #[], .pointer (some ⟨Bs, 0, none⟩)] W fun e W' => (∃ v, e = .returned v) ∧
      ((J (Sr.dn zs.length 0) W') ∨ (∃ m, m ≤ zs.length ∧ Jx (Sr.dn zs.length m) W')) := by
  refine callsIn_of_wp Tryd.func49 rfl hF ?_ hro
  simp only [Tryd.ntmps49, List.size_toArray, List.length_cons, List.length_nil, Nat.reduceAdd, Nat.reduceSub, Array.replicate_succ, Array.replicate_zero, List.push_toArray, List.append_toArray, List.nil_append, List.cons_append]
  gi_wp2
  gi_loopw [3] (fun i wr => ∃ m : Nat, m ≤ zs.length ∧ i = .int .i64 ((m : Int) - 1) ∧ J (Sr.dn zs.length m) wr ∧ Below n₀ W wr)
    (fun i _ => (intOf i + 1).toNat)
  case atStart => exact ⟨zs.length, Nat.le_refl _, rfl, by rw [Sr.dn_all]; exact h0, Below.refl _ _⟩
  case round =>
    obtain ⟨m, hm, rfl, hJs, hnx⟩ := hrel
    have hbx := (hnx.cell (p := ⟨Bs, 0, none⟩) hB).trans hBs
    match m, hm, hJs with
    | 0, _, hJs =>
      gi_wp2
      go_end0
      exact ⟨⟨_, rfl⟩, .inl hJs⟩
    | m + 1, hm, hJs =>
      have hx : zs[m]? = some zs[m] := List.getElem?_eq_getElem hm
      obtain ⟨b, off, rfl, hb, hc0⟩ := hc.str hx
      have hcx0 := (hnx.cell (p := ⟨b, off + m, none⟩) hb).trans hc0
      clear hc0 hx
      rw [show ((m + 1 : Nat) : Int) - 1 = (m : Int) by omega] at *
      obtain ⟨fn, tmps, assign, body, hy, hR⟩ := hY _ ⟨m, hm⟩ wr hJs (by rw [Sr.dn_length]; omega)
      simp only [List.get_eq_getElem] at hy
      rw [← Sr.dn_succ zs.length m hm] at hR
      gi_wp2
      refine hR.mono ?_
      rintro e W3 (⟨rfl, hJ3, hk3⟩ | ⟨rfl, hJx3⟩)
      · gi_wp2
        go_roundw
        case rel => exact ⟨m, by omega, by simp, hJ3, hnx.trans hk3⟩
        case measure => simp [intOf]
      · gi_wp2
        refine bodyPost_ret (results_none rfl _ _ _) rfl ?_
        exact ⟨⟨_, rfl⟩, .inr ⟨m, by omega, hJx3⟩⟩

/-- slices.Backward: the slice is boxed -/
theorem sback_in (F : Fence) (n : Nat) (hF : F.fn 40) (hro : F.round = none) (a : Option Addr) (len cap : Nat) (w : World) :
    CallsIn F n Tryd.prog 40 #[.slice a len cap] w fun e w' => e = .returned (.func (.func 49) #[] #[.pointer (some ⟨w.heap.size, 0, none⟩)]) ∧ w' = w.alloc (.cells #[.slice a len cap] 25) := by
  refine callsIn_of_wp Tryd.func40 rfl hF ?_ hro
  simp only [Tryd.ntmps40, List.size_toArray, List.length_cons, List.length_nil, Nat.reduceAdd, Nat.reduceSub, Array.replicate_succ, Array.replicate_zero, List.push_toArray, List.append_toArray, List.nil_append, List.cons_append]
  gi_wp2
  go_ret
  exact ⟨rfl, rfl⟩

/-- .. and hands back what goes down the slice -/
theorem sback_stops (F : Fence) (n : Nat) (hF : F.fn 49) (hro : F.round = none) (hn : 1 ≤ n) (Bs n₀ cap : Nat) (A : Option Addr) (zs : List ByteArray) (hreach : zs.length ≤ 8796093022200) (w : World) (hB : Bs < n₀) (hn₀ : n₀ ≤ w.heap.size)
    (hb : w.cell? ⟨Bs, 0, none⟩ = some (.slice A zs.length cap)) (hc : Cells w n₀ A (strs zs)) :
    SeqStopsK F n Tryd.prog 49 #[.pointer (some ⟨Bs, 0, none⟩)] (fun x : Fin zs.length => #[Value.int .i64 (x.1 : Int), .string (zs.get x)]) (Below n₀) (fun ys => ys = Sr.dn zs.length 0)
      (fun pre => ∃ m, m ≤ zs.length ∧ pre = Sr.dn zs.length m) zs.length w := fun l J Jx W hW _ _ hY h0 => by
  have hW' := hW.mono hn₀
  have hb' := (hW'.cell (p := ⟨Bs, 0, none⟩) hB).trans hb
  have hc' := hc.keep (Nat.le_refl _) (fun p hp => hW'.cell hp)
  refine (sback1_in F n hF hro hn l Bs n₀ cap A zs hreach J Jx hY W hB hb' hc' h0).mono ?_
  rintro e W' ⟨he, hj | ⟨m, hm, hj⟩⟩
  · exact ⟨he, .inl ⟨_, rfl, hj⟩⟩
  · exact ⟨he, .inr ⟨_, ⟨m, hm, rfl⟩, hj⟩⟩
end Go.Proofs.YtdhjfckckghicaaDoor


namespace Go.Proofs.YtdhjfckckghicaaDoor
set_option linter.unusedVariables false
set_option linter.unusedSimpArgs false
set_option maxRecDepth 100000
open Go.ChangeShapes Go.WideShapes Go.ChangeAt Go.RowKit

/-- a statement's twelve cells -/
def stcells (k : Int) (nm : ByteArray) (ca cb : List Value) (B : Option Addr) (bl bc : Nat) (E : Option Addr) (el ec : Nat) : List Value :=
  [.int .i64 k, .string nm] ++ ca ++ cb ++ [.slice B bl bc, .slice E el ec]

/-- what lies behind an address, read as n statements -/
inductive PR (B : Nat) (w : World) : Option Addr → Nat → St.P → Prop
  | nil (A : Option Addr) : PR B w A 0 .nil
  | cons (g o n : Nat) (k : Int) (nm : ByteArray) (ca cb : List Value) (ea eb : Ex.X) (D : Option Addr) (dl dc : Nat) (E : Option Addr) (el ec : Nat) (body els rest : St.P) : g < B → dl ≤ dc → dc ≤ maxLen → el ≤ ec → ec ≤ maxLen →
      (∀ j u, (stcells k nm ca cb D dl dc E el ec)[j]? = some u → w.cell? ⟨g, o + j, none⟩ = some u) → XR B w ca ea → XR B w cb eb → PR B w D dl body → PR B w E el els → PR B w (some ⟨g, o + 12, none⟩) n rest →
      PR B w (some ⟨g, o, none⟩) (n + 1) (.cons k nm.data.toList ea eb body els rest)

theorem PR.length {B : Nat} {w : World} {A : Option Addr} {n : Nat} {p : St.P} (h : PR B w A n p) : n = p.length := by
  induction h with
  | nil A => rfl
  | cons g o n k nm ca cb ea eb D dl dc E el ec body els rest h1 h2 h3 h4 h5 h6 h7 h8 _ _ _ i1 i2 i3 => rw [St.P.length, i3]
theorem PR.keep {B B' : Nat} {w w' : World} {A : Option Addr} {n : Nat} {p : St.P} (h : PR B w A n p) (hB : B ≤ B') (hk : ∀ p : Addr, p.block < B → w'.cell? p = w.cell? p) : PR B' w' A n p := by
  induction h with
  | nil A => exact .nil A
  | cons g o n k nm ca cb ea eb D dl dc E el ec body els rest h1 h2 h3 h4 h5 h6 h7 h8 _ _ _ i1 i2 i3 =>
    exact .cons g o n k nm ca cb ea eb D dl dc E el ec body els rest (Nat.lt_of_lt_of_le h1 hB) h2 h3 h4 h5 (fun j u hu => (hk ⟨g, o + j, none⟩ h1).trans (h6 j u hu)) (h7.keep hB hk) (h8.keep hB hk) i1 i2 i3
theorem PR.later {B : Nat} {w w' : World} {A : Option Addr} {n : Nat} {p : St.P} (h : PR B w A n p) (hb : Below B w w') : PR B w' A n p := h.keep (Nat.le_refl _) (fun _ hp => hb.cell hp)
theorem PR.up {B B' : Nat} {w : World} {A : Option Addr} {n : Nat} {p : St.P} (h : PR B w A n p) (hB : B ≤ B') : PR B' w A n p := h.keep hB (fun _ _ => rfl)
theorem PR.alloc {B : Nat} {w : World} {A : Option Addr} {n : Nat} {p : St.P} (h : PR B w A n p) (hB : B ≤ w.heap.size) (o : Obj) : PR B (w.alloc o) A n p := h.later ((Below.refl _ _).alloc hB o)

theorem PR.step {B n : Nat} {w : World} {A : Option Addr} {q : St.P} (h : PR B w A (n + 1) q) : ∃ (g o : Nat) (k : Int) (nm : ByteArray) (ca cb : List Value) (ea eb : Ex.X) (D : Option Addr) (dl dc : Nat) (E : Option Addr) (el ec : Nat) (body els rest : St.P),
    A = some ⟨g, o, none⟩ ∧ q = .cons k nm.data.toList ea eb body els rest ∧ g < B ∧ (dl ≤ dc ∧ dc ≤ maxLen ∧ el ≤ ec ∧ ec ≤ maxLen) ∧ (∀ j u, (stcells k nm ca cb D dl dc E el ec)[j]? = some u → w.cell? ⟨g, o + j, none⟩ = some u) ∧
      XR B w ca ea ∧ XR B w cb eb ∧ PR B w D dl body ∧ PR B w E el els ∧ PR B w (some ⟨g, o + 12, none⟩) n rest := by
  cases h with
  | cons g o n k nm ca cb ea eb D dl dc E el ec body els rest h1 h2 h3 h4 h5 h6 h7 h8 h9 h10 h11 => exact ⟨g, o, k, nm, ca, cb, ea, eb, D, dl, dc, E, el, ec, body, els, rest, rfl, rfl, h1, ⟨h2, h3, h4, h5⟩, h6, h7, h8, h9, h10, h11⟩
theorem PR.zero {B : Nat} {w : World} {A : Option Addr} {q : St.P} (h : PR B w A 0 q) : q = .nil := by cases h; rfl
/-- a place for what lies behind an address -/
theorem PR.place {B n : Nat} {w : World} {A : Option Addr} {q : St.P} (h : PR B w A n q) : ∃ g o, (0 < n → A = some ⟨g, o, none⟩) ∧ PR B w (some ⟨g, o + 0 * 12, none⟩) (n - 0) q := by
  cases h with
  | nil => exact ⟨0, 0, fun h => by omega, .nil _⟩
  | cons g o n k nm ca cb ea eb D dl dc E el ec body els rest h1 h2 h3 h4 h5 h6 h7 h8 h9 h10 h11 =>
    exact ⟨g, o, fun _ => rfl, .cons g (o + 0 * 12) n k nm ca cb ea eb D dl dc E el ec body els rest h1 h2 h3 h4 h5 (by simpa using h6) h7 h8 h9 h10 (by simpa using h11)⟩
/-- the next one's twelve cells, one by one -/
theorem PR.next {B n k : Nat} {g o : Nat} {w : World} {q : St.P} (h : PR B w (some ⟨g, o + k * 12, none⟩) n q) (hn : 0 < n) : ∃ (kd : Int) (nm : ByteArray) (ak an bk bn : Int) (sa sb : ByteArray) (aA bA : Option Addr) (al ac bl bc : Nat) (ea eb : Ex.X) (D : Option Addr) (dl dc : Nat) (E : Option Addr) (el ec : Nat) (body els rest : St.P),
    q = .cons kd nm.data.toList ea eb body els rest ∧ g < B ∧ (dl ≤ dc ∧ dc ≤ maxLen ∧ el ≤ ec ∧ ec ≤ maxLen) ∧
      (∀ j u, (stcells kd nm (xcells ak an sa aA al ac) (xcells bk bn sb bA bl bc) D dl dc E el ec)[j]? = some u → w.cell? ⟨g, o + k * 12 + j, none⟩ = some u) ∧
      XR B w (xcells ak an sa aA al ac) ea ∧ XR B w (xcells bk bn sb bA bl bc) eb ∧ PR B w D dl body ∧ PR B w E el els ∧ PR B w (some ⟨g, o + (k + 1) * 12, none⟩) (n - 1) rest := by
  obtain ⟨m, rfl⟩ : ∃ m, n = m + 1 := ⟨n - 1, by omega⟩
  obtain ⟨g', o', kd, nm, ca, cb, ea, eb, D, dl, dc, E, el, ec, body, els, rest, hA, hq, h1, h2, h3, h4, h5, h6, h7, h8⟩ := h.step
  injection hA with hA
  injection hA with e1 e2
  subst e1 e2
  obtain ⟨ak, an, sa, aA, al, ac, rfl, -, -⟩ := h4.form
  obtain ⟨bk, bn, sb, bA, bl, bc, rfl, -, -⟩ := h5.form
  refine ⟨kd, nm, ak, an, bk, bn, sa, sb, aA, bA, al, ac, bl, bc, ea, eb, D, dl, dc, E, el, ec, body, els, rest, hq, h1, h2, h3, h4, h5, h6, h7, ?_⟩
  rw [Nat.add_mul, ← Nat.add_assoc, Nat.one_mul]
  exact h8

/-! ### an argument -/
theorem St.bulk_all {H : Type} (a : DataW H) (l : List (DataW H)) : Rows.uptoBulkAll (a :: l) = Rows.uptoBulk a + Rows.uptoBulkAll l := by rw [Rows.uptoBulkAll]

/-- a statement, its lists of statements being opened -/
theorem open_stmt {H : Type} {enc : TypeId × Value → H} {w : World} (fuel : Nat)
    (ih : ∀ nn, nn < fuel → ∀ (v : Value) (x : DataW H × List MemPlace), DataW.trod enc Tryd.prog w 0 (fun _ => true) true nn 22 [v] = some x → (∀ p ∈ x.2, p.block < w.heap.size) →
      ∃ A n c p, v = .slice A n c ∧ n ≤ c ∧ c ≤ maxLen ∧ PR w.heap.size w A n p ∧ p.size ≤ Rows.uptoBulk x.1)
    (cs : List Value) (x : DataW H × List MemPlace) (h : DataW.trod enc Tryd.prog w 0 (fun _ => true) true fuel 36 cs = some x) (hlt : ∀ p ∈ x.2, p.block < w.heap.size) :
    ∃ (k : Int) (nm : ByteArray) (ca cb : List Value) (ea eb : Ex.X) (D : Option Addr) (dl dc : Nat) (E : Option Addr) (el ec : Nat) (body els : St.P), cs = stcells k nm ca cb D dl dc E el ec ∧ dl ≤ dc ∧ dc ≤ maxLen ∧ el ≤ ec ∧ ec ≤ maxLen ∧
      XR w.heap.size w ca ea ∧ XR w.heap.size w cb eb ∧ PR w.heap.size w D dl body ∧ PR w.heap.size w E el els ∧ 1 + ea.leaves + eb.leaves + body.size + els.size ≤ Rows.uptoBulk x.1 := by
  have hT : Tryd.prog.underlying 36 = some (.struct (fieldsOf Tryd.prog 36)) := by kernel_rfl
  obtain ⟨xs, m, rfl, rfl, hl, hxl, hfs⟩ := DataW.trod_struct hT h
  have q0 : (fieldsOf Tryd.prog 36)[0]?.map (fun f => (f.type, f.offset)) = some (3, 0) := by kernel_rfl
  have q1 : (fieldsOf Tryd.prog 36)[1]?.map (fun f => (f.type, f.offset)) = some (9, 1) := by kernel_rfl
  have q2 : (fieldsOf Tryd.prog 36)[2]?.map (fun f => (f.type, f.offset)) = some (33, 2) := by kernel_rfl
  have q3 : (fieldsOf Tryd.prog 36)[3]?.map (fun f => (f.type, f.offset)) = some (33, 6) := by kernel_rfl
  have q4 : (fieldsOf Tryd.prog 36)[4]?.map (fun f => (f.type, f.offset)) = some (22, 10) := by kernel_rfl
  have q5 : (fieldsOf Tryd.prog 36)[5]?.map (fun f => (f.type, f.offset)) = some (22, 11) := by kernel_rfl
  have hsz : (fieldsOf Tryd.prog 36).size = 6 := by kernel_rfl
  obtain ⟨f0, g0, p0⟩ := Option.map_eq_some_iff.1 q0
  obtain ⟨f1, g1, p1⟩ := Option.map_eq_some_iff.1 q1
  obtain ⟨f2, g2, p2⟩ := Option.map_eq_some_iff.1 q2
  obtain ⟨f3, g3, p3⟩ := Option.map_eq_some_iff.1 q3
  obtain ⟨f4, g4, p4⟩ := Option.map_eq_some_iff.1 q4
  obtain ⟨f5, g5, p5⟩ := Option.map_eq_some_iff.1 q5
  injection p0 with p0 p0'
  injection p1 with p1 p1'
  injection p2 with p2 p2'
  injection p3 with p3 p3'
  injection p4 with p4 p4'
  injection p5 with p5 p5'
  have h0 := hfs 0 f0 g0
  have h1 := hfs 1 f1 g1
  have h2 := hfs 2 f2 g2
  have h3 := hfs 3 f3 g3
  have h4 := hfs 4 f4 g4
  have h5 := hfs 5 f5 g5
  have c0 : Tryd.prog.cellsOf 3 = 1 := by kernel_rfl
  have c1 : Tryd.prog.cellsOf 9 = 1 := by kernel_rfl
  have c2 : Tryd.prog.cellsOf 33 = 4 := by kernel_rfl
  have c4 : Tryd.prog.cellsOf 22 = 1 := by kernel_rfl
  have cT : Tryd.prog.cellsOf 36 = 12 := by kernel_rfl
  rw [p0, p0', c0] at h0
  rw [p1, p1', c1] at h1
  rw [p2, p2', c2] at h2
  rw [p3, p3', c2] at h3
  rw [p4, p4', c4] at h4
  rw [p5, p5', c4] at h5
  rw [cT] at hl
  rw [hsz] at hxl
  match xs, hxl, cs, hl with
  | [x0, x1, x2, x3, x4, x5], _, [v0, v1, v2, v3, v4, v5, v6, v7, v8, v9, v10, v11], _ =>
    simp only [List.drop_succ_cons, List.drop_zero, List.take_succ_cons, List.take_zero, List.getElem?_cons_zero, List.getElem?_cons_succ] at h0 h1 h2 h3 h4 h5
    have hlt2 : ∀ p ∈ x2.2, p.block < w.heap.size := fun p hp => hlt p (by simp [hp])
    have hlt3 : ∀ p ∈ x3.2, p.block < w.heap.size := fun p hp => hlt p (by simp [hp])
    have hlt4 : ∀ p ∈ x4.2, p.block < w.heap.size := fun p hp => hlt p (by simp [hp])
    have hlt5 : ∀ p ∈ x5.2, p.block < w.heap.size := fun p hp => hlt p (by simp [hp])
    obtain ⟨k, hk, -, hwk⟩ := DataW.trod_int Tryd.underlying3 h0
    obtain ⟨s, hs, -, hws⟩ := DataW.trod_string Tryd.underlying9 h1
    simp only [List.cons.injEq, and_true] at hk hs
    subst hk hs
    obtain ⟨ea, ra, ba⟩ := open_expr _ _ _ h2 hlt2
    obtain ⟨eb, rb, bb⟩ := open_expr _ _ _ h3 hlt3
    obtain ⟨D, dl, dc, body, e4, hd1, hd2, hd3, hd4⟩ := ih _ (by omega) _ _ h4 hlt4
    obtain ⟨E, el, ec, els, e5, he1, he2, he3, he4⟩ := ih _ (by omega) _ _ h5 hlt5
    subst e4 e5
    refine ⟨k, s, _, _, ea, eb, D, dl, dc, E, el, ec, body, els, rfl, hd1, hd2, he1, he2, ra, rb, hd3, he3, ?_⟩
    have hb0 := Ex.bulk_pos x0.1
    simp only [List.map_cons, List.map_nil, Rows.uptoBulk, Rows.uptoBulkAll]
    omega

theorem open_stmts {H : Type} {enc : TypeId × Value → H} {w : World} : ∀ (fuel : Nat) (v : Value) (x : DataW H × List MemPlace), DataW.trod enc Tryd.prog w 0 (fun _ => true) true fuel 22 [v] = some x → (∀ p ∈ x.2, p.block < w.heap.size) →
    ∃ A n c p, v = .slice A n c ∧ n ≤ c ∧ c ≤ maxLen ∧ PR w.heap.size w A n p ∧ p.size ≤ Rows.uptoBulk x.1 := by
  intro fuel
  induction fuel using Nat.strongRecOn with
  | _ fuel ih =>
    intro v x h hlt
    have cT : Tryd.prog.cellsOf 36 = 12 := by kernel_rfl
    rcases DataW.trod_slice Tryd.underlying22 h with ⟨hcs, hx⟩ | ⟨a, len, cap, el, rest, nn, hnn, hcs, hx, -, hle, hm, hlen, hel, hsp, -⟩
    · simp only [List.cons.injEq, and_true] at hcs
      exact ⟨none, 0, 0, .nil, hcs, Nat.le_refl _, Nat.zero_le _, .nil _, Nat.zero_le _⟩
    · simp only [List.cons.injEq, and_true] at hcs
      obtain ⟨b, off, sp⟩ := a
      have kid : ∀ i, i < len → ∃ (y : DataW H × List MemPlace) (cs' : List Value), el[i]? = some y ∧ cs'.length = 12 ∧ (∀ j, j < 12 → w.cell? (((⟨b, off, sp⟩ : Addr).add (i * 12)).add j) = cs'[j]?) ∧ DataW.trod enc Tryd.prog w 0 (fun _ => true) true nn 36 cs' = some y ∧ (∀ p ∈ y.2, p.block < w.heap.size) := by
        intro i hi
        have h4 := hel i hi
        rw [cT, List.getElem?_eq_getElem (by omega)] at h4
        obtain ⟨cs', hc', htr⟩ := Option.bind_eq_some_iff.1 h4
        obtain ⟨hb0, hl5, hat⟩ := World.cells?_some hc'
        refine ⟨el[i], cs', List.getElem?_eq_getElem (by omega), hl5, hat, htr, fun p hp => hlt p ?_⟩
        rw [hx]
        exact List.mem_append_right _ (List.mem_flatMap.2 ⟨el[i], List.mem_append_left _ (List.getElem_mem _), hp⟩)
      by_cases h0 : len = 0
      · subst h0
        exact ⟨_, 0, cap, .nil, hcs, hle, hm, .nil _, Nat.zero_le _⟩
      have hsp0 : sp = none := by
        obtain ⟨y, cs', hy, hl5, hat, -, -⟩ := kid 0 (by omega)
        have := hat 0 (by decide)
        rw [List.getElem?_eq_getElem (by omega)] at this
        simpa [Addr.add] using World.cell?_spot this
      subst hsp0
      have hrd : ∀ m, m ≤ len → ∃ p, PR w.heap.size w (some ⟨b, off + (len - m) * 12, none⟩) m p ∧ p.size ≤ Rows.uptoBulkAll ((el.map (·.1)).drop (len - m)) := by
        intro m
        induction m with
        | zero => exact fun _ => ⟨.nil, .nil _, Nat.zero_le _⟩
        | succ m ihm =>
          intro hm'
          obtain ⟨p, hp1, hp2⟩ := ihm (by omega)
          obtain ⟨y, cs', hy, hl5, hat, htr, hlty⟩ := kid (len - (m + 1)) (by omega)
          obtain ⟨k, nm, ca, cb, ea, eb, D, dl, dc, E, el', ec, body, els, rfl, hd1, hd2, he1, he2, ra, rb, hd3, he3, hbk⟩ := open_stmt nn (fun n2 hn2 => ih n2 (by omega)) cs' y htr hlty
          have hat' : ∀ j u, (stcells k nm ca cb D dl dc E el' ec)[j]? = some u → w.cell? ⟨b, off + (len - (m + 1)) * 12 + j, none⟩ = some u := fun j u hu => by
            have hj : j < 12 := by
              have := (List.getElem?_eq_some_iff.1 hu).1
              omega
            have := hat j hj
            rw [Addr.add_lit, Addr.add_lit, hu] at this
            exact this
          refine ⟨.cons k nm.data.toList ea eb body els p, .cons b _ m k nm ca cb ea eb D dl dc E el' ec body els p (World.block_lt_of_cell? w _ (hat' 0 _ rfl)) hd1 hd2 he1 he2 hat' ra rb hd3 he3 ?_, ?_⟩
          · rw [show off + (len - (m + 1)) * 12 + 12 = off + (len - m) * 12 by
              rw [show len - m = (len - (m + 1)) + 1 by omega, Nat.add_mul]; omega]
            exact hp1
          · have hdr : (el.map (·.1)).drop (len - (m + 1)) = y.1 :: (el.map (·.1)).drop (len - m) := by
              have hlt' : len - (m + 1) < (el.map (·.1)).length := by rw [List.length_map]; omega
              rw [List.drop_eq_getElem_cons hlt', show len - (m + 1) + 1 = len - m by omega]
              congr 1
              rw [List.getElem_map]
              obtain ⟨h', e⟩ := List.getElem?_eq_some_iff.1 hy
              rw [e]
            rw [hdr, Rows.uptoBulkAll, St.P.size]
            omega
      obtain ⟨p, hp1, hp2⟩ := hrd len (Nat.le_refl _)
      rw [Nat.sub_self, Nat.zero_mul, Nat.add_zero] at hp1
      rw [Nat.sub_self, List.drop_zero] at hp2
      refine ⟨_, len, cap, p, hcs, hle, hm, hp1, ?_⟩
      rw [hx]
      simp only [Rows.uptoBulk]
      omega
end Go.Proofs.YtdhjfckckghicaaDoor


namespace Go.Proofs.YtdhjfckckghicaaDoor
set_option linter.unusedVariables false
set_option linter.unusedSimpArgs false
set_option maxRecDepth 100000
open Go.RowKit

/-- cells that read as n statements -/
inductive PC (B : Nat) (w : World) : List Value → Nat → St.P → Prop
  | nil : PC B w [] 0 .nil
  | cons (n : Nat) (k : Int) (nm : ByteArray) (ca cb : List Value) (ea eb : Ex.X) (D : Option Addr) (dl dc : Nat) (E : Option Addr) (el ec : Nat) (body els rest : St.P) (cs : List Value) : dl ≤ dc → dc ≤ maxLen → el ≤ ec → ec ≤ maxLen →
      XR B w ca ea → XR B w cb eb → PR B w D dl body → PR B w E el els → PC B w cs n rest → PC B w (stcells k nm ca cb D dl dc E el ec ++ cs) (n + 1) (.cons k nm.data.toList ea eb body els rest)

theorem stcells_length {B : Nat} {w : World} {k : Int} {nm : ByteArray} {ca cb : List Value} {ea eb : Ex.X} {D E : Option Addr} {dl dc el ec : Nat} (ha : XR B w ca ea) (hb : XR B w cb eb) : (stcells k nm ca cb D dl dc E el ec).length = 12 := by
  obtain ⟨_, _, _, _, _, _, rfl, -, -⟩ := ha.form
  obtain ⟨_, _, _, _, _, _, rfl, -, -⟩ := hb.form
  rfl
section
variable {B B' n : Nat} {w w' : World} {cs : List Value} {p : St.P}
theorem PC.length (h : PC B w cs n p) : cs.length = n * 12 := by
  induction h with
  | nil => rfl
  | cons n k nm ca cb ea eb D dl dc E el ec body els rest cs h1 h2 h3 h4 h5 h6 h7 h8 _ ih => rw [List.length_append, ih, stcells_length h5 h6]; omega
theorem PC.keep (h : PC B w cs n p) (hB : B ≤ B') (hk : ∀ p : Addr, p.block < B → w'.cell? p = w.cell? p) : PC B' w' cs n p := by
  induction h with
  | nil => exact .nil
  | cons n k nm ca cb ea eb D dl dc E el ec body els rest cs h1 h2 h3 h4 h5 h6 h7 h8 _ ih => exact .cons n k nm ca cb ea eb D dl dc E el ec body els rest cs h1 h2 h3 h4 (h5.keep hB hk) (h6.keep hB hk) (h7.keep hB hk) (h8.keep hB hk) ih
theorem PC.later (h : PC B w cs n p) (hb : Below B w w') : PC B w' cs n p := h.keep (Nat.le_refl _) fun _ hp => hb.cell hp
theorem PC.step (h : PC w.heap.size w cs n p) (hb : Below w.heap.size w w') : PC w'.heap.size w' cs n p := h.keep hb.size fun _ hp => hb.cell hp
theorem PR.step_ {A : Option Addr} (h : PR w.heap.size w A n p) (hb : Below w.heap.size w w') : PR w'.heap.size w' A n p := h.keep hb.size fun _ hp => hb.cell hp
theorem XR.step_ {ca : List Value} {e : Ex.X} (h : XR w.heap.size w ca e) (hb : Below w.heap.size w w') : XR w'.heap.size w' ca e := h.keep hb.size fun _ hp => hb.cell hp
theorem PC.append {cs' : List Value} {n' : Nat} {p' : St.P} (h : PC B w cs n p) (h' : PC B w cs' n' p') : PC B w (cs ++ cs') (n + n') (p ++ p') := by
  induction h with
  | nil => simpa [St.P.nil_append] using h'
  | cons n k nm ca cb ea eb D dl dc E el ec body els rest cs h1 h2 h3 h4 h5 h6 h7 h8 _ ih =>
    rw [St.P.cons_append, List.append_assoc, show n + 1 + n' = (n + n') + 1 by omega]
    exact .cons _ k nm ca cb ea eb D dl dc E el ec body els _ _ h1 h2 h3 h4 h5 h6 h7 h8 ih
theorem PC.one {k : Int} {nm : ByteArray} {ca cb : List Value} {ea eb : Ex.X} {D : Option Addr} {dl dc : Nat} {E : Option Addr} {el ec : Nat} {body els : St.P} (h : dl ≤ dc ∧ dc ≤ maxLen ∧ el ≤ ec ∧ ec ≤ maxLen) (h5 : XR B w ca ea) (h6 : XR B w cb eb) (h7 : PR B w D dl body) (h8 : PR B w E el els) : PC B w (stcells k nm ca cb D dl dc E el ec) 1 (.cons k nm.data.toList ea eb body els .nil) := by
  have := PC.cons 0 k nm ca cb ea eb D dl dc E el ec body els .nil [] h.1 h.2.1 h.2.2.1 h.2.2.2 h5 h6 h7 h8 .nil
  rwa [List.append_nil] at this
theorem PC.read (h : PC B w cs n p) (hB : B ≤ B') : ∀ (g o : Nat), (n ≠ 0 → g < B') → (∀ j u, cs[j]? = some u → w.cell? ⟨g, o + j, none⟩ = some u) → PR B' w (some ⟨g, o, none⟩) n p := by
  induction h with
  | nil => exact fun _ _ _ _ => .nil _
  | cons n k nm ca cb ea eb D dl dc E el ec body els rest cs h1 h2 h3 h4 h5 h6 h7 h8 _ ih =>
    intro g o hg hc
    refine .cons g o n k nm ca cb ea eb D dl dc E el ec body els rest (hg (by omega)) h1 h2 h3 h4 (fun j u hu => hc j u (by
      rw [List.getElem?_append_left (List.getElem?_eq_some_iff.1 hu).1]
      exact hu)) (h5.keep hB fun _ _ => rfl) (h6.keep hB fun _ _ => rfl) (h7.up hB) (h8.up hB) (ih g (o + 12) (fun _ => hg (by omega)) fun j u hu => ?_)
    have hl := stcells_length (k := k) (nm := nm) (D := D) (dl := dl) (dc := dc) (E := E) (el := el) (ec := ec) h5 h6
    have := hc (12 + j) u (by rw [List.getElem?_append_right (by omega), hl]; simpa using hu)
    rwa [← Nat.add_assoc] at this
theorem PC.of_cells {A : Option Addr} (h : PC B w cs n p) (hc : Cells w B' A cs) (hB : B ≤ B') : PR B' w A n p := by
  by_cases h0 : n = 0
  · subst h0
    cases h
    exact .nil _
  obtain ⟨b, o, rfl, hb, hc⟩ := hc.at_ (fun e => by have := h.length; rw [e] at this; simp at this; omega)
  exact h.read hB b o (fun _ => hb) hc
theorem PR.flat {A : Option Addr} (h : PR B w A n p) : ∃ cs, PC B w cs n p ∧ Cells w B A cs := by
  induction h with
  | nil A => exact ⟨[], .nil, Cells.nil _ _ _⟩
  | cons g o n k nm ca cb ea eb D dl dc E el ec body els rest h1 h2 h3 h4 h5 h6 h7 h8 h9 h10 _ _ _ ih =>
    obtain ⟨cs, hpc, hcc⟩ := ih
    refine ⟨_, .cons n k nm ca cb ea eb D dl dc E el ec body els rest cs h2 h3 h4 h5 h7 h8 h9 h10 hpc, g, o, fun _ => ⟨rfl, h1⟩, fun j u hu => ?_⟩
    have hl := stcells_length (k := k) (nm := nm) (D := D) (dl := dl) (dc := dc) (E := E) (el := el) (ec := ec) h7 h8
    by_cases hj : j < 12
    · rw [List.getElem?_append_left (by omega)] at hu
      exact h6 j u hu
    · rw [List.getElem?_append_right (by omega), hl] at hu
      obtain ⟨b, o', e, _, hc⟩ := hcc.at_ (fun e => by rw [e] at hu; simp at hu)
      injection e with e
      injection e with e1 e2
      subst e1 e2
      have := hc _ u hu
      rwa [show o + 12 + (j - 12) = o + j by omega] at this
end
theorem PC.one_cells {B n : Nat} {w : World} {cs : List Value} {p : St.P} (h : PC B w cs n p) : ∀ u ∈ cs, u.oneCell' = true := by
  induction h with
  | nil => intro u hu; cases hu
  | cons n k nm ca cb ea eb D dl dc E el ec body els rest cs h1 h2 h3 h4 h5 h6 h7 h8 _ ih =>
    intro u hu
    rcases List.mem_append.1 hu with hu | hu
    · obtain ⟨_, _, _, _, _, _, rfl, -, -⟩ := h5.form
      obtain ⟨_, _, _, _, _, _, rfl, -, -⟩ := h6.form
      simp [stcells, xcells] at hu
      rcases hu with rfl | rfl | rfl | rfl | rfl | rfl | rfl | rfl | rfl | rfl | rfl | rfl <;> rfl
    · exact ih u hu

/-- a slice of statements -/
def IsP (w : World) (v : Value) (p : St.P) : Prop := ∃ A n c, v = .slice A n c ∧ n ≤ c ∧ c ≤ maxLen ∧ PR w.heap.size w A n p
theorem IsP.step {w w' : World} {v : Value} {p : St.P} (h : IsP w v p) (hb : Below w.heap.size w w') : IsP w' v p := by
  obtain ⟨A, n, c, rfl, h1, h2, h3⟩ := h
  exact ⟨A, n, c, rfl, h1, h2, h3.step_ hb⟩
theorem IsP.nil (w : World) : IsP w (.slice none 0 0) .nil := ⟨none, 0, 0, rfl, Nat.le_refl _, Nat.zero_le _, .nil _⟩
theorem IsP.of_slv {w : World} {v : Value} {n : Nat} {cs : List Value} {p : St.P} (h : PC w.heap.size w cs n p) (hv : SlV w 12 v n cs) : IsP w v p := by
  obtain ⟨A, c, rfl, h1, h2, -, h3⟩ := hv
  exact ⟨A, n, c, rfl, h1, h2, h.of_cells h3 (Nat.le_refl _)⟩
theorem IsP.of_blk {w : World} {g : Nat} {t : TypeId} {n : Nat} {cs : List Value} {p : St.P} (h : PC w.heap.size w cs n p) (hb : Blk w g t cs) (hn : n ≤ 1000) : IsP w (.slice (some ⟨g, 0, none⟩) n n) p :=
  ⟨_, n, n, rfl, Nat.le_refl _, by unfold maxLen; omega, h.read (Nat.le_refl _) g 0 (fun _ => hb.lt) fun j u hu => by rw [Nat.zero_add, hb.cell]; exact hu⟩
/-- a row of the call's own abides where only other blocks are turned -/
theorem info_stmt : (Tryd.prog.info? 36).map (fun i => (i.zero, i.size, i.bytes)) = some (some (.agg #[.int .i64 0, .string ⟨#[]⟩, .int .i64 0, .int .i64 0, .string ⟨#[]⟩, .slice none 0 0, .int .i64 0, .int .i64 0, .string ⟨#[]⟩, .slice none 0 0, .slice none 0 0, .slice none 0 0]), 12, 184) := by kernel_rfl
theorem IsP.lit {w : World} {cs : List Value} {n : Nat} {p : St.P} (h : PC w.heap.size w cs n p) (hn : n ≤ 1000) : IsP (w.alloc (.cells cs.toArray 36)) (.slice (some ⟨w.heap.size, 0, none⟩) n n) p :=
  IsP.of_blk (PC.keep h (by simp) fun a ha => (below_alloc (Below.refl w.heap.size w) (.cells cs.toArray 36)).cell ha) (Blk.new w 36 cs) hn
end Go.Proofs.YtdhjfckckghicaaDoor


namespace Go.Proofs.YtdhjfckckghicaaDoor
set_option linter.unusedVariables false
set_option linter.unusedSimpArgs false
set_option maxRecDepth 100000
open Go.RowKit

open Classical in
/-- those blocks alone -/
noncomputable def only (w : World) (S : Nat → Prop) : World := { w with heap := w.heap.mapIdx fun i o => if S i then o else .cells #[] 0 (0, 0) }
theorem only_size (w : World) (S : Nat → Prop) : (only w S).heap.size = w.heap.size := by simp [only]
theorem only_some {w : World} {S : Nat → Prop} {p : Addr} {v : Value} : (only w S).cell? p = some v ↔ S p.block ∧ w.cell? p = some v := by
  unfold World.cell? only
  simp only [Array.getElem?_mapIdx]
  rcases h : w.heap[p.block]? with _ | o
  · simp
  · by_cases hs : S p.block
    · simp [hs]
    · simp [hs]

section
variable {S S' : Nat → Prop} {B B' n : Nat} {w w' : World} {cs : List Value} {A : Option Addr} {p : St.P}
theorem XRN.mono {N : Bool} {e : Ex.X} (h : XRN N B w cs e) (hB : B ≤ B') (hk : ∀ (p : Addr) (v : Value), p.block < B → w.cell? p = some v → w'.cell? p = some v) : XRN N B' w' cs e := by
  induction h with
  | num n s A len cap h1 h2 h3 hN => exact .num n s A len cap h1 h2 h3 hN
  | name n s A len cap h1 h2 hN => exact .name n s A len cap h1 h2 hN
  | bad k n s A len cap h1 h2 h3 h4 h5 hN => exact .bad k n s A len cap h1 h2 h3 h4 h5 hN
  | two k n s g o len cap cs0 cs1 e0 e1 h1 h2 h3 h4 h5 h6 h7 h8 _ _ hN i0 i1 =>
    exact .two k n s g o len cap cs0 cs1 e0 e1 h1 h2 h3 h4 h5 (Nat.lt_of_lt_of_le h6 hB) (fun j u hu => hk ⟨g, o + j, none⟩ u h6 (h7 j u hu)) (fun j u hu => hk ⟨g, o + 4 + j, none⟩ u h6 (h8 j u hu)) i0 i1 hN
theorem PR.mono (h : PR B w A n p) (hB : B ≤ B') (hk : ∀ (p : Addr) (v : Value), p.block < B → w.cell? p = some v → w'.cell? p = some v) : PR B' w' A n p := by
  induction h with
  | nil A => exact .nil A
  | cons g o n k nm ca cb ea eb D dl dc E el ec body els rest h1 h2 h3 h4 h5 h6 h7 h8 _ _ _ i1 i2 i3 =>
    exact .cons g o n k nm ca cb ea eb D dl dc E el ec body els rest (Nat.lt_of_lt_of_le h1 hB) h2 h3 h4 h5 (fun j u hu => hk ⟨g, o + j, none⟩ u h1 (h6 j u hu)) (h7.mono hB hk) (h8.mono hB hk) i1 i2 i3
theorem PC.mono (h : PC B w cs n p) (hB : B ≤ B') (hk : ∀ (p : Addr) (v : Value), p.block < B → w.cell? p = some v → w'.cell? p = some v) : PC B' w' cs n p := by
  induction h with
  | nil => exact .nil
  | cons n k nm ca cb ea eb D dl dc E el ec body els rest cs h1 h2 h3 h4 h5 h6 h7 h8 _ ih => exact .cons n k nm ca cb ea eb D dl dc E el ec body els rest cs h1 h2 h3 h4 (h5.mono hB hk) (h6.mono hB hk) (h7.mono hB hk) (h8.mono hB hk) ih

/-- read, in those blocks alone -/
def XS (S : Nat → Prop) (w : World) (cs : List Value) (e : Ex.X) : Prop := XR w.heap.size (only w S) cs e
def PS (S : Nat → Prop) (w : World) (A : Option Addr) (n : Nat) (p : St.P) : Prop := PR w.heap.size (only w S) A n p
def CS (S : Nat → Prop) (w : World) (cs : List Value) (n : Nat) (p : St.P) : Prop := PC w.heap.size (only w S) cs n p

theorem only_up {r : Option Nat} (hg : w.grownBy w' r) (hS : ∀ g, g < w.heap.size → S g → S' g ∧ some g ≠ r) : ∀ (p : Addr) (v : Value), p.block < w.heap.size → (only w S).cell? p = some v → (only w' S').cell? p = some v := fun p v hp hv => by
  obtain ⟨h1, h2⟩ := only_some.1 hv
  obtain ⟨h3, h4⟩ := hS _ hp h1
  exact only_some.2 ⟨h3, (World.cell?_of_block (hg.block _ hp h4)).trans h2⟩
theorem XS.go {e : Ex.X} {r : Option Nat} (h : XS S w cs e) (hg : w.grownBy w' r) (hS : ∀ g, g < w.heap.size → S g → S' g ∧ some g ≠ r) : XS S' w' cs e := h.mono hg.size (only_up hg hS)
theorem PS.go {r : Option Nat} (h : PS S w A n p) (hg : w.grownBy w' r) (hS : ∀ g, g < w.heap.size → S g → S' g ∧ some g ≠ r) : PS S' w' A n p := h.mono hg.size (only_up hg hS)
theorem CS.go {r : Option Nat} (h : CS S w cs n p) (hg : w.grownBy w' r) (hS : ∀ g, g < w.heap.size → S g → S' g ∧ some g ≠ r) : CS S' w' cs n p := h.mono hg.size (only_up hg hS)
theorem XS.of {e : Ex.X} (h : XR B w cs e) (hB : B ≤ w.heap.size) (hS : ∀ g, g < B → S g) : XS S w cs e := h.mono hB fun p v hp hv => only_some.2 ⟨hS _ hp, hv⟩
theorem PS.of (h : PR B w A n p) (hB : B ≤ w.heap.size) (hS : ∀ g, g < B → S g) : PS S w A n p := PR.mono h hB fun p v hp hv => only_some.2 ⟨hS _ hp, hv⟩
theorem CS.of (h : PC B w cs n p) (hB : B ≤ w.heap.size) (hS : ∀ g, g < B → S g) : CS S w cs n p := PC.mono h hB fun p v hp hv => only_some.2 ⟨hS _ hp, hv⟩
theorem XS.xr {e : Ex.X} (h : XS S w cs e) : XR w.heap.size w cs e := h.mono (Nat.le_refl _) fun p v hp hv => (only_some.1 hv).2
theorem PS.pr (h : PS S w A n p) : PR w.heap.size w A n p := PR.mono h (Nat.le_refl _) fun p v hp hv => (only_some.1 hv).2
theorem CS.pc (h : CS S w cs n p) : PC w.heap.size w cs n p := PC.mono h (Nat.le_refl _) fun p v hp hv => (only_some.1 hv).2
theorem PS.imp (h : PS S w A n p) (hS : ∀ g, g < w.heap.size → S g → S' g) : PS S' w A n p := h.go (World.grownBy.refl w none) fun g hg hs => ⟨hS g hg hs, by simp⟩
theorem CS.imp (h : CS S w cs n p) (hS : ∀ g, g < w.heap.size → S g → S' g) : CS S' w cs n p := h.go (World.grownBy.refl w none) fun g hg hs => ⟨hS g hg hs, by simp⟩
theorem XS.imp {e : Ex.X} (h : XS S w cs e) (hS : ∀ g, g < w.heap.size → S g → S' g) : XS S' w cs e := h.go (World.grownBy.refl w none) fun g hg hs => ⟨hS g hg hs, by simp⟩
theorem CS.nil : CS S w [] 0 .nil := PC.nil
theorem CS.append {cs' : List Value} {n' : Nat} {p' : St.P} (h : CS S w cs n p) (h' : CS S w cs' n' p') : CS S w (cs ++ cs') (n + n') (p ++ p') := PC.append h h'
theorem CS.one {k : Int} {nm : ByteArray} {ca cb : List Value} {ea eb : Ex.X} {D : Option Addr} {dl dc : Nat} {E : Option Addr} {el ec : Nat} {body els : St.P} (h : dl ≤ dc ∧ dc ≤ maxLen ∧ el ≤ ec ∧ ec ≤ maxLen) (h5 : XS S w ca ea) (h6 : XS S w cb eb) (h7 : PS S w D dl body) (h8 : PS S w E el els) : CS S w (stcells k nm ca cb D dl dc E el ec) 1 (.cons k nm.data.toList ea eb body els .nil) := PC.one h h5 h6 h7 h8
/-- where the cells lie, too -/
theorem CS.read (h : CS S w cs n p) (g o : Nat) (hg : n ≠ 0 → g < w.heap.size) (hc : ∀ j u, cs[j]? = some u → w.cell? ⟨g, o + j, none⟩ = some u) : PS (fun b => S b ∨ b = g) w (some ⟨g, o, none⟩) n p :=
  PC.read (w := only w fun b => S b ∨ b = g) (CS.imp h fun _ _ => .inl) (Nat.le_refl _) g o hg fun j u hu => only_some.2 ⟨.inr rfl, hc j u hu⟩
theorem CS.one_cells (h : CS S w cs n p) : ∀ u ∈ cs, u.oneCell' = true := PC.one_cells h
theorem CS.length (h : CS S w cs n p) : cs.length = n * 12 := PC.length h

/-- a slice of statements, in those blocks alone -/
def SP (S : Nat → Prop) (w : World) (v : Value) (p : St.P) : Prop := ∃ A n c, v = .slice A n c ∧ n ≤ c ∧ c ≤ maxLen ∧ PS S w A n p
theorem SP.nil : SP S w (.slice none 0 0) .nil := ⟨none, 0, 0, rfl, Nat.le_refl _, Nat.zero_le _, PR.nil _⟩
theorem SP.go {v : Value} {r : Option Nat} (h : SP S w v p) (hg : w.grownBy w' r) (hS : ∀ g, g < w.heap.size → S g → S' g ∧ some g ≠ r) : SP S' w' v p := by
  obtain ⟨A, n, c, rfl, h1, h2, h3⟩ := h
  exact ⟨A, n, c, rfl, h1, h2, h3.go hg hS⟩
theorem SP.is {v : Value} (h : SP S w v p) : IsP w v p := by
  obtain ⟨A, n, c, rfl, h1, h2, h3⟩ := h
  exact ⟨A, n, c, rfl, h1, h2, h3.pr⟩
theorem SP.of_own {base : Nat} {v : Value} {e : TypeId} (h : CS S w cs n p) (hown : w.ownsRow base e 12 v n cs) : SP (fun g => S g ∨ some g = v.ownBlock) w v p := by
  rcases hown.2 with ⟨rfl, rfl⟩ | ⟨g, cap, cur, rfl, _, hg, hle, hm, _, _⟩
  · have : cs = [] := List.eq_nil_of_length_eq_zero (by rw [hown.1])
    subst this
    cases (show PC _ _ [] 0 p from h)
    exact SP.nil
  · refine ⟨_, n, cap, rfl, hle, hm, (CS.read h g 0 (fun _ => (Array.getElem?_eq_some_iff.1 hg).1) fun j u hu => ?_).imp fun b _ hb => hb.imp id fun e => by subst e; rfl⟩
    have := hown.cells (g := g) rfl j u hu
    rw [Nat.zero_add]
    rwa [show ((⟨g, 0, none⟩ : Addr).add j) = ⟨g, j, none⟩ from by unfold Addr.add; split <;> simp_all] at this
theorem CS.row {base : Nat} {v v' : Value} {e : TypeId} {size m : Nat} {xs : List Value} (h : CS S w cs n p) (hown : w.ownsRow base e size v m xs) (hg : w.grownBy w' v.ownBlock) (hv : v'.ownBlock = v.ownBlock ∨ ∃ g, w.heap.size ≤ g ∧ v'.ownBlock = some g) (hS : ∀ g, g < w.heap.size → S g → S' g ∧ some g ≠ v.ownBlock) : CS (fun g => S' g ∧ some g ≠ v'.ownBlock) w' cs n p :=
  h.go hg fun g hl hs => ⟨⟨(hS g hl hs).1, by
    rcases hv with e | ⟨g', hge, e⟩
    · rw [e]; exact (hS g hl hs).2
    · rw [e]; intro e'; injection e' with e'; omega⟩, (hS g hl hs).2⟩
end
end Go.Proofs.YtdhjfckckghicaaDoor


namespace Go.Proofs.YtdhjfckckghicaaDoor
set_option linter.unusedVariables false
set_option linter.unusedSimpArgs false
set_option maxRecDepth 100000
open Go.RowKit

theorem num_any (n : Int) (w : World) : Calls Tryd.prog 14 #[.int .i64 n] w fun e w' => e = .returned (.agg (xcells 1 n ⟨#[]⟩ none 0 0).toArray) ∧ Below w.heap.size w w' := by
  have hb := Blk.new w 33 Ex.zeros
  have h0 : Below w.heap.size w (w.alloc (.cells Ex.zeros.toArray 33)) := below_alloc (Below.refl _ _) _
  unfold Ex.zeros at hb h0
  unfold xcells
  go_enter Tryd.func14, Tryd.ntmps14
  go_wp2_with (refine wpl_put_blk hb [.int .i64 1, .int .i64 n, .string ⟨#[]⟩, .slice none 0 0] (by kernel_rfl) rfl (xcells_one 1 n ⟨#[]⟩ none 0 0) rfl rfl rfl rfl ?_; intro w3 hB3 hg3)
  exact ret_blk hB3 rfl rfl Tryd.underlying33 rfl (by kernel_rfl) rfl ⟨rfl, h0.trans ((Keeps.of_grown hg3).below h0.size (fun i hi => by cases hi; exact Nat.le_refl _))⟩

theorem nam_any (s : ByteArray) (w : World) : Calls Tryd.prog 17 #[.string s] w fun e w' => e = .returned (.agg (xcells 2 0 s none 0 0).toArray) ∧ Below w.heap.size w w' := by
  have hb := Blk.new w 33 Ex.zeros
  have h0 : Below w.heap.size w (w.alloc (.cells Ex.zeros.toArray 33)) := below_alloc (Below.refl _ _) _
  unfold Ex.zeros at hb h0
  unfold xcells
  go_enter Tryd.func17, Tryd.ntmps17
  go_wp2_with (refine wpl_put_blk hb [.int .i64 2, .int .i64 0, .string s, .slice none 0 0] (by kernel_rfl) rfl (xcells_one 2 0 s none 0 0) rfl rfl rfl rfl ?_; intro w3 hB3 hg3)
  exact ret_blk hB3 rfl rfl Tryd.underlying33 rfl (by kernel_rfl) rfl ⟨rfl, h0.trans ((Keeps.of_grown hg3).below h0.size (fun i hi => by cases hi; exact Nat.le_refl _))⟩

theorem both_world {N : Bool} (k a0 a1 : Int) (a2 : ByteArray) (A3 : Option Addr) (a4 a5 : Nat) (b0 b1 : Int) (b2 : ByteArray) (B3 : Option Addr) (b4 b5 : Nat) (ea eb : Ex.X) (w : World) (ha : XRN N w.heap.size w (xcells a0 a1 a2 A3 a4 a5) ea) (hb : XRN N w.heap.size w (xcells b0 b1 b2 B3 b4 b5) eb) (hk3 : 3 ≤ k) (hk9 : k ≤ 9) :
    let W := (((w.alloc (.cells #[.int .i64 a0, .int .i64 a1, .string a2, .slice A3 a4 a5] 33)).alloc (.cells #[.int .i64 b0, .int .i64 b1, .string b2, .slice B3 b4 b5] 33)).alloc (.cells #[.int .i64 k, .int .i64 0, .string ⟨#[]⟩, .slice (some ⟨w.heap.size + 1 + 1 + 1, 0, none⟩) 2 2] 33)).alloc (.cells #[.int .i64 a0, .int .i64 a1, .string a2, .slice A3 a4 a5, .int .i64 b0, .int .i64 b1, .string b2, .slice B3 b4 b5] 33)
    Blk W (w.heap.size + 1 + 1) 33 (xcells k 0 ⟨#[]⟩ (some ⟨w.heap.size + 1 + 1 + 1, 0, none⟩) 2 2) ∧ XRN N W.heap.size W (xcells k 0 ⟨#[]⟩ (some ⟨w.heap.size + 1 + 1 + 1, 0, none⟩) 2 2) (.two k ea eb) ∧ Below w.heap.size w W := by
  intro W
  obtain ⟨-, -, p2, hz, hbw⟩ := allocs3 w (xcells a0 a1 a2 A3 a4 a5) (xcells b0 b1 b2 B3 b4 b5) (xcells k 0 ⟨#[]⟩ (some ⟨w.heap.size + 1 + 1 + 1, 0, none⟩) 2 2) 33 33 33
  have p3 := Blk.new (((w.alloc (.cells (xcells a0 a1 a2 A3 a4 a5).toArray 33)).alloc (.cells (xcells b0 b1 b2 B3 b4 b5).toArray 33)).alloc (.cells (xcells k 0 ⟨#[]⟩ (some ⟨w.heap.size + 1 + 1 + 1, 0, none⟩) 2 2).toArray 33)) 33 (xcells a0 a1 a2 A3 a4 a5 ++ xcells b0 b1 b2 B3 b4 b5)
  rw [hz] at p3
  have hb4 : Below w.heap.size w W := below_alloc hbw _
  have hl := p3.lt
  have hs : w.heap.size ≤ W.heap.size := hb4.size
  refine ⟨p2.alloc _, ?_, hb4⟩
  refine .two k 0 ⟨#[]⟩ (w.heap.size + 1 + 1 + 1) 0 2 2 _ _ ea eb (Nat.le_refl _) (by decide) hk3 hk9 (Nat.le_refl _) hl ?_ ?_ ((ha.later hb4).up hs) ((hb.later hb4).up hs) (fun _ => ⟨rfl, rfl, rfl⟩)
  · intro j u hu
    have hj : j < 4 := (List.getElem?_eq_some_iff.1 hu).1
    rw [Nat.zero_add]
    refine (p3.cell j).trans ?_
    rw [List.getElem?_append_left (by simpa [xcells] using hj)]
    exact hu
  · intro j u hu
    refine (p3.cell (0 + 4 + j)).trans ?_
    rw [List.getElem?_append_right (by simp [xcells])]
    simpa [xcells] using hu

theorem both_any {N : Bool} (k : Int) (a b : List Value) (ea eb : Ex.X) (w : World) (ha : XRN N w.heap.size w a ea) (hb : XRN N w.heap.size w b eb) (hk3 : 3 ≤ k) (hk9 : k ≤ 9) : Calls Tryd.prog 27 #[.int .i64 k, .agg a.toArray, .agg b.toArray] w fun e w' => ∃ cs, e = .returned (.agg cs.toArray) ∧ XRN N w'.heap.size w' cs (.two k ea eb) ∧ Below w.heap.size w w' := by
  obtain ⟨a0, a1, a2, A3, a4, a5, rfl, -, -⟩ := ha.form
  obtain ⟨b0, b1, b2, B3, b4, b5, rfl, -, -⟩ := hb.form
  have fin := both_world k a0 a1 a2 A3 a4 a5 b0 b1 b2 B3 b4 b5 ea eb w ha hb hk3 hk9
  have HF := Lib.hid fin
  clear fin ha hb
  unfold xcells
  go_enter Tryd.func27, Tryd.ntmps27
  go_wp2_with fail
  obtain ⟨h1, h2, h3⟩ := HF.out
  exact ret_blk h1 rfl rfl Tryd.underlying33 rfl (by kernel_rfl) rfl ⟨_, rfl, h2, h3⟩

end Go.Proofs.YtdhjfckckghicaaDoor


namespace Go.Proofs.YtdhjfckckghicaaDoor
set_option linter.unusedVariables false
set_option linter.unusedSimpArgs false
set_option maxRecDepth 100000
open Go Go.RowKit

theorem keeps_below {w w' : World} (h : Below w.heap.size w w') : Keeps (fun _ => False) w w' := Keeps.of_below h _
def FSl (sz n : Nat) (vs : List Value) : Fact (fun w w' => Below w.heap.size w w') := ⟨fun v w => SlV w sz v n vs, fun _ _ _ h k => h.below k⟩
/-- 'append(v, vs...)' as one operation -/
theorem oper_append {P : Program} {w : World} {o : Oper} {a : Act} {K : Act → World → Prop} {Q : Exit → Act → World → Prop} (s x : Operand)
    (base t e : TypeId) (z : Value) (size bytes : Nat) (ht : P.underlying t = some (.slice e)) (hinfo : (P.info? e).map (fun i => (i.zero, i.size, i.bytes)) = some (some z, size, bytes)) (hz : z.cells.size = size) (hsz : 0 < size)
    {v : Value} {n : Nat} {xs : List Value} (hown : w.ownsRow base e size v n xs) {vs : Value} {m : Nat} {news : List Value} (hsl : SlV w size vs m news) (h1 : ∀ u ∈ news, u.oneCell' = true)
    (h63 : n + m ≤ maxLen) (hbytes : (n + m) * bytes ≤ 140737488355328) (hbase : base ≤ w.heap.size) (ho : o.op = .call { callee := .builtin .append, args := #[s, x], argTypes := #[t, t] }) (hs : a.eval s = v) (hx : a.eval x = vs)
    (h : ∀ v' w', w'.ownsRow base e size v' (n + m) (xs ++ news) → w.grownBy w' v.ownBlock → (v'.ownBlock = v.ownBlock ∨ v'.ownBlock = some w.heap.size) → Below base w w' → K (a.put o.dst v') w') : o.wp P a w K Q := by
  obtain ⟨A, c, rfl, hle, hm, hlen, hc⟩ := hsl
  obtain ⟨v', w', hrun, h2, h3, h4⟩ := run_append (P := P) w base t o.type e z size bytes ht hinfo hz hsz v n xs hown w.heap.size A m c news hlen hc h1 h63 hbytes hbase
  unfold Oper.wp execOp
  simp only [ho, resolve, invoke, builtin, Sem.run_bind, Sem.run_pure, Result.andThen_ok, List.map_toArray, List.map_cons, List.map_nil, hs, hx, hrun]
  exact h v' w' h2 h3 h4 ((Below.refl _ _).grown h3 hbase (own_ge hown))

/-- a row of the call's own, that stays as it is -/
def FRow (B : Nat) (e : TypeId) (sz n : Nat) (vs : List Value) : Fact (fun w w' => Below w.heap.size w w') := ⟨fun v w => w.ownsRow B e sz v n vs, fun _ _ _ h k => own_keeps h (keeps_below k) (fun _ _ => id)⟩

/-- the first k elements -/
theorem SlV.takeV {w : World} {sz n c : Nat} {A : Option Addr} {vs : List Value} (h : SlV w sz (.slice A n c) n vs) (k : Nat) (hk : k ≤ n) : SlV w sz (.slice A k c) k (vs.take (k * sz)) := by
  obtain ⟨A', c', he, h1, h2, h3, h4⟩ := h
  injection he with e1 e2 e3
  subst e1 e3
  have := Nat.mul_le_mul_right sz hk
  exact ⟨A, c, rfl, by omega, h2, by rw [List.length_take, h3]; omega, h4.take _⟩
end Go.Proofs.YtdhjfckckghicaaDoor


namespace Go.Proofs.YtdhjfckckghicaaDoor
set_option linter.unusedVariables false
set_option linter.unusedSimpArgs false
set_option maxRecDepth 100000
open Go.RowKit

/-- what gathers names -/
structure Nm (B : Nat) (w : World) (gf g : Nat) (v : Value) (xs : List ByteArray) : Prop where
  fn : Blk w gf 73 [.func (.func 51) #[] #[.pointer (some ⟨gf, 0, none⟩), .pointer (some ⟨g, 0, none⟩)]]
  blk : Blk w g 25 [v]
  row : w.ownsRow B 9 1 v xs.length (strs xs)
  base : B ≤ w.heap.size
  at_ : B ≤ g
  ne : v.ownBlock ≠ some g
  nef : v.ownBlock ≠ some gf
  gg : gf ≠ g

def NmEnd (B : Nat) (w : World) (gf g : Nat) (v : Value) (xs : List ByteArray) : Ending → World → Prop := fun e w' =>
  e = .returned (.tuple #[]) ∧ ∃ v', Nm B w' gf g v' xs ∧ Keeps (fun k => k = g ∨ v.ownBlock = some k) w w' ∧ (∀ i, v'.ownBlock = some i → v.ownBlock = some i ∨ w.heap.size ≤ i)

theorem Nm.keeps {B : Nat} {w w' : World} {gf g : Nat} {v : Value} {xs : List ByteArray} (h : Nm B w gf g v xs) (k : Keeps (fun _ => False) w w') : Nm B w' gf g v xs :=
  ⟨h.fn.keeps k id, h.blk.keeps k id, own_keeps h.row k (fun _ _ => id), Nat.le_trans h.base k.size, h.at_, h.ne, h.nef, h.gg⟩
theorem Nm.alloc {B : Nat} {w : World} {gf g : Nat} {v : Value} {xs : List ByteArray} (h : Nm B w gf g v xs) (o : Obj) : Nm B (w.alloc o) gf g v xs := h.keeps ((Keeps.refl _ w).alloc o)
theorem nm_back {B : Nat} {w w0 : World} {gf g : Nat} {v : Value} {xs : List ByteArray} (hk : Keeps (fun _ => False) w w0) {e : Ending} {w' : World} (h : NmEnd B w0 gf g v xs e w') : NmEnd B w gf g v xs e w' := by
  obtain ⟨h1, v', h2, h3, h4⟩ := h
  have := hk.size
  exact ⟨h1, v', h2, (hk.mono (fun _ h => h.elim)).trans h3, fun i hi => (h4 i hi).imp id (fun h => by omega)⟩

theorem nm_put {B : Nat} {w w0 w4 : World} {gf g : Nat} {v v' : Value} {xs xs' : List ByteArray} (hL : Nm B w0 gf g v xs) (hk0 : Keeps (fun _ => False) w w0) (hg4 : w0.grownBy w4 v.ownBlock) (hown : w4.ownsRow B 9 1 v' xs'.length (strs xs'))
    (hv4 : v'.ownBlock = v.ownBlock ∨ v'.ownBlock = some (w0.heap.size + 1)) : Blk w4 g 25 [v] ∧ ∀ w5, Blk w5 g 25 [v'] → w4.grownBy w5 (some g) → NmEnd B w gf g v xs' (.returned (.tuple #[])) w5 := by
  have kk : Keeps (fun k => v.ownBlock = some k) w0 w4 := (Keeps.of_grown hg4).mono (fun i hi => hi.symm)
  have far : ∀ i, i < w0.heap.size → v.ownBlock ≠ some i → v'.ownBlock ≠ some i := fun i hi hne e => by
    rcases hv4 with h | h
    · exact hne (h ▸ e)
    · rw [h] at e
      injection e with e
      omega
  have hne := far g hL.blk.lt hL.ne
  have hnf := far gf hL.fn.lt hL.nef
  refine ⟨hL.blk.keeps kk hL.ne, fun w5 hB5 hg5 => ?_⟩
  have ks : Keeps (fun k => k = g) w4 w5 := (Keeps.of_grown hg5).mono (fun i hi => by injection hi)
  refine ⟨rfl, v', ⟨(hL.fn.keeps kk hL.nef).keeps ks hL.gg, hB5, own_keeps hown ks (fun i hi e => hne (e ▸ hi)), by have := hL.base; have := kk.size; have := ks.size; omega, hL.at_, hne, hnf, hL.gg⟩, ((hk0.mono (fun _ h => h.elim)).trans (kk.mono (fun i hi => .inr hi))).trans (ks.mono (fun i hi => .inl hi)), fun i hi => ?_⟩
  rcases hv4 with h | h
  · exact .inl (h ▸ hi)
  · rw [h] at hi
    injection hi with hi
    have := hk0.size
    exact .inr (by omega)
theorem info_str : (Tryd.prog.info? 9).map (fun i => (i.zero, i.size, i.bytes)) = some (some (.string ⟨#[]⟩), 1, 16) := by kernel_rfl
end Go.Proofs.YtdhjfckckghicaaDoor


namespace Go.Proofs.YtdhjfckckghicaaDoor
set_option linter.unusedVariables false
set_option linter.unusedSimpArgs false
set_option maxRecDepth 100000
open Go.RowKit

theorem nm_same {B : Nat} {w w' : World} {gf g : Nat} {v : Value} {xs : List ByteArray} (h : Nm B w gf g v xs) (hk : Keeps (fun _ => False) w w') : NmEnd B w gf g v xs (.returned (.tuple #[])) w' :=
  ⟨rfl, v, h.keeps hk, hk.mono (fun _ h => h.elim), fun i hi => .inl hi⟩

theorem names1_odd (B : Nat) (w : World) (gf g : Nat) (v : Value) (xs : List ByteArray) (h : Nm B w gf g v xs) (k n : Int) (s : ByteArray) (A : Option Addr) (len cap : Nat) (hno : ¬ ((3 ≤ k ∧ k ≤ 9) ∧ 2 ≤ len)) (hle : len ≤ cap) (hm : cap ≤ maxLen) (hk : (k == 2) = false) :
    Calls Tryd.prog 51 #[.agg (xcells k n s A len cap).toArray, .pointer (some ⟨gf, 0, none⟩), .pointer (some ⟨g, 0, none⟩)] w (NmEnd B w gf g v xs) := by
  have p0 := Blk.new w 33 (xcells k n s A len cap)
  have hb0 : Below w.heap.size w (w.alloc (.cells (xcells k n s A len cap).toArray 33)) := below_alloc (Below.refl _ _) _
  unfold xcells at p0 hb0
  have HN := Lib.hid h
  clear h
  go_enter Tryd.func51, Tryd.ntmps51
  unfold xcells
  go_wp2_with fail
  refine (two_no _ k n s A len cap hno hle hm).mono ?_
  rintro e w1 ⟨rfl, hb1⟩
  clear hno hle hm
  unfold Ex.zeros
  have p1 := p0.below hb1
  have hbw1 := below_next hb1 hb0
  clear p0 hb0 hb1
  have x0 : ∀ o o' : Obj, ((w1.alloc o).alloc o').cell? ⟨w.heap.size, 0, none⟩ = some (.int .i64 k) := fun o o' => (((p1.alloc o).alloc o').cell 0).trans rfl
  have hbw2 := fun o o' => below_alloc (below_alloc hbw1 o) o'
  have HB := Lib.hid hbw2
  clear hbw2 hbw1 p1
  go_wp2
  go_end0
  exact nm_same HN.out (keeps_below (HB.out _ _))

theorem names1_has (B : Nat) (w : World) (gf g : Nat) (v : Value) (xs : List ByteArray) (h : Nm B w gf g v xs) (n : Int) (s : ByteArray) (A : Option Addr) (len cap : Nat) (hle : len ≤ cap) (hm : cap ≤ maxLen) (hs : Ex.has s xs = true) :
    Calls Tryd.prog 51 #[.agg (xcells 2 n s A len cap).toArray, .pointer (some ⟨gf, 0, none⟩), .pointer (some ⟨g, 0, none⟩)] w (NmEnd B w gf g v xs) := by
  have p0 := Blk.new w 33 (xcells 2 n s A len cap)
  have hb0 : Below w.heap.size w (w.alloc (.cells (xcells 2 n s A len cap).toArray 33)) := below_alloc (Below.refl _ _) _
  unfold xcells at p0 hb0
  go_enter Tryd.func51, Tryd.ntmps51
  unfold xcells
  go_wp2_with fail
  refine (two_no _ 2 n s A len cap (by omega) hle hm).mono ?_
  rintro e w1 ⟨rfl, hb1⟩
  unfold Ex.zeros
  have p1 := p0.below hb1
  have hbw1 := below_next hb1 hb0
  clear p0 hb0 hb1
  have x0 : ∀ o o' : Obj, ((w1.alloc o).alloc o').cell? ⟨w.heap.size, 0, none⟩ = some (.int .i64 2) := fun o o' => (((p1.alloc o).alloc o').cell 0).trans rfl
  have x2 : ∀ o o' : Obj, ((w1.alloc o).alloc o').cell? ⟨w.heap.size, 2, none⟩ = some (.string s) := fun o o' => (((p1.alloc o).alloc o').cell 2).trans rfl
  have hN := fun o o' => h.keeps (keeps_below (below_alloc (below_alloc hbw1 o) o'))
  have g0 : ∀ o o' : Obj, ((w1.alloc o).alloc o').cell? ⟨g, 0, none⟩ = some v := fun o o' => ((hN o o').blk.cell 0).trans rfl
  have hsl : ∀ o o' : Obj, SlV ((w1.alloc o).alloc o') 1 v xs.length (strs xs) := fun o o' => SlV.of_own (hN o o').row
  obtain ⟨V, cV, rfl, u1, u2⟩ := own_slice h.row
  have hbw2 := fun o o' => below_alloc (below_alloc hbw1 o) o'
  have HB := Lib.hid hbw2
  have HN := Lib.hid h
  clear hbw2 hbw1 p1 h hN
  go_wp2_with fail
  refine (contains_str _ xs s _ (hsl _ _)).mono ?_
  rintro e w2 ⟨rfl, m, rfl⟩
  clear x0 x2 g0 hsl
  rw [hs]
  go_wp2
  go_end0
  exact nm_same HN.out ((keeps_below (HB.out _ _)).drewN m)

theorem names1_new (B : Nat) (w : World) (gf g : Nat) (v : Value) (xs : List ByteArray) (h : Nm B w gf g v xs) (n : Int) (s : ByteArray) (A : Option Addr) (len cap : Nat) (hle : len ≤ cap) (hm : cap ≤ maxLen) (hs : Ex.has s xs = false) (hr : xs.length ≤ 8796093022200) :
    Calls Tryd.prog 51 #[.agg (xcells 2 n s A len cap).toArray, .pointer (some ⟨gf, 0, none⟩), .pointer (some ⟨g, 0, none⟩)] w (NmEnd B w gf g v (xs ++ [s])) := by
  have p0 := Blk.new w 33 (xcells 2 n s A len cap)
  have hb0 : Below w.heap.size w (w.alloc (.cells (xcells 2 n s A len cap).toArray 33)) := below_alloc (Below.refl _ _) _
  unfold xcells at p0 hb0
  go_enter Tryd.func51, Tryd.ntmps51
  unfold xcells
  go_wp2_with fail
  refine (two_no _ 2 n s A len cap (by omega) hle hm).mono ?_
  rintro e w1 ⟨rfl, hb1⟩
  unfold Ex.zeros
  have p1 := p0.below hb1
  have hbw1 := below_next hb1 hb0
  clear p0 hb0 hb1
  have x0 : ∀ o o' : Obj, ((w1.alloc o).alloc o').cell? ⟨w.heap.size, 0, none⟩ = some (.int .i64 2) := fun o o' => (((p1.alloc o).alloc o').cell 0).trans rfl
  have x2 : ∀ o o' : Obj, ((w1.alloc o).alloc o').cell? ⟨w.heap.size, 2, none⟩ = some (.string s) := fun o o' => (((p1.alloc o).alloc o').cell 2).trans rfl
  have hN := fun o o' => h.keeps (keeps_below (below_alloc (below_alloc hbw1 o) o'))
  have g0 : ∀ o o' : Obj, ((w1.alloc o).alloc o').cell? ⟨g, 0, none⟩ = some v := fun o o' => ((hN o o').blk.cell 0).trans rfl
  have hsl : ∀ o o' : Obj, SlV ((w1.alloc o).alloc o') 1 v xs.length (strs xs) := fun o o' => SlV.of_own (hN o o').row
  obtain ⟨V, cV, rfl, u1, u2⟩ := own_slice h.row
  have hkw := fun o o' => keeps_below (below_alloc (below_alloc hbw1 o) o')
  clear hbw1 p1 h
  go_wp2_with fail
  refine (contains_str _ xs s _ (hsl _ _)).mono ?_
  rintro e w2 ⟨rfl, m, rfl⟩
  rw [hs]
  have hN2 := (hN (.cells #[.int .i64 0, .int .i64 0, .string ⟨#[]⟩, .slice none 0 0] 33) (.cells #[.int .i64 0, .int .i64 0, .string ⟨#[]⟩, .slice none 0 0] 33)).keeps ((Keeps.refl _ _).drewN m)
  have hk2 := (hkw (.cells #[.int .i64 0, .int .i64 0, .string ⟨#[]⟩, .slice none 0 0] 33) (.cells #[.int .i64 0, .int .i64 0, .string ⟨#[]⟩, .slice none 0 0] 33)).drewN m
  have y2 := x2 (.cells #[.int .i64 0, .int .i64 0, .string ⟨#[]⟩, .slice none 0 0] 33) (.cells #[.int .i64 0, .int .i64 0, .string ⟨#[]⟩, .slice none 0 0] 33)
  rw [← World.cell?_drewN _ m] at y2
  clear x0 x2 g0 hsl hN hkw
  generalize (((w1.alloc (.cells #[.int .i64 0, .int .i64 0, .string ⟨#[]⟩, .slice none 0 0] 33)).alloc (.cells #[.int .i64 0, .int .i64 0, .string ⟨#[]⟩, .slice none 0 0] 33)).drewN m) = w2 at y2 hN2 hk2 ⊢
  have g2 := (hN2.blk.cell 0).trans rfl
  simp only [List.getElem?_cons_zero] at g2
  have n63 : xs.length + 1 ≤ maxLen := by unfold maxLen; omega
  have n47 : (xs.length + 1) * 16 ≤ 140737488355328 := by omega
  have hrow := hN2.row
  have hba := hN2.base
  have HP := Lib.hid (fun w4 v' hg4 hown hv4 => nm_put (w4 := w4) (v' := v') (xs' := xs ++ [s]) hN2 hk2 hg4 hown hv4)
  clear hN2 hk2
  go_wp2_with (first | (at_builtin; refine wp_push w2 _ _ B _ _ _ _ _ Tryd.underlying25 info_str rfl (by decide) hrow [.string s] rfl (strs_one [s]) n63 n47 hba rfl rfl rfl rfl ?_; intro v' w4 hown4 hg4 hv4 _; obtain ⟨hb4, hend⟩ := HP.out w4 v' hg4 (by simpa [strs] using hown4) hv4; obtain ⟨V', c', rfl, _, _⟩ := own_slice hown4) | (refine wpl_set_blk hb4 0 _ (by kernel_rfl) (by simp) rfl rfl rfl rfl rfl rfl ?_; intro w5 hB5 hg5) | fail)
  go_end0
  exact hend w5 hB5 hg5
end Go.Proofs.YtdhjfckckghicaaDoor


namespace Go.Proofs.YtdhjfckckghicaaDoor
set_option linter.unusedVariables false
set_option linter.unusedSimpArgs false
set_option maxRecDepth 100000
open Go.RowKit

def NmOK (e : Ex.X) : Prop := ∀ (B : Nat) (w : World) (gf g : Nat) (v : Value) (xs : List ByteArray) (cs : List Value), XR B w cs e → Nm B w gf g v xs → xs.length + e.leaves ≤ 8796093022200 →
    Calls Tryd.prog 51 #[.agg cs.toArray, .pointer (some ⟨gf, 0, none⟩), .pointer (some ⟨g, 0, none⟩)] w (NmEnd B w gf g v (Ex.names xs e))

set_option maxHeartbeats 2000000 in
theorem names1_two (k : Int) (e0 e1 : Ex.X) (ih0 : NmOK e0) (ih1 : NmOK e1) : NmOK (.two k e0 e1) := by
  intro B w gf g v xs cs h hL hn
  unfold Ex.X.leaves at hn
  have hB := hL.base
  have h2 := h.alloc hB (.cells cs.toArray 33)
  have hb0 : Below w.heap.size w (w.alloc (.cells cs.toArray 33)) := below_alloc (Below.refl _ _) _
  have hB2 : B ≤ (w.alloc (.cells cs.toArray 33)).heap.size := by simp; omega
  have hz0 := hb0.size
  obtain ⟨a0, a1, a2, A3, a4, a5, rfl, -, -⟩ := h.form
  unfold xcells at h2 hb0 hB2 hz0 ⊢
  clear h
  go_enter Tryd.func51, Tryd.ntmps51
  go_wp2_with fail
  refine (two_yes _ _ _ k e0 e1 h2 hB2).mono ?_
  rintro e w1 ⟨c0, c1, rfl, r0, r1, hb1⟩
  have hbw1 := below_next hb1 hb0
  replace r0 := r0.later (hb1.mono hB2)
  replace r1 := r1.later (hb1.mono hB2)
  clear h2 hb0 hb1 hB2 hz0
  have hs1 := hbw1.size
  obtain ⟨q0, q1, hz3, hb3⟩ := allocs2 w1 c0 c1 33 33
  have hbw3 := below_next hb3 hbw1
  replace r0 := r0.later (hb3.mono (by omega))
  replace r1 := r1.later (hb3.mono (by omega))
  have hL3 := hL.keeps (keeps_below hbw3)
  have hkw := keeps_below hbw3
  have hvw : ∀ i, v.ownBlock = some i → i < w.heap.size := fun i hi => (hL.row.lt i hi).2
  have hvB : ∀ i, v.ownBlock = some i → B ≤ i := own_ge hL.row
  have hgw := hL.blk.lt
  have hgB := hL.at_
  clear hbw1 hbw3 hb3 hL
  obtain ⟨b0, b1, b2, B3, b4, b5, rfl, -, -⟩ := r0.form
  obtain ⟨d0, d1, d2, D3, d4, d5, rfl, -, -⟩ := r1.form
  unfold xcells at q0 q1 hz3 r0 r1 hL3 hkw ⊢
  have HK := Lib.hid hkw
  have f3 := (hL3.fn.cell 0).trans rfl
  simp only [List.getElem?_cons_zero] at f3
  clear hkw q0
  go_wp2_with fail
  refine (ih0 B _ gf g v xs _ r0 hL3 (by omega)).mono ?_
  rintro e w2 ⟨rfl, v2, L2, k2, o2⟩
  rw [hz3] at o2
  have hl1 := Ex.names_length xs e0
  have hbel := k2.below (B := B) hL3.base (fun i hi => hi.elim (fun e => by omega) (hvB i))
  have hz2 := hbel.size
  have r1' := r1.later hbel
  have Q1 := q1.keeps k2 (fun h => h.elim (fun e => by omega) (fun e => by have := hvw _ e; omega))
  have d0' := (Q1.cell 0).trans rfl
  have d1' := (Q1.cell 1).trans rfl
  have d2' := (Q1.cell 2).trans rfl
  have d3' := (Q1.cell 3).trans rfl
  have f2 := (L2.fn.cell 0).trans rfl
  simp only [List.getElem?_cons_zero, List.getElem?_cons_succ] at d0' d1' d2' d3' f2
  have kk := HK.out.mono (S' := fun k => k = g ∨ v.ownBlock = some k) (fun _ h => h.elim) |>.trans k2
  clear Q1 hbel r0 r1 hL3 k2 HK q1 hz2 hz3 f3
  go_wp2_with fail
  refine (ih1 B _ gf g v2 _ _ r1' L2 (by omega)).mono ?_
  rintro e w3 ⟨rfl, v3, L3, k3, o3⟩
  have hw2 := kk.size
  have kf := kk.step k3 (fun i hi h => h.elim .inl (fun e => (o2 i e).elim .inr (fun h => by omega)))
  clear d0' d1' d2' d3' f2 r1' L2
  go_wp2
  go_end0
  exact ⟨rfl, v3, L3, kf, fun i hi => (o3 i hi).elim (fun h => (o2 i h).imp id (fun h => by omega)) (fun h => .inr (by omega))⟩

theorem names1_ok : ∀ e : Ex.X, NmOK e
  | .num n => fun B w gf g v xs cs h hL hn => by
    cases h with
    | num n s A len cap h1 h2 h3 => exact names1_odd B w gf g v xs hL 1 n s A len cap (by omega) h1 h2 rfl
  | .bad => fun B w gf g v xs cs h hL hn => by
    cases h with
    | bad k n s A len cap h1 h2 h3 h4 h5 => exact names1_odd B w gf g v xs hL k n s A len cap h5 h1 h2 (by simpa using h4)
  | .name s => fun B w gf g v xs cs h hL hn => by
    cases h with
    | name n s A len cap h1 h2 =>
      unfold Ex.X.leaves at hn
      unfold Ex.names
      rw [Ex.ba_data]
      rcases hs : Ex.has s xs with _ | _
      · simpa using names1_new B w gf g v xs hL n s A len cap h1 h2 hs (by omega)
      · simpa using names1_has B w gf g v xs hL n s A len cap h1 h2 hs
  | .two k a b => names1_two k a b (names1_ok a) (names1_ok b)
end Go.Proofs.YtdhjfckckghicaaDoor


namespace Go.Proofs.YtdhjfckckghicaaDoor
set_option linter.unusedVariables false
set_option linter.unusedSimpArgs false
set_option maxRecDepth 100000
open Go.RowKit

theorem names_world (w W w5 : World) (cs : List Value) (e : Ex.X) (hb : Below w.heap.size w W) (hz : W.heap.size = w.heap.size + 1 + 1) (d0 : Blk W w.heap.size 33 cs) (d1 : Blk W (w.heap.size + 1) 25 [.slice none 0 0]) (h : XR w.heap.size w cs e)
    (hB5 : Blk w5 (w.heap.size + 1 + 1) 73 [.func (.func 51) #[] #[.pointer (some ⟨w.heap.size + 1 + 1, 0, none⟩), .pointer (some ⟨w.heap.size + 1, 0, none⟩)]]) (hg5 : (W.alloc (.cells #[.nilFunc] 73)).grownBy w5 (some (w.heap.size + 1 + 1))) :
    Nm w.heap.size w5 (w.heap.size + 1 + 1) (w.heap.size + 1) (.slice none 0 0) [] ∧ XR w.heap.size w5 cs e ∧ Blk w5 w.heap.size 33 cs ∧ Below w.heap.size w w5 := by
  have k5 : Below W.heap.size W w5 := (below_alloc (Below.refl _ W) _).trans (below_of_grown hg5 (by simp) (by omega))
  have kw : Below w.heap.size w w5 := below_next k5 hb
  exact ⟨⟨hB5, d1.below k5, World.ownsRow_nil _ _ _ _, kw.size, by omega, by simp [Value.ownBlock], by simp [Value.ownBlock], by omega⟩, h.later kw, d0.below k5, kw⟩

/-- **expr.Names** -/
theorem names_own (e : Ex.X) (w : World) (cs : List Value) (h : XR w.heap.size w cs e) (hn : e.leaves ≤ 8796093022200) : Calls Tryd.prog 42 #[.agg cs.toArray] w fun r w' => ∃ v, r = .returned v ∧ w'.ownsRow w.heap.size 9 1 v (Ex.names [] e).length (strs (Ex.names [] e)) ∧ Below w.heap.size w w' := by
  obtain ⟨a0, a1, a2, A3, a4, a5, rfl, -, -⟩ := h.form
  obtain ⟨d0, d1, hz, hb⟩ := allocs2 w (xcells a0 a1 a2 A3 a4 a5) [.slice none 0 0] 33 25
  have d2 := Blk.new ((w.alloc (.cells (xcells a0 a1 a2 A3 a4 a5).toArray 33)).alloc (.cells [Value.slice none 0 0].toArray 25)) 73 [.nilFunc]
  rw [hz] at d2
  have HD := Lib.hid (fun w5 hB5 hg5 => names_world w _ w5 _ e hb hz d0 d1 h hB5 hg5)
  clear hb hz d0 d1 h
  unfold xcells at HD d2 ⊢
  go_enter Tryd.func42, Tryd.ntmps42
  go_wp2_with (first | (refine wpl_set_blk d2 0 (.func (.func 51) #[] #[.pointer (some ⟨w.heap.size + 1 + 1, 0, none⟩), .pointer (some ⟨w.heap.size + 1, 0, none⟩)]) (by kernel_rfl) (by simp) rfl rfl rfl rfl rfl rfl ?_; intro w5 hB5 hg5; obtain ⟨hL, hx, hb0, hbw⟩ := HD.out w5 hB5 hg5; have x0 := (hb0.cell 0).trans rfl; have x1 := (hb0.cell 1).trans rfl; have x2 := (hb0.cell 2).trans rfl; have x3 := (hb0.cell 3).trans rfl; have f5 := (hL.fn.cell 0).trans rfl; simp only [List.getElem?_cons_zero, List.getElem?_cons_succ] at x0 x1 x2 x3 f5; clear HD hB5 hg5 hb0 d2) | fail)
  refine (names1_ok e _ _ _ _ _ _ _ hx hL (by simpa using hn)).mono ?_
  rintro r w6 ⟨rfl, v6, L6, k6, o6⟩
  have y := (L6.blk.cell 0).trans rfl
  simp only [List.getElem?_cons_zero] at y
  have hs := L6.row
  have hb6 : Below w.heap.size w w6 := hbw.trans (k6.below hL.base (fun i hi => hi.elim (fun e => by omega) (fun e => by simp [Value.ownBlock] at e)))
  obtain ⟨V, c, rfl, -, -⟩ := own_slice L6.row
  have HS := Lib.hid (And.intro hs hb6)
  clear x0 x1 x2 x3 f5 hL hx hbw L6 k6 o6 hs hb6
  go_wp2
  go_ret
  exact ⟨_, rfl, HS.out⟩
theorem names_ok (e : Ex.X) (w : World) (cs : List Value) (h : XR w.heap.size w cs e) (hn : e.leaves ≤ 8796093022200) : Calls Tryd.prog 42 #[.agg cs.toArray] w fun r w' => ∃ v, r = .returned v ∧ SlV w' 1 v (Ex.names [] e).length (strs (Ex.names [] e)) ∧ Below w.heap.size w w' :=
  (names_own e w cs h hn).mono fun r w' ⟨v, h1, h2, h3⟩ => ⟨v, h1, SlV.of_own h2, h3⟩
end Go.Proofs.YtdhjfckckghicaaDoor


namespace Go.Proofs.YtdhjfckckghicaaDoor
set_option linter.unusedVariables false
set_option linter.unusedSimpArgs false
set_option maxRecDepth 100000
open Go Go.RowKit

section
variable {P : Program} {ops : Array Oper} {Q : Exit → Act → World → Prop} {l n : Nat}

theorem operIn_of {o : Oper} {a : Act} {w : World} {K : Act → World → Prop} (hd : ∀ c, o.op ≠ .defer c) (h : o.wp P a w K Q) : o.wpIn (Fence.wide.inRound l) n P a w K Q := by
  refine ⟨fun f _ => trivial, ?_⟩
  rw [Fence.inRound_round, Oper.semAt_some l _ _ hd]
  unfold Oper.wp at h
  generalize (execOp a.eval o).run P w = r at h ⊢
  cases r with
  | ok x w' =>
    cases x with
    | enter f args => exact ⟨fun h' => (nomatch h'), CallsIn.inRound l (callsIn_wide.2 h)⟩
    | row row args =>
      refine ⟨fun h' => (nomatch h'), fun c cs _ => ?_⟩
      obtain ⟨v, w', r, s⟩ := h c cs
      exact ⟨v, w', r, stepsIn_wide.2 s⟩
    | value v => exact h
    | skip => exact h
    | defer d => exact h
    | _ => exact h.elim
  | halt x w' => cases x <;> exact h

theorem opIn_of {i : Nat} {a : Act} {w : World} {K : Act → World → Prop} (hd : ∀ o, ops[i]? = some o → ∀ c, o.op ≠ .defer c) (hL : ¬ LetsOut Q) (h : wpOp P ops Q i K a w) : wpOpIn (Fence.wide.inRound l) n P ops Q i K a w := by
  unfold wpOp at h
  unfold wpOpIn
  rcases ho : ops[i]? with _ | o
  · rw [ho] at h
    exact h
  · simp only [ho] at h ⊢
    split
    · rename_i hw
      rw [if_pos hw] at h
      rcases h with h | ⟨_, h⟩
      · exact operIn_of (hd o ho) h
      · exact (hL h).elim
    · rename_i hw
      rw [if_neg hw] at h
      exact ⟨fun _ _ => trivial, h⟩

theorem anyIn_of (hd : ∀ (i : Nat) (o : Oper), ops[i]? = some o → ∀ c, o.op ≠ .defer c) (hL : ¬ LetsOut Q) : ∀ (fuel : Nat) (listed : Array Bool) (a : Act) (w : World), wpAny P .any ops Q fuel listed a w → wpAnyIn (Fence.wide.inRound l) n P .any ops Q fuel listed a w
  | 0, _, _, _, h => h
  | fuel + 1, listed, a, w, h => ⟨h.1, fun i hi => wpOpIn_mono (fun a w h' => anyIn_of hd hL fuel _ a w h') (opIn_of (hd i) hL (h.2 i hi))⟩

def noDefer (ops : Array Oper) : Bool := ops.all fun o => match o.op with | .defer _ => false | _ => true
theorem noDefer_spec (h : noDefer ops = true) : ∀ (i : Nat) (o : Oper), ops[i]? = some o → ∀ c, o.op ≠ .defer c := fun i o ho c hc => by
  obtain ⟨hi, rfl⟩ := Array.getElem?_eq_some_iff.1 ho
  have := (Array.all_eq_true.1 h) i hi
  rw [hc] at this
  cases this

variable {E : World → World → Prop} {S : World → Prop}
theorem wpIn_walk_tail {id : Nat} {a : Act} {w : World} {l : List Oper} {r : Nat} (k : Nat) (hm : P.follows .mixedOrders = true) (hB : (tailB l.toArray k && noDefer l.toArray) = true) (hL : ¬ LetsOut Q) (E : World → World → Prop) (S : World → Prop) (hS : S w.drew)
    (h : Walk P l.toArray S E (fun A Fs => ∀ ρ w', S w' → (∀ t F, (t, F) ∈ Fs → F.holds (ρ t) w') → wpList P l.toArray Q (l.drop k) (A ρ) w') (l.take k) (fun _ => a) []) : (Code.region id l.toArray true).wpIn (Fence.wide.inRound r) n P Q a w := by
  rw [Bool.and_eq_true] at hB
  obtain ⟨hB, hno⟩ := hB
  simp only [tailB, Bool.and_eq_true, decide_eq_true_eq] at hB
  obtain ⟨⟨⟨⟨hn, hlin⟩, hs⟩, hc⟩, hq⟩ := hB
  obtain ⟨full, hp, he, hZ⟩ := settle_plan (l.take k) [] ⟨(fun _ h => by cases h), (fun pre p post he => by simp at he)⟩ h.out
  have inv0 : HeadInv .any l.toArray k (Array.replicate l.toArray.size false) :=
    ⟨by simp, fun j oj _ hl => (by rw [getD_replicate_false] at hl; cases hl), fun t _ ht => getD_in (by simpa using ht) (getD_replicate_false _ _)⟩
  have := any_order_tail (P := P) (Q := Q) hn (by simpa using he) (linearN_of hlin) hs hc (fun listed hsz h1 h2 => by
    have hn' := hn
    rw [show listed = (Array.replicate k true) ++ (Array.replicate (l.toArray.size - k) false) from getD_ext (by simp only [Array.size_append, Array.size_replicate]; omega) fun i => by
      rw [Array.getD_eq_getD_getElem? (xs := _ ++ _), Array.getElem?_append]
      rcases Nat.lt_or_ge i k with h | h
      · rw [h1 i h]
        simp [h]
      · rw [h2 i h]
        simp only [Array.size_replicate, Nat.not_lt.2 h, if_false, Array.getElem?_replicate]
        split <;> rfl]
    exact hq) hp hZ k _ a w.drew (fun _ => undef) inv0 ⟨List.range k, by simp, fun i hi _ => List.mem_range.2 hi⟩ ⟨rfl, rfl, fun _ _ => rfl, fun i p t hi => ?_⟩ hS fun i p F d hi => ?_
  · refine wpIn_region_any hm (anyIn_of (noDefer_spec hno) hL _ _ _ _ ?_)
    rwa [show k + (l.toArray.size - k) = l.toArray.size by omega] at this
  · exfalso; rw [getD_replicate_false] at hi; cases hi
  · exfalso; rw [getD_replicate_false] at hi; cases hi
theorem wpIn_walk_last {id : Nat} {a : Act} {w : World} {l : List Oper} {r : Nat} (hm : P.follows .mixedOrders = true) (hB : (tailB l.toArray (l.length - 1) && noDefer l.toArray) = true) (hL : ¬ LetsOut Q) (E : World → World → Prop) (S : World → Prop) (hS : S w.drew)
    (h : Walk P l.toArray S E (fun A Fs => ∀ ρ w', S w' → (∀ t F, (t, F) ∈ Fs → F.holds (ρ t) w') → wpList P l.toArray Q (l.drop (l.length - 1)) (A ρ) w') (l.take (l.length - 1)) (fun _ => a) []) : (Code.region id l.toArray true).wpIn (Fence.wide.inRound r) n P Q a w :=
  wpIn_walk_tail (l.length - 1) hm hB hL E S hS h
theorem wpIn_walk {id : Nat} {a : Act} {w : World} {l : List Oper} {r : Nat} (hm : P.follows .mixedOrders = true) (hlin : (linearB l.toArray && noDefer l.toArray) = true) (hL : ¬ LetsOut Q) (E : World → World → Prop) (S : World → Prop) (hS : S w.drew)
    (h : Walk P l.toArray S E (fun A Fs => ∀ ρ w', S w' → (∀ t F, (t, F) ∈ Fs → F.holds (ρ t) w') → Q .normal (A ρ) w') l (fun _ => a) []) : (Code.region id l.toArray true).wpIn (Fence.wide.inRound r) n P Q a w := by
  rw [Bool.and_eq_true] at hlin
  obtain ⟨hlin, hno⟩ := hlin
  obtain ⟨full, hp, he, hZ⟩ := settle_plan l [] ⟨(fun _ h => by cases h), (fun pre p post he => by simp at he)⟩ h.out
  refine wpIn_region_any hm (anyIn_of (noDefer_spec hno) hL _ _ _ _ (any_order (by simpa using he) (linear_of hlin) hp hZ _ _ a _ (fun _ => undef) (by simp) (fun i j o hj => ?_) ⟨List.range l.toArray.size, by simp, fun i hi _ => List.mem_range.2 hi⟩ ⟨rfl, rfl, fun _ _ => rfl, fun i p t hi => ?_⟩ hS fun i p F d hi => ?_))
  · exfalso; revert hj; simp [Array.getD]
  · exfalso; revert hi; simp [Array.getD]
  · exfalso; revert hi; simp [Array.getD]
end
end Go.Proofs.YtdhjfckckghicaaDoor


namespace Go.Proofs.YtdhjfckckghicaaDoor
set_option linter.unusedVariables false
set_option linter.unusedSimpArgs false
set_option maxRecDepth 100000
open Go.RowKit Go.Shelf

attribute [local go_sem] Oper.semAt_some

/-- what a renamer has, read -/
structure RnI (w : World) (g : Nat) (vo vn : Value) (en : List (Ex.Bs × Ex.Bs)) : Prop where
  c0 : w.cell? ⟨g, 0, none⟩ = some vo
  c1 : w.cell? ⟨g, 1, none⟩ = some vn
  o : SlV w 1 vo (Sr.olds en).length (strs (Sr.olds en))
  n : SlV w 1 vn (Sr.nows en).length (strs (Sr.nows en))
  few : en.length ≤ 8796093022200
theorem RnI.below {w w' : World} {g : Nat} {vo vn : Value} {en : List (Ex.Bs × Ex.Bs)} (h : RnI w g vo vn en) (hb : Below w.heap.size w w') : RnI w' g vo vn en :=
  ⟨(hb.cell (World.block_lt_of_cell? w _ h.c0)).trans h.c0, (hb.cell (World.block_lt_of_cell? w _ h.c1)).trans h.c1, h.o.below hb, h.n.below hb, h.few⟩

theorem blk_own {W W' : World} {row : Option Nat} {g : Nat} {t : TypeId} {cs : List Value} (h : Blk W g t cs) (hg : W.grownBy W' row) (hr : ∀ r, row = some r → ∃ o : Obj, W.heap[r]? = some o ∧ o.isCells = false) : Blk W' g t cs :=
  h.grown hg (fun e => by
    obtain ⟨o, ho, hc⟩ := hr g e.symm
    unfold Blk at h
    rw [h] at ho
    cases ho
    cases hc)

theorem rn_name_in (s : ByteArray) (n : Int) (A : Option Addr) (len cap : Nat) (w : World) (hle : len ≤ cap) (hm : cap ≤ maxLen) (g : Nat) (vo vn : Value) (en : List (Ex.Bs × Ex.Bs)) (h : RnI w g vo vn en) :
    Calls Tryd.prog 31 #[.pointer (some ⟨g, 0, none⟩), .agg (xcells 2 n s A len cap).toArray] w fun e w' => (∃ t, e = .returned (.agg (xcells 2 0 t none 0 0).toArray) ∧ t.data.toList = ((Sr.find s.data.toList en).getD s.data.toList)) ∧ Below w.heap.size w w' := by
  refine (callsIn_wide (n := 3)).1 ?_
  have h1 : 1 ≤ 3 := by omega
  obtain ⟨h0c, h1c, ho, hn, hfew⟩ := h
  obtain ⟨V, vc, rfl, ho1, ho2, ho3, hoc⟩ := ho
  obtain ⟨U, uc, rfl, hn1, hn2, hn3, hnc⟩ := hn
  obtain ⟨zs, hzs⟩ : ∃ zs, zs = Sr.olds en := ⟨_, rfl⟩
  obtain ⟨ys, hys⟩ : ∃ ys, ys = Sr.nows en := ⟨_, rfl⟩
  rw [← hzs] at ho1 hoc h0c
  rw [← hys] at hn1 hnc h1c
  have hzl : zs.length = en.length := by rw [hzs, Sr.olds_length]
  have hyl : ys.length = zs.length := by rw [hys, Sr.nows_length, hzl]
  have HN := Lib.hid (And.intro hzs (And.intro hys (And.intro hzl hyl)))
  have hreach : zs.length ≤ 8796093022200 := by omega
  have hyx : ∀ x : Fin zs.length, x.1 < ys.length := fun x => by omega
  clear hzs hys ho3 hn3 hzl hyl hfew
  refine callsIn_of_wp_marks Tryd.func31 rfl trivial ?_ rfl
  simp only [Tryd.ntmps31, List.size_toArray, List.length_cons, List.length_nil, Nat.reduceAdd, Nat.reduceSub, Array.replicate_succ, Array.replicate_zero, List.push_toArray, List.append_toArray, List.nil_append, List.cons_append]
  obtain ⟨q0, q1, q2, hz, hbw⟩ := allocs3 w [.pointer (some ⟨g, 0, none⟩)] (xcells 2 n s A len cap) Ex.zeros 70 33 33
  have h0' := (hbw.cell (World.block_lt_of_cell? w _ h0c)).trans h0c
  have h1' := (hbw.cell (World.block_lt_of_cell? w _ h1c)).trans h1c
  have hoc' := hoc.keep (B' := w.heap.size) (Nat.le_refl _) (fun p hp => hbw.cell hp)
  have hnc' := hnc.keep (B' := w.heap.size) (Nat.le_refl _) (fun p hp => hbw.cell hp)
  have hg := World.block_lt_of_cell? w _ h0c
  unfold xcells Ex.zeros at q0 q1 q2 hz hbw h0' h1' hoc' hnc'
  have x0 := (q0.cell 0).trans rfl
  have x1 := (q1.cell 0).trans rfl
  simp only [List.getElem?_cons_zero, List.getElem?_cons_succ] at x0 x1
  unfold xcells
  refine wpIn_wide.2 ?_
  go_wp2_with fail
  refine ((callsIn_wide (n := 3)).1 (sback_in Fence.wide _ trivial rfl _ _ _ _)).mono ?_
  rintro e w' ⟨rfl, rfl⟩
  have p0 := q0.alloc (.cells #[.slice V zs.length vc] 25)
  have p1 := q1.alloc (.cells #[.slice V zs.length vc] 25)
  have p2 := q2.alloc (.cells #[.slice V zs.length vc] 25)
  have p3 := Blk.new (((w.alloc (.cells #[.pointer (some ⟨g, 0, none⟩)] 70)).alloc (.cells #[.int .i64 2, .int .i64 n, .string s, .slice A len cap] 33)).alloc (.cells #[.int .i64 0, .int .i64 0, .string ⟨#[]⟩, .slice none 0 0] 33)) 25 [.slice V zs.length vc]
  have hbw3 := below_alloc hbw (.cells #[.slice V zs.length vc] 25)
  clear x0 x1 h0' h1' hoc' hnc' q0 q1 q2
  go_wp2_with fail
  simp only [World.size_alloc] at p3
  generalize (((w.alloc (.cells #[.pointer (some ⟨g, 0, none⟩)] 70)).alloc (.cells #[.int .i64 2, .int .i64 n, .string s, .slice A len cap] 33)).alloc (.cells #[.int .i64 0, .int .i64 0, .string ⟨#[]⟩, .slice none 0 0] 33)).alloc (.cells #[.slice V zs.length vc] 25) = W0 at p0 p1 p2 p3 hbw3 ⊢
  have l3 := p3.lt
  have hsW := hbw3.size
  clear hz hbw
  have e0 : W0.cell? ⟨w.heap.size + 1, 0, none⟩ = some (.int .i64 2) := (p1.cell 0).trans rfl
  have e2 : W0.cell? ⟨w.heap.size + 1, 2, none⟩ = some (.string s) := (p1.cell 2).trans rfl
  have r0 : W0.cell? ⟨w.heap.size, 0, none⟩ = some (.pointer (some ⟨g, 0, none⟩)) := (p0.cell 0).trans rfl
  have g1 : W0.cell? ⟨g, 1, none⟩ = some (.slice U ys.length uc) := (hbw3.cell (World.block_lt_of_cell? w _ h1c)).trans h1c
  have hcW : Cells W0 W0.heap.size V (strs zs) := hoc.keep hsW (fun p hp => hbw3.cell hp)
  have hcU : Cells W0 W0.heap.size U (strs ys) := hnc.keep hsW (fun p hp => hbw3.cell hp)
  refine (wpIn_wide (n := 3)).1 ?_
  refine wpIn_rangeFunc_ownH rfl (by omega) (gf := 49) (lb := #[.pointer (some ⟨w.heap.size + 1 + 1 + 1, 0, none⟩)]) rfl trivial (enters_of Tryd.func49 (by kernel_rfl) rfl)
    (sback_stops Fence.wide 2 trivial rfl (by omega) (w.heap.size + 1 + 1 + 1) W0.heap.size vc V zs hreach W0 l3 (Nat.le_refl _) ((p3.cell 0).trans rfl) hcW) belowK_t (belowK_b (Nat.le_refl _)) (Below.refl _ _) (fun _ => rfl)
    (fun pre W => ((∀ p ∈ pre, (zs[p.1].toList == s.toList) = false) ∧ Blk W (w.heap.size + 1 + 1) 33 [.int .i64 0, .int .i64 0, .string ⟨#[]⟩, .slice none 0 0]) ∧ Below W0.heap.size W0 W)
    (fun c pre W => ((c = .ret ∧ ∃ ini x, pre = ini ++ [x] ∧ (∀ p ∈ ini, (zs[p.1].toList == s.toList) = false) ∧ (zs[x.1].toList == s.toList) = true ∧ Blk W (w.heap.size + 1 + 1) 33 [.int .i64 2, .int .i64 0, .string (ys[x.1]'(hyx x)), .slice none 0 0])) ∧ Below w.heap.size w W)
    (OwnFrom.and (Own.from (fun s A B row hs hg hr => ⟨hs.1, blk_own hs.2 hg hr⟩) _) (ownFrom_below (Nat.le_refl _) (Nat.le_refl _)))
    (fun c => OwnFrom.and (Own.from (fun s A B row hs hg hr => by obtain ⟨hc, ini, x, e1, e2, e3, e4⟩ := hs; exact ⟨hc, ini, x, e1, e2, e3, blk_own e4 hg hr⟩) _) (ownFrom_below (Nat.le_refl _) (by omega)))
    ⟨⟨by simp, p2⟩, Below.refl _ _⟩
    (fun x a' W => a' = { tmps := #[(.pointer (some ⟨g, 0, none⟩)), (.agg #[.int .i64 2, .int .i64 n, .string s, .slice A len cap]), (.pointer (some ⟨w.heap.size, 0, none⟩)), (.pointer (some ⟨w.heap.size + 1, 0, none⟩)), (.pointer (some ⟨w.heap.size + 1 + 1, 0, none⟩)), (.int .i64 (x.1 : Int)), (.string zs[x.1]), (.pointer (some ⟨w.heap.size + 1, 0, none⟩)), (.int .i64 2), (.bool false), (.bool false), undef, undef, undef, (.bool false), (.bool false), undef, undef, undef, undef, (.bool false), undef, undef, undef, undef, undef, undef, undef, undef, undef, undef, undef, undef, undef, undef, undef, undef, (.pointer (some ⟨w.heap.size + 1, 0, none⟩)), (.int .i64 2), (.bool false), (.bool false), undef, undef, undef, undef, undef, (.bool true), (.bool true), (.pointer (some ⟨g, 0, none⟩)), (.pointer (some ⟨g, 0, none⟩)), (.pointer (some ⟨g, 0, none⟩)), (.slice V zs.length vc), (.func (.func 49) #[] #[.pointer (some ⟨w.heap.size + 1 + 1 + 1, 0, none⟩)]), (.int .i64 (x.1 : Int)), (.string zs[x.1]), undef, undef, undef, undef, undef, undef, undef, undef, undef, undef, undef, undef, undef, undef, undef, undef, undef, undef, undef, undef], defers := [] })
    (fun x a' _ X Y row hs hg hr => hs)
    ?assign ?body ?done ?stop
  case assign =>
    rintro l pre x W K ⟨i1, i5⟩ hK
    gi_wp2
    exact hK _ _ (KeepsFrom.refl _ _) (Below.refl _ _) ⟨i1, i5⟩ rfl
  case body =>
    rintro l pre x a' W hl ⟨r, hr⟩ ⟨⟨i1, i2⟩, i5⟩ rfl hlt
    have e2' := (i5.cell (World.block_lt_of_cell? _ _ e2)).trans e2
    rcases hq : (zs[x.1].toList == s.toList) with _ | _
    · gi_wp2
      exact ⟨KeepsFrom.refl _ _, Below.refl _ _, ⟨fun p hp => (List.mem_append.1 hp).elim (i1 p) (fun e => by simp at e; subst e; exact hq), i2⟩, i5⟩
    · have i6 := hbw3.trans (i5.mono (show w.heap.size ≤ W0.heap.size by omega))
      have hxl : x.1 < ys.length := hyx x
      obtain ⟨ub, uo, rfl, hub, hcy⟩ := hcU.str (List.getElem?_eq_getElem hxl)
      obtain ⟨y, hy⟩ : ∃ y, y = ys[x.1] := ⟨_, rfl⟩
      rw [← hy] at hcy
      have HY := Lib.hid hy
      clear hy
      have keepS : ∀ w', Below W.heap.size W w' → (Below W.heap.size W w' ∧ w'.cell? ⟨w.heap.size, 0, none⟩ = some (.pointer (some ⟨g, 0, none⟩)) ∧ w'.cell? ⟨w.heap.size + 1, 0, none⟩ = some (.int .i64 2) ∧ w'.cell? ⟨g, 1, none⟩ = some (.slice (some ⟨ub, uo, none⟩) ys.length uc) ∧ w'.cell? ⟨ub, uo + x.1, none⟩ = some (.string y)) := fun w' hb => by
        have hb' := below_next hb i5
        exact ⟨hb, (hb'.cell (World.block_lt_of_cell? _ _ r0)).trans r0, (hb'.cell (World.block_lt_of_cell? _ _ e0)).trans e0, (hb'.cell (World.block_lt_of_cell? _ _ g1)).trans g1, (hb'.cell hub).trans hcy⟩
      have hS0 := keepS _ (below_drew (Below.refl _ _))
      have hnx : x.1 < 9223372036854775808 := by omega
      gi_wp2_with fail
      refine wpIn_walk_last (by kernel_rfl) (by kernel_rfl) (by rintro ⟨_, _, h⟩; exact h) (fun w w' => Below w.heap.size w w') (fun w' => (Below W.heap.size W w' ∧ w'.cell? ⟨w.heap.size, 0, none⟩ = some (.pointer (some ⟨g, 0, none⟩)) ∧ w'.cell? ⟨w.heap.size + 1, 0, none⟩ = some (.int .i64 2) ∧ w'.cell? ⟨g, 1, none⟩ = some (.slice (some ⟨ub, uo, none⟩) ys.length uc) ∧ w'.cell? ⟨ub, uo + x.1, none⟩ = some (.string y))) hS0 ?_
      simp only [List.length_cons, List.length_nil, Nat.reduceAdd, Nat.reduceSub, List.take_succ_cons, List.take_zero, List.drop_succ_cons, List.drop_zero]
      repeat (first | (refine settle_skip (fun _ => by rfl) ?_; (simp only [Act.put, List.setIfInBounds_toArray, List.set_cons_zero, List.set_cons_succ])) | (refine' settle_run (fun _ _ => Below.refl _ _) (fun _ => by rfl) ?_ ?_; rotate_left; (focus (intro ρ w hS hF; (try dsimp only at hS); go_split_ands; go_simp; try with_reducible rfl)); (simp only [Act.put, List.setIfInBounds_toArray, List.set_cons_zero, List.set_cons_succ])))
      refine settle_nil ?_
      intro ρ w4 hS hF
      dsimp only
      have hb4 := hS.1
      have k1 : KeepsFrom W0.heap.size W w4 := KeepsFrom.of_grownBy (grown_of_below hb4 none) (fun j e => by cases e)
      have hB4 := i2.below hb4
      have hlt4 : w.heap.size + 1 + 1 < W0.heap.size := by omega
      clear hS hF hS0 keepS
      refine wpl_put_blk hB4 [.int .i64 2, .int .i64 0, .string y, .slice none 0 0] (by kernel_rfl) rfl (xcells_one 2 0 y none 0 0) rfl rfl rfl rfl ?_
      intro w5 hB5 hg5
      have k2 : KeepsFrom W0.heap.size W w5 := k1.trans (KeepsFrom.of_grownBy hg5 (fun j e => by injection e with e; omega))
      have hb5 : Below w.heap.size w w5 := (i6.trans (hb4.mono (by have := i6.size; omega))).trans (below_of_grown hg5 (by have := i6.size; have := hb4.size; omega) (by omega))
      have HX := Lib.hid (And.intro k2 (And.intro hb5 hB5))
      clear k1 k2 hb4 hB4 hg5 hb5 hB5
      go_wp2
      gi_wp2
      exact ⟨HX.out.1, ⟨rfl, pre, x, rfl, i1, hq, by rw [← HY.out]; exact HX.out.2.2⟩, HX.out.2.1⟩
  case done =>
    rintro D ys' W hD rfl ⟨⟨i1, i2⟩, i0⟩ hK
    have i5 := hbw3.trans (i0.mono (show w.heap.size ≤ W0.heap.size by omega))
    have e0' := (i0.cell (World.block_lt_of_cell? _ _ e0)).trans e0
    have e2' := (i0.cell (World.block_lt_of_cell? _ _ e2)).trans e2
    have hlt4 : w.heap.size + 1 + 1 < W.heap.size := by have := i0.size; omega
    have hend : ∀ w3, Blk w3 (w.heap.size + 1 + 1) 33 [.int .i64 2, .int .i64 0, .string s, .slice none 0 0] → W.grownBy w3 (some (w.heap.size + 1 + 1)) → Below w.heap.size w w3 ∧ w3.heap[D]? = some (.deferred (some [])) := fun w3 h3 g3 =>
      ⟨i5.trans (below_of_grown g3 i5.size (by omega)), (g3.block D (Array.getElem?_eq_some_iff.1 hK).1 (fun e => by injection e with e; omega)).trans hK⟩
    clear i0 i5
    go_wp2_with (refine wpl_put_blk i2 [.int .i64 2, .int .i64 0, .string s, .slice none 0 0] (by kernel_rfl) rfl (xcells_one 2 0 s none 0 0) rfl rfl rfl rfl ?_; intro w3 hB3 hg3; obtain ⟨hb3, hK3⟩ := hend w3 hB3 hg3)
    refine ⟨by simp, .inl ⟨_, _, rfl, run_takeDeferred hK3, ?_⟩⟩
    have hB4 : Blk (w3.putObj D (.deferred none)) (w.heap.size + 1 + 1) 33 [.int .i64 2, .int .i64 0, .string s, .slice none 0 0] := blk_own hB3 (grownBy_putObj' _ D (.deferred none)) (fun r e => by cases e; exact ⟨_, hK3, rfl⟩)
    refine ⟨_, results_cell_row rfl _ _ (w.heap.size + 1 + 1) 33 _ (0, 0) _ rfl hB4 Tryd.underlying33 rfl (by kernel_rfl), ⟨s, rfl, ?_⟩, hb3.trans (belowK_b (w := w) (Nat.le_refl _) w3 D _ _ (by omega) hK3 rfl rfl)⟩
    obtain ⟨rfl, rfl, -, -⟩ := HN.out
    rw [Sr.find_dn_none s en i1]
    rfl
  case stop =>
    rintro D c pre W hD ⟨m, hm, rfl⟩ ⟨⟨rfl, ini, x, e1, e2, e3, e4⟩, i5⟩ hK
    gi_wp2
    refine ⟨by simp, .inl ⟨_, _, rfl, run_takeDeferred hK, ?_⟩⟩
    have hB4 := blk_own e4 (grownBy_putObj' _ D (.deferred none)) (fun r e => by cases e; exact ⟨_, hK, rfl⟩)
    refine ⟨_, results_cell_row rfl _ _ (w.heap.size + 1 + 1) 33 _ (0, 0) _ rfl hB4 Tryd.underlying33 rfl (by kernel_rfl), ⟨_, rfl, ?_⟩, i5.trans (belowK_b (w := w) (Nat.le_refl _) W D _ _ (by omega) hK rfl rfl)⟩
    obtain ⟨rfl, rfl, -, -⟩ := HN.out
    rw [Sr.find_dn_some s en m hm ini x e1 e3 e2 (hyx x)]
    rfl
end Go.Proofs.YtdhjfckckghicaaDoor


namespace Go.Proofs.YtdhjfckckghicaaDoor
set_option linter.unusedVariables false
set_option linter.unusedSimpArgs false
set_option maxRecDepth 100000
open Go.RowKit

/-! ### what is seen through some blocks stays where only others are turned -/
section
variable {S S' T : Nat → Prop} {w w' : World} {cs : List Value}
theorem only_kept (k : Keeps T w w') (hS : ∀ g, g < w.heap.size → S g → S' g ∧ ¬ T g) : ∀ (p : Addr) (v : Value), p.block < w.heap.size → (only w S).cell? p = some v → (only w' S').cell? p = some v := fun p v hp hv => by
  obtain ⟨h1, h2⟩ := only_some.1 hv
  obtain ⟨h3, h4⟩ := hS _ hp h1
  exact only_some.2 ⟨h3, (World.cell?_of_block (k.block _ hp h4)).trans h2⟩
/-- an expression as the program makes it, in those blocks alone -/
def NS (S : Nat → Prop) (w : World) (cs : List Value) (e : Ex.X) : Prop := XN w.heap.size (only w S) cs e
theorem NS.kept {e : Ex.X} (h : NS S w cs e) (k : Keeps T w w') (hS : ∀ g, g < w.heap.size → S g → S' g ∧ ¬ T g) : NS S' w' cs e := XRN.mono h k.size (only_kept k hS)
theorem NS.later {e : Ex.X} (h : NS S w cs e) (hb : Below w.heap.size w w') : NS S w' cs e := h.kept (Keeps.of_below hb (fun _ => False)) fun _ _ hs => ⟨hs, id⟩
theorem NS.imp {e : Ex.X} (h : NS S w cs e) (hS : ∀ g, g < w.heap.size → S g → S' g) : NS S' w cs e := h.kept (Keeps.refl (fun _ => False) w) fun g hg hs => ⟨hS g hg hs, id⟩
theorem NS.xn {e : Ex.X} (h : NS S w cs e) : XN w.heap.size w cs e := XRN.mono h (Nat.le_refl _) fun p v hp hv => (only_some.1 hv).2
theorem NS.num (n : Int) (hr : Ex.rng n) : NS S w (xcells 1 n ⟨#[]⟩ none 0 0) (.num n) := XRN.num n ⟨#[]⟩ none 0 0 (Nat.le_refl _) (Nat.zero_le _) hr
theorem NS.name (s : ByteArray) : NS S w (xcells 2 0 s none 0 0) (.name s.data.toList) := XRN.name 0 s none 0 0 (Nat.le_refl _) (Nat.zero_le _)
/-- two of them side by side in a block -/
theorem NS.two {t : TypeId} {q : Nat} {c0 c1 : List Value} {e0 e1 : Ex.X} {k : Int} (h0 : NS S w c0 e0) (h1 : NS S w c1 e1) (hB : Blk w q t (c0 ++ c1)) (hq : S q) (hk3 : 3 ≤ k) (hk9 : k ≤ 9) : NS S w (xcells k 0 ⟨#[]⟩ (some ⟨q, 0, none⟩) 2 2) (.two k e0 e1) := by
  have hl : c0.length = 4 := by
    obtain ⟨_, _, _, _, _, _, rfl, -, -⟩ := h0.form
    rfl
  refine XRN.two k 0 ⟨#[]⟩ q 0 2 2 c0 c1 e0 e1 (Nat.le_refl _) (by decide) hk3 hk9 (Nat.le_refl _) hB.lt (fun j u hu => only_some.2 ⟨hq, ?_⟩) (fun j u hu => only_some.2 ⟨hq, ?_⟩) h0 h1 (fun _ => ⟨rfl, rfl, rfl⟩)
  · rw [Nat.zero_add, hB.cell, List.getElem?_append_left (List.getElem?_eq_some_iff.1 hu).1]
    exact hu
  · rw [hB.cell, List.getElem?_append_right (by omega), hl, show 0 + 4 + j - 4 = j by omega]
    exact hu
end
/-- a value that is so -/
def FNS (S : Nat → Prop) (x : Ex.X) : Fact (fun w w' => Below w.heap.size w w') := ⟨fun v w => ∃ cs, v = .agg cs.toArray ∧ NS S w cs x, fun _ _ _ h k => by obtain ⟨cs, h1, h2⟩ := h; exact ⟨cs, h1, h2.later k⟩⟩
/-- two of them in a new block -/
def FTwo (S : Nat → Prop) (a b : Ex.X) : Fact (fun w w' => Below w.heap.size w w') := ⟨fun v w => ∃ q c0 c1, v = .slice (some ⟨q, 0, none⟩) 2 2 ∧ S q ∧ Blk w q 33 (c0 ++ c1) ∧ NS S w c0 a ∧ NS S w c1 b, fun _ _ _ h k => by obtain ⟨q, c0, c1, h1, h2, h3, h4, h5⟩ := h; exact ⟨q, c0, c1, h1, h2, h3.below k, h4.later k, h5.later k⟩⟩

def RnxOK (e : Ex.X) : Prop := ∀ (w : World) (cs : List Value) (g : Nat) (vo vn : Value) (en : List (Ex.Bs × Ex.Bs)), XR w.heap.size w cs e → RnI w g vo vn en →
  Calls Tryd.prog 31 #[.pointer (some ⟨g, 0, none⟩), .agg cs.toArray] w fun r w' => ∃ cs', r = .returned (.agg cs'.toArray) ∧ NS (fun b => w.heap.size ≤ b) w' cs' (Sr.rnx en e) ∧ Below w.heap.size w w'

theorem rnx_num (n : Int) (s : ByteArray) (A : Option Addr) (len cap : Nat) (hle : len ≤ cap) (hm : cap ≤ maxLen) (w : World) (g : Nat) (hr : Ex.rng n) :
    Calls Tryd.prog 31 #[.pointer (some ⟨g, 0, none⟩), .agg (xcells 1 n s A len cap).toArray] w fun r w' => r = .returned (.agg (xcells 1 n ⟨#[]⟩ none 0 0).toArray) ∧ Below w.heap.size w w' := by
  obtain ⟨q0, q1, q2, hz, hbw⟩ := allocs3 w [.pointer (some ⟨g, 0, none⟩)] (xcells 1 n s A len cap) Ex.zeros 70 33 33
  unfold xcells Ex.zeros at q0 q1 q2 hz hbw
  have hB := hbw.size
  unfold xcells
  go_enter Tryd.func31, Tryd.ntmps31
  go_wp2_with (refine wpl_put_blk q2 [.int .i64 1, .int .i64 n, .string ⟨#[]⟩, .slice none 0 0] (by kernel_rfl) rfl (xcells_one 1 n ⟨#[]⟩ none 0 0) rfl rfl rfl rfl ?_; intro w3 hB3 hg3)
  exact ret_blk hB3 rfl rfl Tryd.underlying33 rfl (by kernel_rfl) rfl ⟨rfl, hbw.trans (below_of_grown hg3 hB (by omega))⟩

theorem rnx_bad (k n : Int) (s : ByteArray) (A : Option Addr) (len cap : Nat) (hle : len ≤ cap) (hm : cap ≤ maxLen) (w : World) (g : Nat) (h1 : k ≠ 1) (h2 : k ≠ 2) (hno : ¬ ((3 ≤ k ∧ k ≤ 9) ∧ 2 ≤ len)) :
    Calls Tryd.prog 31 #[.pointer (some ⟨g, 0, none⟩), .agg (xcells k n s A len cap).toArray] w fun r w' => r = .returned (.agg (xcells 1 0 ⟨#[]⟩ none 0 0).toArray) ∧ Below w.heap.size w w' := by
  obtain ⟨q0, q1, q2, hz, hbw⟩ := allocs3 w [.pointer (some ⟨g, 0, none⟩)] (xcells k n s A len cap) Ex.zeros 70 33 33
  unfold xcells Ex.zeros at q0 q1 q2 hz hbw
  have hB := hbw.size
  have b1 : (k == 1) = false := by simpa using h1
  have b2 : (k == 2) = false := by simpa using h2
  unfold xcells
  unfold maxLen at hm
  by_cases h3 : 3 ≤ k
  · have g1 : decide (3 ≤ k) = true := by simpa using h3
    by_cases h9 : k ≤ 9
    · have g2 : decide (k ≤ 9) = true := by simpa using h9
      have g3 : decide ((2 : Int) ≤ (len : Int)) = false := by simp; omega
      have g3' : decide (2 ≤ len) = false := by simp; omega
      clear hno h1 h2 h3 h9
      go_enter Tryd.func31, Tryd.ntmps31
      go_wp2_with (refine wpl_put_blk q2 [.int .i64 1, .int .i64 0, .string ⟨#[]⟩, .slice none 0 0] (by kernel_rfl) rfl (xcells_one 1 0 ⟨#[]⟩ none 0 0) rfl rfl rfl rfl ?_; intro w3 hB3 hg3)
      exact ret_blk hB3 rfl rfl Tryd.underlying33 rfl (by kernel_rfl) rfl ⟨rfl, hbw.trans (below_of_grown hg3 hB (by omega))⟩
    · have g2 : decide (k ≤ 9) = false := by simpa using h9
      clear hno h1 h2 h3 h9
      go_enter Tryd.func31, Tryd.ntmps31
      go_wp2_with (refine wpl_put_blk q2 [.int .i64 1, .int .i64 0, .string ⟨#[]⟩, .slice none 0 0] (by kernel_rfl) rfl (xcells_one 1 0 ⟨#[]⟩ none 0 0) rfl rfl rfl rfl ?_; intro w3 hB3 hg3)
      exact ret_blk hB3 rfl rfl Tryd.underlying33 rfl (by kernel_rfl) rfl ⟨rfl, hbw.trans (below_of_grown hg3 hB (by omega))⟩
  · have g1 : decide (3 ≤ k) = false := by simpa using h3
    clear hno h1 h2 h3
    go_enter Tryd.func31, Tryd.ntmps31
    go_wp2_with (refine wpl_put_blk q2 [.int .i64 1, .int .i64 0, .string ⟨#[]⟩, .slice none 0 0] (by kernel_rfl) rfl (xcells_one 1 0 ⟨#[]⟩ none 0 0) rfl rfl rfl rfl ?_; intro w3 hB3 hg3)
    exact ret_blk hB3 rfl rfl Tryd.underlying33 rfl (by kernel_rfl) rfl ⟨rfl, hbw.trans (below_of_grown hg3 hB (by omega))⟩

set_option maxHeartbeats 2000000 in
theorem rnx_two (k : Int) (e0 e1 : Ex.X) (ih0 : RnxOK e0) (ih1 : RnxOK e1) : RnxOK (.two k e0 e1) := by
  intro w cs g vo vn en h hI
  cases h with
  | two k n s gg o len cap d0 d1 e0 e1 hle hm hk3 hk9 hl2 hg h5 h6 r0 r1 =>
  obtain ⟨a0, a1, a2, A3, a4, a5, rfl, -, -⟩ := r0.form
  obtain ⟨b0, b1, b2, B3, b4, b5, rfl, -, -⟩ := r1.form
  obtain ⟨q0, q1, q2, hz, hbw⟩ := allocs3 w [.pointer (some ⟨g, 0, none⟩)] (xcells k n s (some ⟨gg, o, none⟩) len cap) Ex.zeros 70 33 33
  unfold xcells Ex.zeros at q0 q1 q2 hz hbw
  have g1 : decide (3 ≤ k) = true := by simpa using hk3
  have g2 : decide (k ≤ 9) = true := by simpa using hk9
  have g3 : decide ((2 : Int) ≤ (len : Int)) = true := by simp; omega
  have l0 : 0 < len := by omega
  have l1 : 1 < len := by omega
  have l1' : (1 : Int) < (len : Int) := by omega
  have hH := hbw.size
  have a0' := h5 0 _ rfl
  have a1' := h5 1 _ rfl
  have a2' := h5 2 _ rfl
  have a3' := h5 3 _ rfl
  have b0' := h6 0 _ rfl
  have b1' := h6 1 _ rfl
  have b2' := h6 2 _ rfl
  have b3' := h6 3 _ rfl
  unfold maxLen at hm
  have HK := Lib.hid (And.intro hk3 hk9)
  clear h5 h6 hk3 hk9
  unfold xcells
  go_enter Tryd.func31, Tryd.ntmps31
  go_wp2_with fail
  simp only [Nat.add_zero] at a0' b0'
  have hlt : ∀ {p : Addr} {v : Value}, w.cell? p = some v → ∀ W', Below w.heap.size w W' → W'.cell? p = some v := fun h W' hb => (hb.cell (World.block_lt_of_cell? w _ h)).trans h
  generalize (((w.alloc (.cells #[.pointer (some ⟨g, 0, none⟩)] 70)).alloc (.cells #[.int .i64 k, .int .i64 n, .string s, .slice (some ⟨gg, o, none⟩) len cap] 33)).alloc (.cells #[.int .i64 0, .int .i64 0, .string ⟨#[]⟩, .slice none 0 0] 33)) = W at q0 q1 q2 hz hbw hH ⊢
  obtain ⟨p, hp⟩ : ∃ p, p = w.heap.size := ⟨_, rfl⟩
  have keepS : ∀ w', Below W.heap.size W w' → (Below W.heap.size W w' ∧ w'.cell? ⟨p, 0, none⟩ = some (.pointer (some ⟨g, 0, none⟩)) ∧ w'.cell? ⟨p + 1, 0, none⟩ = some (.int .i64 k) ∧ w'.cell? ⟨p + 1, 3, none⟩ = some (.slice (some ⟨gg, o, none⟩) len cap) ∧
      w'.cell? ⟨gg, o, none⟩ = some (.int .i64 a0) ∧ w'.cell? ⟨gg, o + 1, none⟩ = some (.int .i64 a1) ∧ w'.cell? ⟨gg, o + 2, none⟩ = some (.string a2) ∧ w'.cell? ⟨gg, o + 3, none⟩ = some (.slice A3 a4 a5) ∧
      w'.cell? ⟨gg, o + 4, none⟩ = some (.int .i64 b0) ∧ w'.cell? ⟨gg, o + 4 + 1, none⟩ = some (.int .i64 b1) ∧ w'.cell? ⟨gg, o + 4 + 2, none⟩ = some (.string b2) ∧ w'.cell? ⟨gg, o + 4 + 3, none⟩ = some (.slice B3 b4 b5)) := fun w' hb => by
    rw [hp]
    have hb' := below_next hb hbw
    exact ⟨hb, ((q0.below hb).cell 0).trans rfl, ((q1.below hb).cell 0).trans rfl, ((q1.below hb).cell 3).trans rfl, hlt a0' _ hb', hlt a1' _ hb', hlt a2' _ hb', hlt a3' _ hb', hlt b0' _ hb', hlt b1' _ hb', hlt b2' _ hb', hlt b3' _ hb'⟩
  have gE : ∀ (w' : World) (cs : List Value) (e : Ex.X), Below W.heap.size W w' → RnxOK e → XR w.heap.size w cs e → Calls Tryd.prog 31 #[.pointer (some ⟨g, 0, none⟩), .agg cs.toArray] w' fun r w'' => ∃ v, r = .returned v ∧ (FNS (fun b => p + 1 + 1 < b) (Sr.rnx en e)).holds v w'' ∧ Below w'.heap.size w' w'' := fun w' cs e hb ih hx => by
    have hb' := below_next hb hbw
    refine (ih w' cs g vo vn en ((hx.later hb').up hb'.size) (hI.below hb')).mono ?_
    rintro r w'' ⟨cs', rfl, h1, h2⟩
    exact ⟨_, rfl, ⟨cs', rfl, h1.imp fun b _ hb2 => by have := hb.size; show p + 1 + 1 < b; have : w'.heap.size ≤ b := hb2; omega⟩, h2⟩
  have g0 := fun w' hb => gE w' _ e0 hb ih0 r0
  have g1' := fun w' hb => gE w' _ e1 hb ih1 r1
  have hS0 := keepS _ (below_drew (Below.refl _ _))
  rw [← hp] at q2 hz ⊢
  have HB := Lib.hid (And.intro hbw (And.intro hp (And.intro hz hH)))
  clear a0' a1' a2' a3' b0' b1' b2' b3' q0 q1 hlt hI r0 r1 ih0 ih1 gE hbw hp hz hH
  unfold xcells at g0 g1'
  refine wp_walk_last (by kernel_rfl) (by kernel_rfl) (fun w w' => Below w.heap.size w w') (fun w' => (Below W.heap.size W w' ∧ w'.cell? ⟨p, 0, none⟩ = some (.pointer (some ⟨g, 0, none⟩)) ∧ w'.cell? ⟨p + 1, 0, none⟩ = some (.int .i64 k) ∧ w'.cell? ⟨p + 1, 3, none⟩ = some (.slice (some ⟨gg, o, none⟩) len cap) ∧ w'.cell? ⟨gg, o, none⟩ = some (.int .i64 a0) ∧ w'.cell? ⟨gg, o + 1, none⟩ = some (.int .i64 a1) ∧ w'.cell? ⟨gg, o + 2, none⟩ = some (.string a2) ∧ w'.cell? ⟨gg, o + 3, none⟩ = some (.slice A3 a4 a5) ∧ w'.cell? ⟨gg, o + 4, none⟩ = some (.int .i64 b0) ∧ w'.cell? ⟨gg, o + 4 + 1, none⟩ = some (.int .i64 b1) ∧ w'.cell? ⟨gg, o + 4 + 2, none⟩ = some (.string b2) ∧ w'.cell? ⟨gg, o + 4 + 3, none⟩ = some (.slice B3 b4 b5))) hS0 ?_
  simp only [List.length_cons, List.length_nil, Nat.reduceAdd, Nat.reduceSub, List.take_succ_cons, List.take_zero, List.drop_succ_cons, List.drop_zero]
  repeat (first | (refine settle_skip (fun _ => by rfl) ?_; (simp only [Act.put, List.setIfInBounds_toArray, List.set_cons_zero, List.set_cons_succ])) | (refine' settle_run (fun _ _ => Below.refl _ _) (fun _ => by rfl) ?_ ?_; rotate_left; (focus (intro ρ w hS hF; (try dsimp only at hS); go_split_ands; go_simp; try with_reducible rfl)); (simp only [Act.put, List.setIfInBounds_toArray, List.set_cons_zero, List.set_cons_succ])))
  (refine settle_known (FNS (fun b ↦ p + 1 + 1 < b) (Sr.rnx en e0)) (by rfl) (fun _ => by rfl)  ?_ ?_; (focus (intro ρ w hS hF K hK; (simp only [Act.put, List.setIfInBounds_toArray, List.set_cons_zero, List.set_cons_succ] at hK); go_simp; (refine (g0 _ hS.1).mono ?_; rintro e w' ⟨v, rfl, hF', hb'⟩; exact hK _ _ hF' (keepS _ (below_next hb' hS.1)) hb'))); (simp only [Act.put, List.setIfInBounds_toArray, List.set_cons_zero, List.set_cons_succ]))
  repeat (first | (refine settle_skip (fun _ => by rfl) ?_; (simp only [Act.put, List.setIfInBounds_toArray, List.set_cons_zero, List.set_cons_succ])) | (refine' settle_run (fun _ _ => Below.refl _ _) (fun _ => by rfl) ?_ ?_; rotate_left; (focus (intro ρ w hS hF; (try dsimp only at hS); go_split_ands; go_simp; try with_reducible rfl)); (simp only [Act.put, List.setIfInBounds_toArray, List.set_cons_zero, List.set_cons_succ])))
  (refine settle_known (FNS (fun b ↦ p + 1 + 1 < b) (Sr.rnx en e1)) (by rfl) (fun _ => by rfl)  ?_ ?_; (focus (intro ρ w hS hF K hK; (simp only [Act.put, List.setIfInBounds_toArray, List.set_cons_zero, List.set_cons_succ] at hK); go_simp; (refine (g1' _ hS.1).mono ?_; rintro e w' ⟨v, rfl, hF', hb'⟩; exact hK _ _ hF' (keepS _ (below_next hb' hS.1)) hb'))); (simp only [Act.put, List.setIfInBounds_toArray, List.set_cons_zero, List.set_cons_succ]))
  repeat (first | (refine settle_skip (fun _ => by rfl) ?_; (simp only [Act.put, List.setIfInBounds_toArray, List.set_cons_zero, List.set_cons_succ])) | (refine' settle_run (fun _ _ => Below.refl _ _) (fun _ => by rfl) ?_ ?_; rotate_left; (focus (intro ρ w hS hF; (try dsimp only at hS); go_split_ands; go_simp; try with_reducible rfl)); (simp only [Act.put, List.setIfInBounds_toArray, List.set_cons_zero, List.set_cons_succ])))
  (refine settle_known (FTwo (fun b ↦ p + 1 + 1 < b) (Sr.rnx en e0) (Sr.rnx en e1)) (by rfl) (fun _ => by rfl)  ?_ ?_; (focus (intro ρ w hS hF K hK; (simp only [Act.put, List.setIfInBounds_toArray, List.set_cons_zero, List.set_cons_succ] at hK); go_simp; (obtain ⟨c1, e34, r34⟩ := hF.1 (by rfl); obtain ⟨c0, e28, r28⟩ := hF.2.1 (by rfl); obtain ⟨x0, x1, x2, X3, x4, x5, rfl, -, -⟩ := XRN.form r28; obtain ⟨y0, y1, y2, Y3, y4, y5, rfl, -, -⟩ := XRN.form r34; unfold xcells at e28 e34; simp only [e28, e34]; go_simp; have hbl : Below w.heap.size w (w.alloc (.cells (xcells x0 x1 x2 X3 x4 x5 ++ xcells y0 y1 y2 Y3 y4 y5).toArray 33)) := below_alloc (Below.refl _ _) _; have hK2 := hK _ _ ⟨w.heap.size, _, _, rfl, by have := hS.1.size; have := HB.out; show p + 1 + 1 < w.heap.size; omega, Blk.new w 33 _, r28.later hbl, r34.later hbl⟩ (keepS _ (hS.1.alloc hS.1.size _)) hbl; simp only [e28, e34] at hK2; exact hK2))); (simp only [Act.put, List.setIfInBounds_toArray, List.set_cons_zero, List.set_cons_succ]))
  repeat (first | (refine settle_skip (fun _ => by rfl) ?_; (simp only [Act.put, List.setIfInBounds_toArray, List.set_cons_zero, List.set_cons_succ])) | (refine' settle_run (fun _ _ => Below.refl _ _) (fun _ => by rfl) ?_ ?_; rotate_left; (focus (intro ρ w hS hF; (try dsimp only at hS); go_split_ands; go_simp; try with_reducible rfl)); (simp only [Act.put, List.setIfInBounds_toArray, List.set_cons_zero, List.set_cons_succ])))
  (refine settle_known (FNS (fun b ↦ p + 1 + 1 < b) (Sr.rnx en (.two k e0 e1))) (by rfl) (fun _ => by rfl)  ?_ ?_; (focus (intro ρ w hS hF K hK; (simp only [Act.put, List.setIfInBounds_toArray, List.set_cons_zero, List.set_cons_succ] at hK); go_simp; (obtain ⟨q, c0, c1, e35, hq, hB, r28, r34⟩ := hF.1 (by rfl); simp only [e35]; go_simp; have hK2 := hK _ _ ⟨xcells k 0 ⟨#[]⟩ (some ⟨q, 0, none⟩) 2 2, rfl, NS.two r28 r34 hB hq HK.out.1 HK.out.2⟩ hS (Below.refl _ _); simp only [e35] at hK2; exact hK2))); (simp only [Act.put, List.setIfInBounds_toArray, List.set_cons_zero, List.set_cons_succ]))
  refine settle_nil ?_
  intro ρ w4 hS hF
  obtain ⟨cs, e36, h36⟩ := hF 36 (FNS (fun b => p + 1 + 1 < b) (Sr.rnx en (.two k e0 e1))) (by repeat (first | exact List.mem_cons_self | apply List.mem_cons_of_mem))
  have hb4 := hS.1
  clear hF hS hS0 keepS g0 g1'
  dsimp only
  rw [e36]
  obtain ⟨x0, x1, x2, X3, x4, x5, rfl, -, -⟩ := XRN.form h36
  obtain ⟨hbw, hp, hz, hH⟩ := HB.out
  have hB4 := q2.below hb4
  have hl4 := hb4.size
  have hend : ∀ w5, w4.grownBy w5 (some (p + 1 + 1)) → NS (fun b => w.heap.size ≤ b) w5 (xcells x0 x1 x2 X3 x4 x5) (Sr.rnx en (.two k e0 e1)) ∧ Below w.heap.size w w5 := fun w5 hg5 => by
    refine ⟨?_, (below_next hb4 hbw).trans (below_of_grown hg5 (by omega) (by omega))⟩
    exact h36.kept (Keeps.of_grown hg5) fun b _ hb => ⟨by have : p + 1 + 1 < b := hb; show w.heap.size ≤ b; omega, fun e => by have : p + 1 + 1 < b := hb; injection e with e; omega⟩
  refine wpl_put_blk hB4 [.int .i64 x0, .int .i64 x1, .string x2, .slice X3 x4 x5] (by kernel_rfl) rfl (xcells_one x0 x1 x2 X3 x4 x5) rfl rfl rfl rfl ?_
  intro w5 hB5 hg5
  have he5 := hend w5 hg5
  clear hend hg5 hB4 h36 e36 hbw hp hz hH
  go_wp2
  exact ret_blk hB5 rfl rfl Tryd.underlying33 rfl (by kernel_rfl) rfl ⟨_, rfl, he5⟩

theorem rnx_any (e : Ex.X) : RnxOK e := by
  induction e with
  | num n =>
    intro w cs g vo vn en h hI
    cases h with
    | num n s A len cap h1 h2 h3 => exact (rnx_num n s A len cap h1 h2 w g h3).mono fun r w' ⟨e1, e2⟩ => ⟨_, e1, NS.num n h3, e2⟩
  | name s =>
    intro w cs g vo vn en h hI
    cases h with
    | name n s A len cap h1 h2 =>
      refine (rn_name_in s n A len cap w h1 h2 g vo vn en hI).mono fun r w' ⟨⟨t, e1, e3⟩, e2⟩ => ⟨_, e1, ?_, e2⟩
      rw [Sr.rnx, ← e3]
      exact NS.name t
  | two k e0 e1 i0 i1 => exact rnx_two k e0 e1 i0 i1
  | bad =>
    intro w cs g vo vn en h hI
    cases h with
    | bad k n s A len cap h1 h2 h3 h4 h5 => exact (rnx_bad k n s A len cap h1 h2 w g h3 h4 h5).mono fun r w' ⟨e1, e2⟩ => ⟨_, e1, NS.num 0 (by unfold Ex.rng; omega), e2⟩
end Go.Proofs.YtdhjfckckghicaaDoor


namespace Go.Proofs.YtdhjfckckghicaaDoor
set_option linter.unusedVariables false
set_option linter.unusedSimpArgs false
set_option maxRecDepth 100000
open Go Go.RowKit

theorem part_get {α : Type} (l vs : List α) (off k : Nat) (h : off + k ≤ l.length) (hv : vs.length = k) (i : Nat) : (l.take off ++ vs ++ l.drop (off + k))[i]? = if i < off then l[i]? else if i < off + k then vs[i - off]? else l[i]? := by
  have l1 : (l.take off).length = off := by simp; omega
  have l2 : (l.take off ++ vs).length = off + k := by simp [hv]; omega
  by_cases h1 : i < off
  · rw [if_pos h1, List.getElem?_append_left (by omega), List.getElem?_append_left (by omega), List.getElem?_take_of_lt h1]
  · rw [if_neg h1]
    by_cases h2 : i < off + k
    · rw [if_pos h2, List.getElem?_append_left (by omega), List.getElem?_append_right (by omega), l1]
    · rw [if_neg h2, List.getElem?_append_right (by omega), l2, List.getElem?_drop]
      congr 1; omega

section
variable {P : Go.Program} {w w' : World} {base : Nat} {e : TypeId} {size g n c : Nat} {xs : List Value} {ops : Array Oper} {rest : List Oper} {o : Oper} {a : Act} {Q : Exit → Act → World → Prop}
theorem row_blk (h : w.ownsRow base e size (.slice (some ⟨g, 0, none⟩) n c) n xs) : ∃ cs, Blk w g e cs ∧ cs.length = c * size ∧ cs.take (n * size) = xs ∧ n ≤ c ∧ c ≤ maxLen ∧ base ≤ g := by
  rcases h.2 with ⟨h', _⟩ | ⟨g1, cap, cur, he, hb, hh, hle, hm, hs, ht⟩
  · cases h'
  · cases he
    exact ⟨cur.toList, hh, by simpa using hs, ht, hle, hm, hb⟩
theorem row_of_blk {cs : List Value} (h : Blk w g e cs) (hl : cs.length = c * size) (hb : base ≤ g) (hn : n ≤ c) (hm : c ≤ maxLen) : w.ownsRow base e size (.slice (some ⟨g, 0, none⟩) n c) n (cs.take (n * size)) :=
  ⟨by rw [List.length_take, hl]; exact Nat.min_eq_left (Nat.mul_le_mul_right _ hn), .inr ⟨g, c, cs.toArray, rfl, hb, h, hn, hm, by simpa using hl, by simp⟩⟩

theorem wpl_set_row (h : w.ownsRow base e size (.slice (some ⟨g, 0, none⟩) n c) n xs) (i : Nat) (u : Value) {ty : TypeId} (hi : (P.info? ty).map (·.size) = some 1) (hk : i < n * size) (hu : u.cells = #[u]) (h1 : u.oneCell' = true)
    (hgd : Region.wanted o (yielded ops a.tmps) = true) {x y : Operand} (ho : o.op = .store ty x y) (hx : a.eval x = .pointer (some ⟨g, i, none⟩)) (hy : a.eval y = u)
    (hK : ∀ w', w'.ownsRow base e size (.slice (some ⟨g, 0, none⟩) n c) n (xs.set i u) → w.grownBy w' (some g) → wpList P ops Q rest (a.put o.dst undef) w') : wpList P ops Q (o :: rest) a w := by
  obtain ⟨cs, hB, hl, rfl, hn, hm, hb⟩ := row_blk h
  have hcn := Nat.mul_le_mul_right size hn
  refine wpl_set_blk hB i u hi (by omega) hu h1 hgd ho hx hy fun w' hB' hg => hK w' ?_ hg
  have := row_of_blk (size := size) (c := c) (n := n) hB' (by simpa using hl) hb hn hm
  rw [List.take_set] at this
  exact this
/-- a store of some of its cells -/
theorem wpl_put_row (h : w.ownsRow base e size (.slice (some ⟨g, 0, none⟩) n c) n xs) (off k : Nat) (vs : List Value) {ty : TypeId} (hi : (P.info? ty).map (·.size) = some k) (hv : vs.length = k) (hk : off + k ≤ n * size) (h1 : ∀ v ∈ vs, v.oneCell' = true)
    (hgd : Region.wanted o (yielded ops a.tmps) = true) {x y : Operand} (ho : o.op = .store ty x y) (hx : a.eval x = .pointer (some ⟨g, off, none⟩)) (hy : a.eval y = .agg vs.toArray)
    (hK : ∀ w', w'.ownsRow base e size (.slice (some ⟨g, 0, none⟩) n c) n (xs.take off ++ vs ++ xs.drop (off + k)) → w.grownBy w' (some g) → wpList P ops Q rest (a.put o.dst undef) w') : wpList P ops Q (o :: rest) a w := by
  obtain ⟨cs, hB, hl, rfl, hn, hm, hb⟩ := row_blk h
  have hcn := Nat.mul_le_mul_right size hn
  refine wpl_store_blk hB ty off k vs hi hv (by omega) h1 hgd ho hx hy fun w' hB' hg => hK w' ?_ hg
  have := row_of_blk (size := size) (c := c) (n := n) hB' (by simp [hl, hv]; omega) hb hn hm
  have e : (cs.take off ++ vs ++ cs.drop (off + k)).take (n * size) = (cs.take (n * size)).take off ++ vs ++ (cs.take (n * size)).drop (off + k) := by
    apply List.ext_getElem?
    intro i
    have hl2 : (cs.take (n * size)).length = n * size := by rw [List.length_take]; omega
    rw [List.getElem?_take, part_get _ _ _ _ (by omega) hv, part_get _ _ _ _ (by omega) hv, List.getElem?_take]
    by_cases hi : i < n * size
    · rw [if_pos hi, if_pos hi]
    · rw [if_neg hi, if_neg hi, if_neg (by omega), if_neg (by omega)]
  rw [← e]
  exact this
end
end Go.Proofs.YtdhjfckckghicaaDoor


namespace Go.Proofs.YtdhjfckckghicaaDoor
set_option linter.unusedVariables false
set_option linter.unusedSimpArgs false
set_option maxRecDepth 100000
open Go Go.RowKit

structure Rw where
  e : TypeId
  sz : Nat
  v : Value
  n : Nat
  xs : List Value

def Rw.at_ (r : Rw) (B : Nat) (w : World) : Prop := w.ownsRow B r.e r.sz r.v r.n r.xs
def Rw.far (r s : Rw) : Prop := ∀ i, r.v.ownBlock = some i → s.v.ownBlock ≠ some i
theorem Rw.far.symm {r s : Rw} (h : r.far s) : s.far r := fun i h1 h2 => h i h2 h1

structure Own (B : Nat) (w : World) (g : Nat) (t : TypeId) (cs : List Value) (rs : List Rw) : Prop where
  blk : Blk w g t cs
  rows : ∀ r ∈ rs, r.at_ B w
  ap : ∀ (i j : Nat) (r s : Rw), rs[i]? = some r → rs[j]? = some s → i ≠ j → r.far s
  ng : ∀ r ∈ rs, r.v.ownBlock ≠ some g
  base : B ≤ w.heap.size
  lo : B ≤ g

/-- the blocks that it may turn -/
def Tw (g : Nat) (rs : List Rw) (k : Nat) : Prop := k = g ∨ ∃ r ∈ rs, r.v.ownBlock = some k

section
variable {B g : Nat} {t : TypeId} {cs : List Value} {rs : List Rw} {w w' : World} {S : Nat → Prop}
theorem Own.lt (h : Own B w g t cs rs) {k : Nat} (hk : Tw g rs k) : k < w.heap.size := by
  rcases hk with rfl | ⟨r, hr, hk⟩
  · exact h.blk.lt
  · exact ((h.rows r hr).lt k hk).2
theorem Own.ge (h : Own B w g t cs rs) {k : Nat} (hk : Tw g rs k) : B ≤ k := by
  rcases hk with rfl | ⟨r, hr, hk⟩
  · exact h.lo
  · exact own_ge (h.rows r hr) k hk
theorem Own.keeps (h : Own B w g t cs rs) (k : Keeps S w w') (hS : ∀ i, Tw g rs i → ¬ S i) : Own B w' g t cs rs :=
  ⟨h.blk.keeps k (hS g (.inl rfl)), fun r hr => own_keeps (h.rows r hr) k (fun i hi => hS i (.inr ⟨r, hr, hi⟩)), h.ap, h.ng, Nat.le_trans h.base k.size, h.lo⟩
theorem Own.later (h : Own B w g t cs rs) (hb : Below w.heap.size w w') : Own B w' g t cs rs := h.keeps (Keeps.of_below hb (fun _ => False)) (fun _ _ => id)
theorem Own.alloc (h : Own B w g t cs rs) (o : Obj) : Own B (w.alloc o) g t cs rs := h.later (below_alloc (Below.refl _ _) o)
theorem Own.drewN (h : Own B w g t cs rs) (n : Nat) : Own B (w.drewN n) g t cs rs := h.keeps ((Keeps.refl (fun _ => False) w).drewN n) (fun _ _ => id)
theorem Own.row (h : Own B w g t cs rs) (i : Nat) {r : Rw} (hi : rs[i]? = some r) : r.at_ B w := h.rows r (List.mem_of_getElem? hi)
/-- only its blocks are turned: what lies below stays -/
theorem Own.below (h : Own B w g t cs rs) (k : Keeps (Tw g rs) w w') : Below B w w' := k.below h.base (fun _ hi => h.ge hi)

/-- one of its rows, and its own cells, are turned -/
theorem Own.put (h : Own B w g t cs rs) {i : Nat} {r : Rw} (hi : rs[i]? = some r) {w1 : World} {v' : Value} {n' : Nat} {xs' : List Value} (hown : w1.ownsRow B r.e r.sz v' n' xs') (hg : w.grownBy w1 r.v.ownBlock)
    (hv : v'.ownBlock = r.v.ownBlock ∨ ∃ k, w.heap.size ≤ k ∧ v'.ownBlock = some k) :
    Blk w1 g t cs ∧ ∀ w2 cs', Blk w2 g t cs' → w1.grownBy w2 (some g) → Own B w2 g t cs' (rs.set i ⟨r.e, r.sz, v', n', xs'⟩) ∧ Keeps (Tw g rs) w w2 ∧ (∀ k, Tw g (rs.set i ⟨r.e, r.sz, v', n', xs'⟩) k → Tw g rs k ∨ w.heap.size ≤ k) := by
  have hm := List.mem_of_getElem? hi
  have kk : Keeps (fun k => r.v.ownBlock = some k) w w1 := (Keeps.of_grown hg).mono (fun i hi => hi.symm)
  have hlt : ∀ k, Tw g rs k → k < w.heap.size := fun k hk => h.lt hk
  have far : ∀ k, k < w.heap.size → r.v.ownBlock ≠ some k → v'.ownBlock ≠ some k := fun k hk hne e => by
    rcases hv with h | ⟨j, hj, h⟩
    · exact hne (h ▸ e)
    · rw [h] at e
      injection e with e
      omega
  refine ⟨h.blk.keeps kk (h.ng r hm), fun w2 cs' hb2 hg2 => ?_⟩
  have ks : Keeps (fun k => k = g) w1 w2 := (Keeps.of_grown hg2).mono (fun i hi => by injection hi)
  have hset : ∀ j s, (rs.set i ⟨r.e, r.sz, v', n', xs'⟩)[j]? = some s → (j = i ∧ s = ⟨r.e, r.sz, v', n', xs'⟩) ∨ (j ≠ i ∧ rs[j]? = some s) := fun j s hs => by
    by_cases e : j = i
    · subst e
      rw [List.getElem?_set_self (List.getElem?_eq_some_iff.1 hi).1] at hs
      injection hs with hs
      exact .inl ⟨rfl, hs.symm⟩
    · rw [List.getElem?_set_ne (fun e' => e e'.symm)] at hs
      exact .inr ⟨e, hs⟩
  have hng := far g h.blk.lt (h.ng r hm)
  have hold : ∀ s ∈ rs, s.far r → s.at_ B w2 := fun s hs hsr => own_keeps (own_keeps (h.rows s hs) kk (fun k hk e => hsr k hk e)) ks (fun k hk e => h.ng s hs (e ▸ hk))
  refine ⟨⟨hb2, fun s hs => ?_, fun j l s u hs hu hjl => ?_, fun s hs => ?_, by have := h.base; have := kk.size; have := ks.size; omega, h.lo⟩, ?_, fun k hk => ?_⟩
  · obtain ⟨j, hj⟩ := List.getElem?_of_mem hs
    rcases hset j s hj with ⟨-, rfl⟩ | ⟨hne, hj⟩
    · exact own_keeps hown ks (fun k hk e => hng (e ▸ hk))
    · exact hold s (List.mem_of_getElem? hj) (h.ap j i s r hj hi hne)
  · rcases hset j s hs with ⟨e1, rfl⟩ | ⟨hj, hs2⟩
    · rcases hset l u hu with ⟨e2, rfl⟩ | ⟨hl, hu2⟩
      · exact absurd (e1.trans e2.symm) hjl
      · exact fun k hk e => far k (hlt k (.inr ⟨u, List.mem_of_getElem? hu2, e⟩)) (fun e' => h.ap i l r u hi hu2 (fun e3 => hl e3.symm) k e' e) hk
    · rcases hset l u hu with ⟨e2, rfl⟩ | ⟨hl, hu2⟩
      · exact fun k hk e => far k (hlt k (.inr ⟨s, List.mem_of_getElem? hs2, hk⟩)) (fun e' => h.ap j i s r hs2 hi hj k hk e') e
      · exact h.ap j l s u hs2 hu2 hjl
  · obtain ⟨j, hj⟩ := List.getElem?_of_mem hs
    rcases hset j s hj with ⟨-, rfl⟩ | ⟨hne, hj⟩
    · exact hng
    · exact h.ng s (List.mem_of_getElem? hj)
  · exact (kk.mono (fun k hk => .inr ⟨r, hm, hk⟩)).trans (ks.mono (fun k hk => .inl hk))
  · rcases hk with rfl | ⟨s, hs, hk⟩
    · exact .inl (.inl rfl)
    · obtain ⟨j, hj⟩ := List.getElem?_of_mem hs
      rcases hset j s hj with ⟨-, rfl⟩ | ⟨hne, hj⟩
      · rcases hv with h | ⟨k', hk', h⟩
        · exact .inl (.inr ⟨r, hm, h ▸ hk⟩)
        · rw [show v'.ownBlock = some k from hk] at h
          injection h with h
          exact .inr (by omega)
      · exact .inl (.inr ⟨s, List.mem_of_getElem? hj, hk⟩)
/-- its own cells alone are turned -/
theorem Own.cells (h : Own B w g t cs rs) {w2 : World} {cs' : List Value} (hb2 : Blk w2 g t cs') (hg2 : w.grownBy w2 (some g)) : Own B w2 g t cs' rs ∧ Keeps (Tw g rs) w w2 := by
  have ks : Keeps (fun k => k = g) w w2 := (Keeps.of_grown hg2).mono (fun i hi => by injection hi)
  exact ⟨⟨hb2, fun s hs => own_keeps (h.rows s hs) ks (fun k hk e => h.ng s hs (e ▸ hk)), h.ap, h.ng, Nat.le_trans h.base ks.size, h.lo⟩, ks.mono (fun k hk => .inl hk)⟩

/-- it has been turned since the world w0, in which it had the blocks T0 -/
structure OwnTo (B : Nat) (w0 : World) (T0 : Nat → Prop) (w : World) (g : Nat) (t : TypeId) (cs : List Value) (rs : List Rw) : Prop where
  own : Own B w g t cs rs
  kp : Keeps T0 w0 w
  nw : ∀ k, Tw g rs k → T0 k ∨ w0.heap.size ≤ k
theorem OwnTo.start (h : Own B w g t cs rs) : OwnTo B w (Tw g rs) w g t cs rs := ⟨h, Keeps.refl _ _, fun _ hk => .inl hk⟩
theorem OwnTo.step {w0 : World} {T0 : Nat → Prop} {cs' : List Value} {rs' : List Rw} (h : OwnTo B w0 T0 w g t cs rs) (h' : OwnTo B w (Tw g rs) w' g t cs' rs') : OwnTo B w0 T0 w' g t cs' rs' :=
  ⟨h'.own, h.kp.step h'.kp (fun i hi hT => (h.nw i hT).resolve_right (by omega)), fun k hk => (h'.nw k hk).elim (fun h1 => h.nw k h1) (fun h1 => .inr (by have := h.kp.size; omega))⟩
theorem OwnTo.later {w0 : World} {T0 : Nat → Prop} (h : OwnTo B w0 T0 w g t cs rs) (hb : Below w.heap.size w w') : OwnTo B w0 T0 w' g t cs rs :=
  ⟨h.own.later hb, h.kp.trans (Keeps.of_below hb _), h.nw⟩
theorem OwnTo.since {w0 w1 : World} {T0 : Nat → Prop} (h : OwnTo B w1 T0 w g t cs rs) (hb : Below w0.heap.size w0 w1) : OwnTo B w0 T0 w g t cs rs :=
  ⟨h.own, (Keeps.of_below hb _).trans h.kp, fun k hk => (h.nw k hk).imp id fun h1 => by have := hb.size; omega⟩
theorem Own.put_to (h : Own B w g t cs rs) {i : Nat} {r : Rw} (hi : rs[i]? = some r) {w1 : World} {v' : Value} {n' : Nat} {xs' : List Value} (hown : w1.ownsRow B r.e r.sz v' n' xs') (hg : w.grownBy w1 r.v.ownBlock)
    (hv : v'.ownBlock = r.v.ownBlock ∨ ∃ k, w.heap.size ≤ k ∧ v'.ownBlock = some k) {w2 : World} {cs' : List Value} (hb2 : Blk w2 g t cs') (hg2 : w1.grownBy w2 (some g)) : OwnTo B w (Tw g rs) w2 g t cs' (rs.set i ⟨r.e, r.sz, v', n', xs'⟩) := by
  obtain ⟨h1, h2, h3⟩ := (h.put hi hown hg hv).2 w2 cs' hb2 hg2
  exact ⟨h1, h2, h3⟩
theorem Own.cells_to (h : Own B w g t cs rs) {w2 : World} {cs' : List Value} (hb2 : Blk w2 g t cs') (hg2 : w.grownBy w2 (some g)) : OwnTo B w (Tw g rs) w2 g t cs' rs :=
  ⟨(h.cells hb2 hg2).1, (h.cells hb2 hg2).2, fun _ hk => .inl hk⟩
end

/-- what 'append' of a row v0 of one's own has made, since the world w1 -/
def FPush (w1 : World) (B : Nat) (e : TypeId) (sz : Nat) (v0 : Value) (n : Nat) (xs : List Value) : Fact (fun w w' => Below w.heap.size w w') :=
  ⟨fun v w => ∃ wa, Below w1.heap.size w1 wa ∧ wa.grownBy w v0.ownBlock ∧ w.ownsRow B e sz v n xs ∧ (v.ownBlock = v0.ownBlock ∨ ∃ k, wa.heap.size ≤ k ∧ v.ownBlock = some k),
    fun v w w' ⟨wa, h1, h2, h3, h4⟩ k => ⟨wa, h1, grown_trans h2 (grown_of_below k _), own_keeps h3 (Keeps.of_below k (fun _ => False)) (fun _ _ => id), h4⟩⟩

/-- the first k of a row of one's own -/
theorem own_prefix {w : World} {B sz n k : Nat} {e : TypeId} {A : Option Addr} {c : Nat} {xs : List Value} (h : w.ownsRow B e sz (.slice A n c) n xs) (hk : k ≤ n) : w.ownsRow B e sz (.slice A k c) k (xs.take (k * sz)) := by
  have hm := Nat.mul_le_mul_right sz hk
  rcases h.2 with ⟨h1, h2⟩ | ⟨g, cap, cur, h1, h2, h3, h4, h5, h6, h7⟩
  · injection h1 with e1 e2 e3
    subst e1 e2 e3
    have : k = 0 := by omega
    subst this
    rw [Nat.zero_mul, List.take_zero]
    exact World.ownsRow_nil _ _ _ _
  · injection h1 with e1 e2 e3
    subst e1 e3
    refine ⟨by rw [List.length_take, h.1]; omega, .inr ⟨g, c, cur, rfl, h2, h3, by omega, h5, h6, ?_⟩⟩
    rw [← h7, List.take_take, Nat.min_eq_left hm]
end Go.Proofs.YtdhjfckckghicaaDoor


namespace Go.Proofs.YtdhjfckckghicaaDoor
set_option linter.unusedVariables false
set_option linter.unusedSimpArgs false
set_option maxRecDepth 100000
open Go.RowKit

def strRw (v : Value) (xs : List ByteArray) : Rw := ⟨9, 1, v, xs.length, strs xs⟩
/-- a walker: what is bound, what is free -/
abbrev WkO (B : Nat) (w : World) (g : Nat) (vb : Value) (bd : List ByteArray) (vf : Value) (fs : List ByteArray) : Prop := Own B w g 53 [vb, vf] [strRw vb bd, strRw vf fs]
abbrev WkT (g : Nat) (vb : Value) (bd : List ByteArray) (vf : Value) (fs : List ByteArray) : Nat → Prop := Tw g [strRw vb bd, strRw vf fs]
abbrev WkTo (B : Nat) (w0 : World) (T : Nat → Prop) (w : World) (g : Nat) (vb : Value) (bd : List ByteArray) (vf : Value) (fs : List ByteArray) : Prop := OwnTo B w0 T w g 53 [vb, vf] [strRw vb bd, strRw vf fs]
def WkEnd (B : Nat) (w0 : World) (T : Nat → Prop) (g : Nat) (bd fs : List ByteArray) : Ending → World → Prop := fun e w' => e = .returned (.tuple #[]) ∧ ∃ vb vf, WkTo B w0 T w' g vb bd vf fs

theorem Sr.use1_length (bd acc : List ByteArray) (s : ByteArray) : (Sr.use1 bd acc s).length ≤ acc.length + 1 := by
  unfold Sr.use1
  split <;> simp
theorem Sr.fold_length (bd : List ByteArray) : ∀ (l acc : List ByteArray), (l.foldl (Sr.use1 bd) acc).length ≤ acc.length + l.length
  | [], acc => by simp
  | s :: l, acc => by
    have h1 := Sr.fold_length bd l (Sr.use1 bd acc s)
    have h2 := Sr.use1_length bd acc s
    rw [List.foldl_cons, List.length_cons]
    omega
theorem Sr.fold_snoc (bd acc ns : List ByteArray) (k : Nat) (x : ByteArray) (h : ns[k]? = some x) : (ns.take (k + 1)).foldl (Sr.use1 bd) acc = Sr.use1 bd ((ns.take k).foldl (Sr.use1 bd) acc) x := by
  obtain ⟨h', rfl⟩ := List.getElem?_eq_some_iff.1 h
  rw [List.take_succ_eq_append_getElem h', List.foldl_append]
  rfl

set_option maxHeartbeats 2000000 in
theorem uses_any (e : Ex.X) (B : Nat) (w : World) (g : Nat) (vb vf : Value) (bd fs : List ByteArray) (cs : List Value) (h : WkO B w g vb bd vf fs) (hx : XR B w cs e) (hn : e.leaves ≤ 1099511627776) (hf : fs.length ≤ 1099511627776) :
    Calls Tryd.prog 34 #[.pointer (some ⟨g, 0, none⟩), .agg cs.toArray] w (WkEnd B w (WkT g vb bd vf fs) g bd (Sr.use bd fs e)) := by
  obtain ⟨a0, a1, a2, A3, a4, a5, rfl, -, -⟩ := hx.form
  have hb0 : Below w.heap.size w (w.alloc (.cells (xcells a0 a1 a2 A3 a4 a5).toArray 33)) := below_alloc (Below.refl _ _) _
  have h0 := h.later hb0
  have hx0 := (hx.later (hb0.mono h.base)).up h0.base
  unfold xcells at hb0 h0 hx0 ⊢
  have HH := Lib.hid h
  clear h hx
  go_enter Tryd.func34, Tryd.ntmps34
  go_wp2_with fail
  refine (names_own e _ _ hx0 (by omega)).mono ?_
  rintro r w1 ⟨v, rfl, hrow, hb1⟩
  have hl := Ex.names_length [] e
  obtain ⟨ns, hns⟩ : ∃ ns, ns = Ex.names [] e := ⟨_, rfl⟩
  rw [← hns] at hrow hl
  have HN := Lib.hid hns
  clear hns
  obtain ⟨V, cV, rfl, hc1, hc2⟩ := own_slice hrow
  unfold maxLen at hc2
  have hbw := below_next hb1 hb0
  have h1 := h0.later hb1
  have hwz : w.heap.size < (w.alloc (.cells #[.int .i64 a0, .int .i64 a1, .string a2, .slice A3 a4 a5] 33)).heap.size := by simp
  have hlt : ∀ k, WkT g vb bd vf fs k → k < w.heap.size := fun k hk => HH.out.lt hk
  have HB := Lib.hid (And.intro hbw (And.intro hwz hlt))
  clear hb0 h0 hx0 hb1 hbw hwz hlt
  simp only [List.length_nil] at hl
  go_wp2_with fail
  go_loopw [9] (fun i wr => ∃ (k : Nat) (vf' : Value), k ≤ ns.length ∧ i = .int .i64 (k : Int) ∧ WkTo B w1 (WkT g vb bd vf fs) wr g vb bd vf' ((ns.take k).foldl (Sr.use1 bd) fs)) (fun i _ => ns.length - (intOf i).toNat)
  case atStart => exact ⟨0, vf, Nat.zero_le _, rfl, OwnTo.start h1⟩
  case round =>
    obtain ⟨k, vf', hk, rfl, hW⟩ := hrel
    by_cases hlk : k < ns.length
    · obtain ⟨x, hx⟩ : ∃ x, ns[k]? = some x := ⟨_, List.getElem?_eq_getElem hlk⟩
      have hfold := Sr.fold_snoc bd fs ns k x hx
      have hlen := Sr.fold_length bd (ns.take k) fs
      have hrw := own_keeps hrow hW.kp (fun i hi hT => by have := HB.out.2.2 i hT; have := (hrow.lt i hi).1; have := HB.out.2.1; omega)
      obtain ⟨b, o, rfl, hbl, hcell⟩ := (Cells.of_own hrw).str hx
      have rb : wr.ownsRow B 9 1 vb bd.length (strs bd) := hW.own.row 0 rfl
      obtain ⟨fk, hfk⟩ : ∃ fk, fk = (ns.take k).foldl (Sr.use1 bd) fs := ⟨_, rfl⟩
      rw [← hfk] at hfold hlen hW
      have rf : wr.ownsRow B 9 1 vf' fk.length (strs fk) := hW.own.row 1 rfl
      have gb := contains_str vb bd x wr (SlV.of_own rb)
      have gf := fun m => contains_str vf' fk x (wr.drewN m) ((SlV.of_own rf).drewN m)
      have b0 : wr.cell? ⟨g, 0, none⟩ = some vb := (hW.own.blk.cell 0).trans rfl
      have b1 : wr.cell? ⟨g, 1, none⟩ = some vf' := (hW.own.blk.cell 1).trans rfl
      have hwl := hW.own.base
      rw [List.length_take] at hlen
      rw [show Sr.use1 bd fk x = if Ex.has x bd = false ∧ Ex.has x fk = false then fk ++ [x] else fk from rfl] at hfold
      have HR := Lib.hid (And.intro hfold (And.intro hlen (And.intro hrw hW)))
      have HX := Lib.hid hx
      obtain ⟨VB, cb, rfl, -, -⟩ := own_slice rb
      clear hx hfold hlen hW hfk hrw rb hrow
      rcases h1' : Ex.has x bd with _ | _
      · rcases h2' : Ex.has x fk with _ | _
        · rw [h1'] at gb HR
          rw [h2'] at HR
          simp only [h2'] at gf
          obtain ⟨VF, cf, rfl, -, -⟩ := own_slice rf
          clear h1' h2'
          go_wp2_with fail
          refine gb.mono ?_
          rintro r w2 ⟨rfl, m, rfl⟩
          go_wp2_with fail
          refine (gf m).mono ?_
          rintro r w3 ⟨rfl, m', rfl⟩
          have hrf := rf
          have hn63 : fk.length + 1 ≤ maxLen := by have := HR.out.2.1; unfold maxLen; omega
          have hn47 : (fk.length + 1) * 16 ≤ 140737488355328 := by have := HR.out.2.1; omega
          have hO := HR.out.2.2.2
          clear gb gf h1 rf
          rw [World.drewN_drewN] at *
          have hO3 := hO.own.drewN (m + m')
          have r3 : (wr.drewN (m + m')).ownsRow B 9 1 (.slice VF fk.length cf) fk.length (strs fk) := hO3.row 1 rfl
          have hbl3 : B ≤ (wr.drewN (m + m')).heap.size := hO3.base
          have hkd : Below wr.heap.size wr (wr.drewN (m + m')) := below_drewN (Below.refl _ _) _
          have c1 : (wr.drewN (m + m')).cell? ⟨g, 1, none⟩ = some (.slice VF fk.length cf) := (hO3.blk.cell 1).trans rfl
          have hend : ∀ (w4 : World) (v' : Value) (w5 : World), w4.ownsRow B 9 1 v' (fk.length + 1) (strs fk ++ [.string x]) → (wr.drewN (m + m')).grownBy w4 (Value.slice VF fk.length cf).ownBlock → (v'.ownBlock = (Value.slice VF fk.length cf).ownBlock ∨ v'.ownBlock = some ((wr.drewN (m + m')).heap.size + 1)) → Blk w5 g 53 [.slice VB bd.length cb, v'] → w4.grownBy w5 (some g) →
              WkTo B w1 (WkT g (.slice VB bd.length cb) bd vf fs) w5 g (.slice VB bd.length cb) bd v' (fk ++ [x]) := fun w4 v' w5 o4 g4 e4 b5 g5 => by
            have := hO3.put_to (i := 1) (r := strRw (.slice VF fk.length cf) fk) rfl (n' := (fk ++ [x]).length) (xs' := strs (fk ++ [x])) (by simpa [strs, strRw] using o4) g4 (e4.imp id fun e => ⟨_, Nat.le_succ _, e⟩) b5 g5
            exact (hO.later hkd).step this
          have hmid : ∀ (w4 : World), (wr.drewN (m + m')).grownBy w4 (Value.slice VF fk.length cf).ownBlock → Blk w4 g 53 [.slice VB bd.length cb, .slice VF fk.length cf] := fun w4 g4 => hO3.blk.grown g4 (fun e => hO3.ng _ (List.mem_cons_of_mem _ (List.mem_singleton.2 rfl)) e.symm)
          have HE := Lib.hid (And.intro hend hmid)
          clear hend hmid hO hO3 hrf b0 b1 hkd
          generalize wr.drewN (m + m') = W at r3 hbl3 c1 HE ⊢
          go_wp2_with (first | (at_builtin; refine wp_push W _ _ B _ _ _ _ _ Tryd.underlying25 info_str rfl (by decide) r3 [.string x] rfl (strs_one [x]) hn63 hn47 hbl3 rfl rfl rfl rfl ?_; intro v' w4 hown4 hg4 hv4 _; have hB4 := HE.out.2 w4 hg4; obtain ⟨V', c', rfl, _, _⟩ := own_slice hown4) | (refine wpl_set_blk hB4 1 _ (by kernel_rfl) (by simp) rfl rfl rfl rfl rfl rfl ?_; intro w5 hB5 hg5) | fail)
          go_roundw
          case rel => exact ⟨k + 1, _, by omega, by go_num, by rw [HR.out.1]; simpa using HE.out.1 w4 _ w5 hown4 hg4 hv4 hB5 hg5⟩
          case measure => simp [intOf]; omega
        · rw [h1'] at gb HR
          rw [h2'] at HR
          simp only [h2'] at gf
          obtain ⟨VF, cf, rfl, -, -⟩ := own_slice rf
          clear h1' h2'
          go_wp2_with fail
          refine gb.mono ?_
          rintro r w2 ⟨rfl, m, rfl⟩
          go_wp2_with fail
          refine (gf m).mono ?_
          rintro r w3 ⟨rfl, m', rfl⟩
          clear gb gf
          go_wp2_with fail
          go_roundw
          case rel => exact ⟨k + 1, _, by omega, by go_num, by rw [HR.out.1]; exact HR.out.2.2.2.later (below_drewN (Below.refl _ _) (m + m'))⟩
          case measure => simp [intOf]; omega
      · rw [h1'] at gb HR
        obtain ⟨VF, cf, rfl, -, -⟩ := own_slice rf
        clear h1' gf
        go_wp2_with fail
        refine gb.mono ?_
        rintro r w2 ⟨rfl, m, rfl⟩
        clear gb
        go_wp2_with fail
        go_roundw
        case rel => exact ⟨k + 1, _, by omega, by go_num, by rw [HR.out.1]; exact HR.out.2.2.2.later (below_drewN (Below.refl _ _) m)⟩
        case measure => simp [intOf]; omega
    · obtain rfl : k = ns.length := by omega
      go_wp2_with fail
      go_end0
      refine ⟨rfl, vb, vf', ?_⟩
      unfold Sr.use
      rw [← HN.out]
      rw [List.take_length] at hW
      exact hW.since HB.out.1
end Go.Proofs.YtdhjfckckghicaaDoor


namespace Go.Proofs.YtdhjfckckghicaaDoor
set_option linter.unusedVariables false
set_option linter.unusedSimpArgs false
set_option maxRecDepth 100000
open Go

section
variable {P : Program} {ops : Array Oper} {Q : Exit → Act → World → Prop} {S : World → Prop} {E : World → World → Prop} {mk fl : Nat → Bool}

/-- by its edges j comes behind i -/
def reachB (ops : Array Oper) : Nat → Nat → Nat → Bool
  | 0, j, i => j == i
  | f + 1, j, i => j == i || (match ops[j]? with
    | some o => o.after.any fun e => Region.binds .any e && reachB ops f e.on i
    | none => false)

theorem reach_closed {listed : Array Bool} (hdown : ∀ j o, listed.getD j false = true → ops[j]? = some o → ∀ e ∈ o.after, Region.binds .any e = true → listed.getD e.on false = true) :
    ∀ (f j i : Nat), reachB ops f j i = true → listed.getD j false = true → listed.getD i false = true := by
  intro f
  induction f with
  | zero =>
    intro j i h hj
    have : j = i := by simpa [reachB] using h
    rw [← this]; exact hj
  | succ f ih =>
    intro j i h hj
    unfold reachB at h
    rw [Bool.or_eq_true] at h
    rcases h with h | h
    · have : j = i := by simpa using h
      rw [← this]; exact hj
    · split at h
      · rename_i o ho
        obtain ⟨n, hn, hb⟩ := Array.any_eq_true.1 h
        rw [Bool.and_eq_true] at hb
        exact ih _ _ hb.2 (hdown j o hj ho _ (Array.getElem_mem hn) hb.1)
      · cases h

def markB (ops : Array Oper) (mk fl : Nat → Bool) (ms : List Nat) : Bool :=
  ms.all fun m => decide (m < ops.size) && (List.range ops.size).all fun i => i == m || (if i < m then fl i || reachB ops 6 m i else reachB ops 6 i m)

structure Marked (ops : Array Oper) (mk fl : Nat → Bool) : Prop where
  lt : ∀ m, mk m = true → m < ops.size
  before : ∀ m i, mk m = true → i < m → fl i = false → reachB ops 6 m i = true
  after : ∀ m i, mk m = true → m < i → i < ops.size → reachB ops 6 i m = true

theorem marked_of {ms : List Nat} (hms : ∀ m, mk m = true → m ∈ ms) (h : markB ops mk fl ms = true) : Marked ops mk fl := by
  have key := List.all_eq_true.1 h
  refine ⟨fun m hm => ?_, fun m i hm hi hf => ?_, fun m i hm hi hlt => ?_⟩
  · have := key m (hms m hm)
    rw [Bool.and_eq_true, decide_eq_true_eq] at this
    exact this.1
  · have := key m (hms m hm)
    rw [Bool.and_eq_true, decide_eq_true_eq] at this
    have h2 := List.all_eq_true.1 this.2 i (List.mem_range.2 (by omega))
    have hne : (i == m) = false := by simp; omega
    rw [hne, Bool.false_or, if_pos hi, hf, Bool.false_or] at h2
    exact h2
  · have := key m (hms m hm)
    rw [Bool.and_eq_true, decide_eq_true_eq] at this
    have h2 := List.all_eq_true.1 this.2 i (List.mem_range.2 hlt)
    have hne : (i == m) = false := by simp; omega
    rw [hne, Bool.false_or, if_neg (by omega)] at h2
    exact h2

/-- what is known since the last mark -/
def factsM (mk : Nat → Bool) : Nat → List (Oper × Kind E) → List (Tmp × Fact E) → List (Tmp × Fact E)
  | _, [], Fs => Fs
  | k, p :: l, Fs => factsM mk (k + 1) l (addFact (cond (mk k) [] Fs) p)

theorem factsM_snoc : ∀ (l : List (Oper × Kind E)) (k : Nat) (Fs : List (Tmp × Fact E)) (p : Oper × Kind E), factsM mk k (l ++ [p]) Fs = addFact (cond (mk (k + l.length)) [] (factsM mk k l Fs)) p
  | [], k, Fs, p => rfl
  | q :: l, k, Fs, p => by
    show factsM mk (k + 1) (l ++ [p]) _ = _
    rw [factsM_snoc l (k + 1), List.length_cons, show k + 1 + l.length = k + (l.length + 1) by omega]
    rfl

theorem mem_addFact {Fs : List (Tmp × Fact E)} {p : Oper × Kind E} {t : Tmp} {F : Fact E} (h : (t, F) ∈ addFact Fs p) : (t, F) ∈ Fs ∨ (p.2 = .fresh F ∧ p.1.dst = some t) := by
  obtain ⟨o, k⟩ := p
  rcases k with v | G
  · exact .inl (by simpa [addFact] using h)
  · rcases hd : o.dst with _ | d
    · exact .inl (by simpa [addFact, hd] using h)
    · simp only [addFact, hd, List.mem_cons, Prod.mk.injEq] at h
      rcases h with ⟨rfl, rfl⟩ | h
      · exact .inr ⟨rfl, rfl⟩
      · exact .inl h

theorem mem_factsM {t : Tmp} {F : Fact E} : ∀ {l : List (Oper × Kind E)} {k : Nat} {Fs : List (Tmp × Fact E)}, (t, F) ∈ factsM mk k l Fs →
    ((t, F) ∈ Fs ∧ ∀ m, mk m = true → k ≤ m → m < k + l.length → False) ∨ ∃ (i : Nat) (p : Oper × Kind E), l[i]? = some p ∧ p.2 = .fresh F ∧ p.1.dst = some t ∧ ∀ m, mk m = true → k + i < m → m < k + l.length → False := by
  intro l
  induction l with
  | nil => exact fun h => .inl ⟨h, fun m _ h1 h2 => by simp at h2; omega⟩
  | cons q l ih =>
    intro k Fs h
    rcases ih (show (t, F) ∈ factsM mk (k + 1) l _ from h) with ⟨h, h'⟩ | ⟨i, p, h1, h2, h3, h4⟩
    · rcases mem_addFact h with h | ⟨h1, h2⟩
      · rcases hk : mk k with _ | _
        · rw [hk] at h
          refine .inl ⟨h, fun m hm h1 h2 => ?_⟩
          rcases Nat.lt_or_ge k m with h3 | h3
          · exact h' m hm (by omega) (by rw [List.length_cons] at h2; omega)
          · have : m = k := by omega
            rw [this, hk] at hm
            cases hm
        · rw [hk] at h; cases h
      · exact .inr ⟨0, q, rfl, h1, h2, fun m hm h1 h2 => h' m hm (by omega) (by rw [List.length_cons] at h2; omega)⟩
    · exact .inr ⟨i + 1, p, by simpa using h1, h2, h3, fun m hm h1 h2 => h4 m hm (by omega) (by rw [List.length_cons] at h2; omega)⟩

def SettleM (P : Program) (ops : Array Oper) (S : World → Prop) (E : World → World → Prop) (mk fl : Nat → Bool) (Z : (Env → Act) → List (Tmp × Fact E) → Prop) : Nat → List Oper → (Env → Act) → List (Tmp × Fact E) → Prop
  | _, [], A, Fs => Z A Fs
  | k, o :: rest, A, Fs =>
    (∃ v, (∀ ρ w, S w → FactsOK (o.looksAt ops) ρ w (cond (fl k) [] Fs) → StepTo P ops S (cond (mk k) (fun _ _ => True) E) o (A ρ) w (fun u _ => u = v)) ∧ SettleM P ops S E mk fl Z (k + 1) rest (fun ρ => (A ρ).put o.dst v) (cond (mk k) [] Fs)) ∨
    (∃ d F, o.dst = some d ∧ (∀ ρ w, S w → FactsOK (o.looksAt ops) ρ w (cond (fl k) [] Fs) → StepTo P ops S (cond (mk k) (fun _ _ => True) E) o (A ρ) w F.holds) ∧ SettleM P ops S E mk fl Z (k + 1) rest (fun ρ => (A ρ).put (some d) (ρ d)) ((d, F) :: cond (mk k) [] Fs))

structure PlanM (P : Program) (ops : Array Oper) (S : World → Prop) (mk fl : Nat → Bool) (a : Act) (l : List (Oper × Kind E)) : Prop where
  dst : ∀ p ∈ l, (∃ F, p.2 = .fresh F) → ∃ d, p.1.dst = some d
  step : ∀ pre p post, l = pre ++ p :: post → ∀ ρ w, S w → FactsOK (p.1.looksAt ops) ρ w (cond (fl pre.length) [] (factsM mk 0 pre [])) → StepTo P ops S (cond (mk pre.length) (fun _ _ => True) E) p.1 (actOf a ρ pre) w p.2.rel

theorem planM_snoc {a : Act} {l : List (Oper × Kind E)} (h : PlanM P ops S mk fl a l) {p : Oper × Kind E} (h1 : (∃ F, p.2 = .fresh F) → ∃ d, p.1.dst = some d)
    (h2 : ∀ ρ w, S w → FactsOK (p.1.looksAt ops) ρ w (cond (fl l.length) [] (factsM mk 0 l [])) → StepTo P ops S (cond (mk l.length) (fun _ _ => True) E) p.1 (actOf a ρ l) w p.2.rel) : PlanM P ops S mk fl a (l ++ [p]) := by
  refine ⟨fun q hq hf => ?_, fun pre q post he => ?_⟩
  · rcases List.mem_append.1 hq with hq | hq
    · exact h.dst q hq hf
    · rw [List.mem_singleton.1 hq] at hf ⊢
      exact h1 hf
  · rcases List.eq_nil_or_concat post with rfl | ⟨post', q', rfl⟩
    · have := List.append_inj' he rfl
      obtain ⟨e1, e2⟩ := this
      injection e2 with e2
      subst e1 e2
      exact h2
    · have e : pre ++ q :: (post' ++ [q']) = (pre ++ q :: post') ++ [q'] := by simp
      rw [List.concat_eq_append, e] at he
      exact h.step pre q post' (List.append_inj' he rfl).1

theorem settleM_plan {Z : (Env → Act) → List (Tmp × Fact E) → Prop} {a : Act} : ∀ (l : List Oper) (pre : List (Oper × Kind E)), PlanM P ops S mk fl a pre → SettleM P ops S E mk fl Z pre.length l (fun ρ => actOf a ρ pre) (factsM mk 0 pre []) →
    ∃ full : List (Oper × Kind E), PlanM P ops S mk fl a full ∧ full.map (·.1) = pre.map (·.1) ++ l ∧ Z (fun ρ => actOf a ρ full) (factsM mk 0 full []) := by
  intro l
  induction l with
  | nil => exact fun pre hp h => ⟨pre, hp, by simp, h⟩
  | cons o rest ih =>
    intro pre hp h
    rcases h with ⟨v, h1, h2⟩ | ⟨d, F, hd, h1, h2⟩
    · obtain ⟨full, q1, q2, q3⟩ := ih (pre ++ [(o, .fixed v)]) (planM_snoc (p := (o, .fixed v)) hp (fun ⟨F, h⟩ => by cases h) h1) (by
        have e1 : (fun ρ => actOf a ρ (pre ++ [(o, (Kind.fixed v : Kind E))])) = fun ρ => (actOf a ρ pre).put o.dst v := by
          funext ρ; simp [actOf, Kind.val]
        have e2 : factsM mk 0 (pre ++ [(o, (Kind.fixed v : Kind E))]) [] = cond (mk pre.length) [] (factsM mk 0 pre []) := by rw [factsM_snoc, Nat.zero_add]; rfl
        rw [e1, e2, List.length_append]
        exact h2)
      exact ⟨full, q1, by rw [q2]; simp, q3⟩
    · obtain ⟨full, q1, q2, q3⟩ := ih (pre ++ [(o, .fresh F)]) (planM_snoc (p := (o, .fresh F)) hp (fun _ => ⟨d, hd⟩) h1) (by
        have e1 : (fun ρ => actOf a ρ (pre ++ [(o, (Kind.fresh F : Kind E))])) = fun ρ => (actOf a ρ pre).put (some d) (ρ d) := by
          funext ρ; simp [actOf, Kind.val, hd]
        have e2 : factsM mk 0 (pre ++ [(o, (Kind.fresh F : Kind E))]) [] = (d, F) :: cond (mk pre.length) [] (factsM mk 0 pre []) := by rw [factsM_snoc, Nat.zero_add]; simp [addFact, hd]
        rw [e1, e2, List.length_append]
        exact h2)
      exact ⟨full, q1, by rw [q2]; simp, q3⟩

theorem any_order_m {a0 : Act} {full : List (Oper × Kind E)} (hops : full.map (·.1) = ops.toList) (hlin : Linear ops) (hmk : Marked ops mk fl) (hp : PlanM P ops S mk fl a0 full)
    (hZ : ∀ ρ w, S w → (∀ t F, (t, F) ∈ factsM mk 0 full [] → F.holds (ρ t) w) → Q .normal (actOf a0 ρ full) w) :
    ∀ (fuel : Nat) (listed : Array Bool) (a : Act) (w : World) (ρ : Env), listed.size = ops.size → (∀ i j o, listed.getD j false = true → ops[j]? = some o → (∃ e ∈ o.after, Region.binds .any e = true ∧ e.on = i) → listed.getD i false = true) →
      (∃ todo : List Nat, todo.length ≤ fuel ∧ ∀ i, i < ops.size → listed.getD i false = false → i ∈ todo) →
      Holds a0 full (fun i => listed.getD i false = true) ρ a → S w → (∀ (i : Nat) (p : Oper × Kind E) (F : Fact E) (d : Tmp), listed.getD i false = true → (∀ m, mk m = true → i < m → listed.getD m false = false) → full[i]? = some p → p.2 = .fresh F → p.1.dst = some d → F.holds (ρ d) w) →
      wpAny P .any ops Q fuel listed a w := by
  have hget : ∀ (i : Nat) (p : Oper × Kind E), full[i]? = some p → ops[i]? = some p.1 := fun i p h => by
    have : (full.map (·.1))[i]? = some p.1 := by simp [h]
    rw [hops] at this
    simpa using this
  have hlen : full.length = ops.size := by
    have := congrArg List.length hops
    simpa using this
  have hget' : ∀ (i : Nat) (o : Oper), ops[i]? = some o → ∃ p : Oper × Kind E, full[i]? = some p ∧ p.1 = o := fun i o h => by
    have hi : i < full.length := by rw [hlen]; exact (Array.getElem?_eq_some_iff.1 h).1
    have h1 := hget i _ (List.getElem?_eq_getElem hi)
    rw [h] at h1
    injection h1 with h1
    exact ⟨_, List.getElem?_eq_getElem hi, h1.symm⟩
  have hdist : ∀ (i j : Nat) (p q : Oper × Kind E) (d : Tmp), i < j → full[i]? = some p → full[j]? = some q → p.1.dst = some d → q.1.dst ≠ some d := fun i j p q d hij h1 h2 => hlin.dist i j _ _ d hij (hget i p h1) (hget j q h2)
  have hdist2 : ∀ (i j : Nat) (p q : Oper × Kind E) (d : Tmp), i ≠ j → full[i]? = some p → full[j]? = some q → p.1.dst = some d → q.1.dst ≠ some d := fun i j p q d hij h1 h2 hd hd' => by
    rcases Nat.lt_or_gt_of_ne hij with h | h
    · exact hdist i j p q d h h1 h2 hd hd'
    · exact hdist j i q p d h h2 h1 hd' hd
  -- all have come up
  have fin : ∀ (listed : Array Bool) (a : Act) (w : World) (ρ : Env), listed.size = ops.size → (∀ i, i < ops.size → listed.getD i false = true) → Holds a0 full (fun i => listed.getD i false = true) ρ a → S w →
      (∀ (i : Nat) (p : Oper × Kind E) (F : Fact E) (d : Tmp), listed.getD i false = true → (∀ m, mk m = true → i < m → listed.getD m false = false) → full[i]? = some p → p.2 = .fresh F → p.1.dst = some d → F.holds (ρ d) w) → Q .normal a w := fun listed a w ρ hsz hall hH hS hF => by
    have h1 : Holds a0 full (fun i => i < full.length) ρ (actOf a0 ρ full) := by
      have := holds_prefix a0 full ρ hdist full.length (Nat.le_refl _)
      rwa [List.take_length] at this
    have h2 : Holds a0 full (fun i => i < full.length) ρ a :=
      ⟨hH.defers, hH.size, fun t ht => hH.far t fun i p hi hp => ht i p (List.getElem?_eq_some_iff.1 hp).1 hp, fun i p t hi => hH.near i p t (hall i (by omega))⟩
    rw [h2.unique h1]
    refine hZ ρ w hS fun t F hm => ?_
    rcases mem_factsM hm with ⟨h, -⟩ | ⟨i, p, h1, h2, h3, h4⟩
    · cases h
    · refine hF i p F t (hall i (by have := (List.getElem?_eq_some_iff.1 h1).1; omega)) (fun m hm him => ?_) h1 h2 h3
      exact absurd (hmk.lt m hm) (fun h => h4 m hm (by omega) (by omega))
  have none_left : ∀ listed : Array Bool, listed.size = ops.size → Region.ready .any ops listed = [] → ∀ n i, i < n → i < ops.size → listed.getD i false = true := by
    intro listed hsz hr n
    induction n with
    | zero => intro i h; omega
    | succ n ih =>
      intro i hi hlt
      cases hli : listed.getD i false with
      | true => rfl
      | false =>
        have ho : ops[i]? = some ops[i] := Array.getElem?_eq_getElem hlt
        have hmem : i ∈ Region.ready .any ops listed := by
          rw [mem_ready]
          refine ⟨?_, _, ho, fun e he hb => ?_⟩
          · simp only [Array.getD, hsz, hlt, dif_pos] at hli ⊢
            exact hli
          · have := hlin.back i _ ho e he hb
            exact ih e.on (by omega) (by omega)
        rw [hr] at hmem
        cases hmem
  intro fuel
  induction fuel with
  | zero =>
    intro listed a w ρ hsz hdown ⟨todo, htodo, hin⟩ hH hS hF
    have hall : ∀ i, i < ops.size → listed.getD i false = true := fun i hi => by
      cases hli : listed.getD i false with
      | true => rfl
      | false =>
        have := hin i hi hli
        rw [List.eq_nil_of_length_eq_zero (Nat.le_zero.1 htodo)] at this
        cases this
    refine ⟨?_, fin listed a w ρ hsz hall hH hS hF⟩
    rw [List.eq_nil_iff_forall_not_mem]
    intro i hi
    obtain ⟨h0, o, ho, _⟩ := mem_ready.1 hi
    have hlt := (Array.getElem?_eq_some_iff.1 ho).1
    have := hall i hlt
    simp only [Array.getD, hsz, hlt, dif_pos] at this h0
    rw [this] at h0
    cases h0
  | succ fuel ih =>
    intro listed a w ρ hsz hdown ⟨todo, htodo, hin⟩ hH hS hF
    refine ⟨fun hr => fin listed a w ρ hsz (fun i hi => none_left listed hsz hr (i + 1) i (by omega) hi) hH hS hF, fun i hi => ?_⟩
    obtain ⟨h0, o, ho, hall⟩ := mem_ready.1 hi
    have hlt := (Array.getElem?_eq_some_iff.1 ho).1
    have h0' : listed.getD i false = false := by
      simp only [Array.getD, hsz, hlt, dif_pos] at h0 ⊢
      exact h0
    obtain ⟨p, hpi, rfl⟩ := hget' i o ho
    have hil : i < full.length := by omega
    have hpre : Holds a0 full (fun j => j < i) ρ (actOf a0 ρ (full.take i)) := holds_prefix a0 full ρ hdist i (by omega)
    have hsplit : full = full.take i ++ p :: full.drop (i + 1) := by
      have : full[i] = p := by have := List.getElem?_eq_getElem hil; rw [hpi] at this; injection this with this; exact this.symm
      rw [← this, List.getElem_cons_drop, List.take_append_drop]
    have hstep := hp.step _ p _ hsplit ρ w hS
    have conf : ∀ (j : Nat) (q : Oper × Kind E), full[j]? = some q → ∀ t, q.1.dst = some t → t ∈ p.1.looksAt ops → (listed.getD j false = true ↔ j < i) := by
      intro j q hq t hd hl
      have hoj := hget j q hq
      rcases Nat.lt_trichotomy j i with h | h | h
      · refine ⟨fun _ => h, fun _ => ?_⟩
        rcases hlin.wait j i _ _ h hoj ho with hap | ⟨e, he, hb, hon⟩
        · exact absurd hl ((Oper.apart_spec hap).1 t hd)
        · rw [← hon]; exact hall e he hb
      · subst h
        rw [hpi] at hq
        injection hq with hq
        subst hq
        exact absurd hl (hlin.self j _ t ho hd)
      · refine ⟨fun hj => ?_, fun h' => by omega⟩
        exfalso
        rcases hlin.wait i j _ _ h ho hoj with hap | ⟨e, he, hb, hon⟩
        · exact absurd hl ((Oper.apart_spec hap).2.2 t hd)
        · have := hdown i j _ hj hoj ⟨e, he, hb, hon⟩
          rw [h0'] at this
          cases this
    have hdown' : ∀ j o, listed.getD j false = true → ops[j]? = some o → ∀ e ∈ o.after, Region.binds .any e = true → listed.getD e.on false = true := fun j o hj ho e he hb => hdown e.on j o hj ho ⟨e, he, hb, rfl⟩
    have later : ∀ m, mk m = true → i < m → fl i = false → listed.getD m false = false := fun m hm him hfl => by
      cases hlm : listed.getD m false with
      | false => rfl
      | true =>
        have := reach_closed hdown' 6 m i (hmk.before m i hm him hfl) hlm
        rw [h0'] at this
        cases this
    have hfacts : FactsOK (p.1.looksAt ops) ρ w (cond (fl i) [] (factsM mk 0 (full.take i) [])) := factsOK_of _ fun t F hm hl => by
      rcases hfl : fl i with _ | _
      case true => rw [hfl] at hm; cases hm
      rw [hfl] at hm
      rcases mem_factsM hm with ⟨h, -⟩ | ⟨j, q, h1, h2, h3, h4⟩
      · cases h
      · have hji : j < i := by
          have := (List.getElem?_eq_some_iff.1 h1).1
          rw [List.length_take] at this
          omega
        have hq : full[j]? = some q := by
          rw [List.getElem?_take, if_pos hji] at h1
          exact h1
        refine hF j q F t ((conf j q hq t h3 (by simpa using hl)).2 hji) (fun m hm hjm => ?_) hq h2 h3
        rcases Nat.lt_trichotomy i m with h | h | h
        · exact later m hm h hfl
        · rw [← h]; exact h0'
        · exact absurd (h4 m hm (by omega) (by rw [List.length_take]; omega)) id
    have hst := hstep (by rw [show (full.take i).length = i by rw [List.length_take]; omega]; exact hfacts)
    have hag : ∀ t, t ∈ p.1.looksAt ops → a.tmps[t]? = (actOf a0 ρ (full.take i)).tmps[t]? := fun t ht =>
      hH.agree hpre t fun j q hq hd => conf j q hq t hd ht
    have hexec : execOp a.eval p.1 = execOp (actOf a0 ρ (full.take i)).eval p.1 := execOp_congr p.1 (fun cs b => hlin.sel i _ cs b ho) fun x hx => by
      cases x with
      | tmp t =>
        have := hag t (List.mem_append_left _ (List.mem_filterMap.2 ⟨.tmp t, by simpa using hx, rfl⟩))
        simp only [Act.eval, Array.getD_eq_getD_getElem?]
        rw [this]
      | _ => rfl
    have hwant : Region.wanted p.1 (yielded ops a.tmps) = Region.wanted p.1 (yielded ops (actOf a0 ρ (full.take i)).tmps) := by
      unfold Region.wanted
      cases hg : p.1.guard with
      | none => rfl
      | some gw =>
        obtain ⟨g, want⟩ := gw
        have : yielded ops a.tmps g = yielded ops (actOf a0 ρ (full.take i)).tmps g := by
          unfold yielded
          cases ht : (ops[g]?).bind (·.dst) with
          | none => rfl
          | some t =>
            have := hag t (List.mem_append_right _ (by simp [hg, ht]))
            simp only [Option.bind_some, this]
        simp only [this]
    have size_eq : (actOf a0 ρ (full.take i)).tmps.size = a.tmps.size := hpre.size.trans hH.size.symm
    -- the way on
    have go : ∀ v w', p.2.rel v w' → S w' → (∀ (j : Nat) (q : Oper × Kind E) (F : Fact E) (d : Tmp), listed.getD j false = true → (∀ m, mk m = true → j < m → (listed.setIfInBounds i true).getD m false = false) → full[j]? = some q → q.2 = .fresh F → q.1.dst = some d → F.holds (ρ d) w') →
        wpAny P .any ops Q fuel (listed.setIfInBounds i true) (a.put p.1.dst v) w' := by
      intro v w' hR hS' hF'
      have next : ∀ ρ' : Env, p.2.val ρ' p.1 = v → (∀ j q, j ≠ i → full[j]? = some q → q.2.val ρ' q.1 = q.2.val ρ q.1) → (∀ j q F d, j ≠ i → full[j]? = some q → q.2 = .fresh F → q.1.dst = some d → ρ' d = ρ d) → (∀ F d, p.2 = .fresh F → p.1.dst = some d → F.holds (ρ' d) w') →
          wpAny P .any ops Q fuel (listed.setIfInBounds i true) (a.put p.1.dst v) w' := by
        intro ρ' hv hothers hd' hself
        have hset : ∀ j, (listed.setIfInBounds i true).getD j false = true ↔ j = i ∨ listed.getD j false = true := fun j => by
          by_cases hji : j = i
          · subst hji
            simp [Array.getD, hsz, hlt]
          · rw [getD_set_ne false (Ne.symm hji)]
            simp [hji]
        refine ih _ _ _ ρ' (by simpa using hsz) (fun i' j o' hj ho' he => ?_) ⟨todo.filter (· != i), ?_, fun j hj hjl => ?_⟩ ?_ hS' (fun j q F d hj hjm hq hf hd => ?_)
        · rcases (hset j).1 hj with rfl | hj
          · obtain ⟨e, he, hb, hon⟩ := he
            rw [ho] at ho'
            injection ho' with ho'
            subst ho'
            rw [hset, ← hon]
            exact .inr (hall e he hb)
          · exact (hset i').2 (.inr (hdown i' j o' hj ho' he))
        · have : (todo.filter (· != i)).length < todo.length := by
            rw [List.length_filter_lt_length_iff_exists]
            exact ⟨i, hin i hlt h0', by simp⟩
          omega
        · have hne : j ≠ i := fun e => by
            have := (hset j).2 (.inl e)
            rw [this] at hjl
            cases hjl
          refine List.mem_filter.2 ⟨hin j hj ?_, by simpa using hne⟩
          rwa [getD_set_ne false (Ne.symm hne)] at hjl
        · have := hH.put (ρ' := ρ') hpi hset (fun j q hj hq d hd => hdist2 j i q p d (fun e => by rw [e, h0'] at hj; cases hj) hq hpi hd) (fun j q hj hq => hothers j q (fun e => by rw [e, h0'] at hj; cases hj) hq)
          rwa [hv] at this
        · rcases (hset j).1 hj with rfl | hj
          · rw [hpi] at hq
            injection hq with hq
            subst hq
            exact hself F d hf hd
          · have hne : j ≠ i := fun e => by rw [e, h0'] at hj; cases hj
            rw [hd' j q F d hne hq hf hd]
            exact hF' j q F d hj hjm hq hf hd
      cases hk : p.2 with
      | fixed v0 =>
        have hv : v = v0 := by rw [hk] at hR; exact hR
        exact next ρ (by rw [hk]; exact hv.symm) (fun _ _ _ _ => rfl) (fun _ _ _ _ _ _ _ _ => rfl) (fun F d hf => by rw [hk] at hf; cases hf)
      | fresh F =>
        obtain ⟨d, hd⟩ := hp.dst p (by rw [hsplit]; simp) ⟨F, hk⟩
        have hR' : F.holds v w' := by rw [hk] at hR; exact hR
        have hne : ∀ j q d', j ≠ i → full[j]? = some q → q.1.dst = some d' → d' ≠ d := fun j q d' hji hq hd' e => hdist2 j i q p d' hji hq hpi hd' (by rw [hd, e])
        refine next (fun t => if t = d then v else ρ t) (by rw [hk]; simp [Kind.val, hd]) (fun j q hji hq => ?_) (fun j q F' d' hji hq _ hd' => if_neg (hne j q d' hji hq hd')) (fun F' d' hf hd' => ?_)
        · cases hkq : q.2 with
          | fixed v0 => rfl
          | fresh F' =>
            obtain ⟨d', hd'⟩ := hp.dst q (List.mem_of_getElem? hq) ⟨F', hkq⟩
            simp only [Kind.val, hd']
            exact if_neg (hne j q d' hji hq hd')
        · rw [hk] at hf
          injection hf with hf
          rw [hd] at hd'
          injection hd' with hd'
          subst hf hd'
          simpa using hR'
    have hset' : ∀ j, (listed.setIfInBounds i true).getD j false = false → listed.getD j false = false := fun j hj => by
      by_cases hji : j = i
      · rw [hji]; exact h0'
      · rwa [getD_set_ne false (Ne.symm hji)] at hj
    have hlen_i : (full.take i).length = i := by rw [List.length_take]; omega
    have hseti : (listed.setIfInBounds i true).getD i false = true := by simp [Array.getD, hsz, hlt]
    rw [hlen_i] at hst
    unfold wpOp
    simp only [ho]
    unfold StepTo at hst
    rw [← hwant] at hst
    split
    · rename_i hw
      rw [if_pos hw] at hst
      refine .inl (wp_carry (R := fun v w' => p.2.rel v w' ∧ S w' ∧ (cond (mk i) (fun _ _ => True) E) w w') hexec size_eq (hst _ fun v w' h1 h2 h3 => ⟨v, rfl, h1, h2, h3⟩) fun v w' ⟨h1, h2, h3⟩ => go v w' h1 h2 fun j q F d hj hjm hq hf hd => ?_)
      rcases hmi : mk i with _ | _
      · rw [hmi] at h3
        exact F.keep _ _ _ (hF j q F d hj (fun m hm h => hset' m (hjm m hm h)) hq hf hd) h3
      · exfalso
        rcases Nat.lt_trichotomy j i with h | h | h
        · have := hjm i hmi h
          rw [hseti] at this
          cases this
        · rw [h, h0'] at hj; cases hj
        · have := reach_closed hdown' 6 j i (hmk.after i j hmi h (by have := (List.getElem?_eq_some_iff.1 hq).1; omega)) hj
          rw [h0'] at this
          cases this
    · rename_i hw
      rw [if_neg hw] at hst
      exact go undef w hst hS fun j q F d hj hjm hq hf hd => hF j q F d hj (fun m hm h => hset' m (hjm m hm h)) hq hf hd

/-- the same, that nothing looks into -/
structure WalkM (P : Program) (ops : Array Oper) (S : World → Prop) (E : World → World → Prop) (mk fl : Nat → Bool) (Z : (Env → Act) → List (Tmp × Fact E) → Prop) (k : Nat) (l : List Oper) (A : Env → Act) (Fs : List (Tmp × Fact E)) : Prop where
  out : SettleM P ops S E mk fl Z k l A Fs

/-- THE RULE, with marks -/
theorem wp_walk_marks {id : Nat} {a : Act} {w : World} {l : List Oper} (mk fl : Nat → Bool) (ms : List Nat) (hms : ∀ m, mk m = true → m ∈ ms) (hm : P.follows .mixedOrders = true) (hlin : linearB l.toArray = true) (hmk : markB l.toArray mk fl ms = true) (E : World → World → Prop) (S : World → Prop) (hS : S w.drew)
    (h : WalkM P l.toArray S E mk fl (fun A Fs => ∀ ρ w', S w' → (∀ t F, (t, F) ∈ Fs → F.holds (ρ t) w') → Q .normal (A ρ) w') 0 l (fun _ => a) []) : (Code.region id l.toArray true).wp P Q a w := by
  obtain ⟨full, hp, he, hZ⟩ := settleM_plan l [] ⟨(fun _ h => by cases h), (fun pre p post he => by simp at he)⟩ h.out
  refine wp_region_any hm (any_order_m (by simpa using he) (linear_of hlin) (marked_of hms hmk) hp hZ _ _ a _ (fun _ => undef) (by simp) (fun i j o hj => ?_) ⟨List.range l.toArray.size, by simp, fun i hi _ => List.mem_range.2 hi⟩ ⟨rfl, rfl, fun _ _ => rfl, fun i p t hi => ?_⟩ hS fun i p F d hi => ?_)
  · exfalso; revert hj; simp [Array.getD]
  · exfalso; revert hi; simp [Array.getD]
  · exfalso; revert hi; simp [Array.getD]

variable {Z : (Env → Act) → List (Tmp × Fact E) → Prop} {o : Oper} {rest : List Oper} {A : Env → Act} {Fs : List (Tmp × Fact E)} {k : Nat}
theorem msettle_nil (h : Z A Fs) : WalkM P ops S E mk fl Z k [] A Fs := ⟨h⟩
theorem msettle_skip (hmk : mk k = false) (hw : ∀ ρ, Region.wanted o (yielded ops (A ρ).tmps) = false) (h : WalkM P ops S E mk fl Z (k + 1) rest (fun ρ => (A ρ).put o.dst undef) Fs) : WalkM P ops S E mk fl Z k (o :: rest) A Fs :=
  ⟨.inl ⟨undef, fun ρ w _ _ => by unfold StepTo; rw [if_neg (by rw [hw]; simp)], by rw [hmk]; exact h.out⟩⟩
theorem msettle_run {v : Value} (hmk : mk k = false) (hE : ∀ w, S w → E w w) (hw : ∀ ρ, Region.wanted o (yielded ops (A ρ).tmps) = true)
    (hr : ∀ ρ w, S w → FactsOK (o.looksAt ops) ρ w (cond (fl k) [] Fs) → (execOp (A ρ).eval o).run P w = .ok (.value v) w) (h : WalkM P ops S E mk fl Z (k + 1) rest (fun ρ => (A ρ).put o.dst v) Fs) : WalkM P ops S E mk fl Z k (o :: rest) A Fs :=
  ⟨.inl ⟨v, fun ρ w hS hF => by
    unfold StepTo
    rw [if_pos (hw ρ), hmk]
    intro K hK
    unfold Oper.wp
    rw [hr ρ w hS hF]
    exact hK v w rfl hS (hE w hS), by rw [hmk]; exact h.out⟩⟩
theorem msettle_step {v : Value} (hmk : mk k = false) (hw : ∀ ρ, Region.wanted o (yielded ops (A ρ).tmps) = true)
    (hc : ∀ ρ w, S w → FactsOK (o.looksAt ops) ρ w (cond (fl k) [] Fs) → ∀ K : Act → World → Prop, (∀ w', S w' → E w w' → K ((A ρ).put o.dst v) w') → o.wp P (A ρ) w K (fun _ _ _ => False)) (h : WalkM P ops S E mk fl Z (k + 1) rest (fun ρ => (A ρ).put o.dst v) Fs) : WalkM P ops S E mk fl Z k (o :: rest) A Fs :=
  ⟨.inl ⟨v, fun ρ w hS hF => by
    unfold StepTo
    rw [if_pos (hw ρ), hmk]
    exact fun K hK => hc ρ w hS hF K fun w' h1 h2 => hK v w' rfl h1 h2, by rw [hmk]; exact h.out⟩⟩
theorem msettle_known {d : Tmp} (F : Fact E) (hmk : mk k = false) (hd : o.dst = some d) (hw : ∀ ρ, Region.wanted o (yielded ops (A ρ).tmps) = true)
    (hc : ∀ ρ w, S w → FactsOK (o.looksAt ops) ρ w (cond (fl k) [] Fs) → ∀ K : Act → World → Prop, (∀ v w', F.holds v w' → S w' → E w w' → K ((A ρ).put o.dst v) w') → o.wp P (A ρ) w K (fun _ _ _ => False)) (h : WalkM P ops S E mk fl Z (k + 1) rest (fun ρ => (A ρ).put (some d) (ρ d)) ((d, F) :: Fs)) : WalkM P ops S E mk fl Z k (o :: rest) A Fs :=
  ⟨.inr ⟨d, F, hd, fun ρ w hS hF => by
    unfold StepTo
    rw [if_pos (hw ρ), hmk]
    exact fun K hK => hc ρ w hS hF K hK, by rw [hmk]; exact h.out⟩⟩
/-- a mark: what was known is forgotten -/
theorem msettle_mark {d : Tmp} (F : Fact E) (hmk : mk k = true) (hd : o.dst = some d) (hw : ∀ ρ, Region.wanted o (yielded ops (A ρ).tmps) = true)
    (hc : ∀ ρ w, S w → FactsOK (o.looksAt ops) ρ w (cond (fl k) [] Fs) → ∀ K : Act → World → Prop, (∀ v w', F.holds v w' → S w' → K ((A ρ).put o.dst v) w') → o.wp P (A ρ) w K (fun _ _ _ => False)) (h : WalkM P ops S E mk fl Z (k + 1) rest (fun ρ => (A ρ).put (some d) (ρ d)) [(d, F)]) : WalkM P ops S E mk fl Z k (o :: rest) A Fs :=
  ⟨.inr ⟨d, F, hd, fun ρ w hS hF => by
    unfold StepTo
    rw [if_pos (hw ρ), hmk]
    exact fun K hK => hc ρ w hS hF K fun v w' h1 h2 => hK v w' h1 h2 trivial, by rw [hmk]; exact h.out⟩⟩
end
end Go.Proofs.YtdhjfckckghicaaDoor
