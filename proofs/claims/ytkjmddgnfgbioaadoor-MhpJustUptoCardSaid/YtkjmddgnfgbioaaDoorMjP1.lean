/-
  MhpJust, walked.
-/
import Derived.Test.YtkjmddgnfgbioaaDoorMsP3
import Derived.Test.YtkjmddgnfgbioaaDoorMsP1
import Derived.Test.YtkjmddgnfgbioaaDoorMsP10

namespace Go.Proofs.YtkjmddgnfgbioaaDoor
set_option linter.unusedVariables false
set_option linter.unusedSimpArgs false
set_option maxRecDepth 100000

namespace St
def straight : P → Bool
  | .nil => true
  | .cons k _ _ _ body _ r => !(k == 6 || k == 7 || ((k == 4 || k == 5) && !straight body)) && straight r
end St

namespace Sp
theorem T.lab_iff {t : T} {x : Nat} : t.lab x ↔ (x : Int) ∈ t.leaves.map (·.2.2) := by
  unfold T.lab
  rw [List.mem_map]
theorem range_mem {o n x : Nat} : ((x : Int) ∈ (List.range' o n).map Int.ofNat) ↔ St.span o n x := by
  rw [List.mem_map]
  unfold St.span
  constructor
  · rintro ⟨y, h1, h2⟩
    have : y = x := by injection h2
    subst this
    rw [List.mem_range'_1] at h1
    exact h1
  · exact fun h => ⟨x, by rw [List.mem_range'_1]; exact h, rfl⟩
theorem T.beside_iff : ∀ (t : T) (o : Nat), t.leaves.map (·.2.2) = (List.range' o t.size).map Int.ofNat → ∀ i j, t.beside i j ↔ o ≤ i ∧ i < j ∧ j < o + t.size ∧ ¬ t.bf (i - o) (j - o)
  | .nil, o, _, i, j => by
    constructor
    · exact fun h => h.elim
    · rintro ⟨h1, h2, h3, -⟩
      have : (T.nil).size = 0 := rfl
      omega
  | .one c b l, o, _, i, j => by
    constructor
    · exact fun h => h.elim
    · rintro ⟨h1, h2, h3, -⟩
      have : (T.one c b l).size = 1 := rfl
      omega
  | .two p a b, o, he, i, j => by
    have hs := T.size_two p a b
    have hsp : (List.range' o (T.two p a b).size).map Int.ofNat = (List.range' o a.size).map Int.ofNat ++ (List.range' (o + a.size) b.size).map Int.ofNat := by
      rw [hs, ← List.map_append, ← List.range'_append_1]
    rw [hsp] at he
    have he' : a.leaves.map (·.2.2) ++ b.leaves.map (·.2.2) = (List.range' o a.size).map Int.ofNat ++ (List.range' (o + a.size) b.size).map Int.ofNat := by
      rw [← he]
      show _ = (a.leaves ++ b.leaves).map (·.2.2)
      rw [List.map_append]
    obtain ⟨ea, eb⟩ := List.append_inj he' (by simp [T.size])
    have ia := T.beside_iff a o ea
    have ib := T.beside_iff b (o + a.size) eb
    have la : ∀ x, a.lab x ↔ St.span o a.size x := fun x => by rw [T.lab_iff, ea, range_mem]
    have lb : ∀ x, b.lab x ↔ St.span (o + a.size) b.size x := fun x => by rw [T.lab_iff, eb, range_mem]
    show (a.beside i j ∨ b.beside i j ∨ (p = true ∧ St.mixed a.lab b.lab i j)) ↔ _
    rw [ia, ib]
    constructor
    · rintro (⟨h1, h2, h3, h4⟩ | ⟨h1, h2, h3, h4⟩ | ⟨rfl, x, y, h1, h2, rfl, rfl⟩)
      · refine ⟨h1, h2, by omega, fun hb => h4 ⟨by omega, ?_⟩⟩
        have hb2 := hb.2
        rcases T.rk_side p a b (i - o) (by omega) with ⟨a1, a2, a3⟩ | ⟨a1, -⟩
        · rcases T.rk_side p a b (j - o) (by omega) with ⟨b1, b2, b3⟩ | ⟨b1, -⟩
          · omega
          · omega
        · omega
      · refine ⟨by omega, h2, by omega, fun hb => h4 ⟨by omega, ?_⟩⟩
        have hb2 := hb.2
        rcases T.rk_side p a b (i - o) (by omega) with ⟨a1, -⟩ | ⟨a1, a0, a2, a3⟩
        · omega
        · rcases T.rk_side p a b (j - o) (by omega) with ⟨b1, -⟩ | ⟨b1, b0, b2, b3⟩
          · omega
          · rw [show i - (o + a.size) = i - o - a.size by omega, show j - (o + a.size) = j - o - a.size by omega]
            omega
      · have h1' := (la x).1 h1
        have h2' := (lb y).1 h2
        unfold St.span at h1' h2'
        refine ⟨by omega, by omega, by omega, fun hb => ?_⟩
        have hb2 := hb.2
        rcases T.rk_side true a b (min x y - o) (by omega) with ⟨a1, a2, a3⟩ | ⟨a1, -⟩
        · rcases T.rk_side true a b (max x y - o) (by omega) with ⟨b1, -⟩ | ⟨b1, b0, b2, b3⟩
          · omega
          · simp only [if_true] at a2 b2
            omega
        · omega
    · rintro ⟨h1, h2, h3, h4⟩
      rcases T.rk_side p a b (i - o) (by omega) with ⟨a1, a2, a3⟩ | ⟨a1, a0, a2, a3⟩
      · rcases T.rk_side p a b (j - o) (by omega) with ⟨b1, b2, b3⟩ | ⟨b1, b0, b2, b3⟩
        · refine .inl ⟨h1, h2, by omega, fun hb => h4 ⟨by omega, ?_⟩⟩
          have := hb.2
          omega
        · cases p
          · exfalso
            refine h4 ⟨by omega, ?_⟩
            simp only [Bool.false_eq_true, if_false] at a2 b2
            omega
          · exact .inr (.inr ⟨rfl, i, j, (la i).2 (by unfold St.span; omega), (lb j).2 (by unfold St.span; omega), by omega, by omega⟩)
      · rcases T.rk_side p a b (j - o) (by omega) with ⟨b1, b2, b3⟩ | ⟨b1, b0, b2, b3⟩
        · omega
        · refine .inr (.inl ⟨by omega, h2, by omega, fun hb => h4 ⟨by omega, ?_⟩⟩)
          have := hb.2
          rw [show i - (o + a.size) = i - o - a.size by omega, show j - (o + a.size) = j - o - a.size by omega] at this
          omega
/-- the pairs of leaves that lie side by side, as they are asked for -/
def T.rowOf (t : T) (n i k : Nat) : List (Nat × Nat) := ((List.range' (i + 1) k).filter fun j : Nat => !t.before (i : Int) (j : Int)).map fun j => (i, j)
def T.want (t : T) (n i : Nat) : List (Nat × Nat) := (List.range i).flatMap fun i => t.rowOf n i (n - (i + 1))
end Sp

namespace Un
open Ex St Sr
theorem noted_split : ∀ (p : P) (l : Nat) (O : Nat → Prop) (i j : Nat), noted l O p i j → noted l none_ p i j ∨ mixed O (span l (labels p)) i j
  | .nil, _, _, _, _, h => h.elim
  | .cons k _ _ _ body els r, l, O, i, j, h => by
    rcases h with h | h | h
    · exact .inr (mixed_imp (fun x hx => hx) (fun x hx => by unfold labels; exact span_in hx) h)
    · exact .inl (.inr (.inl h))
    · rcases noted_split r _ _ i j h with h | h
      · exact .inl (.inr (.inr (noted_mono r _ _ _ (fun x hx => hx.elim) i j h)))
      · obtain ⟨x, y, h1 | h1, h2, h3⟩ := h
        · exact .inr ⟨x, y, h1, by unfold labels; exact span_up h2, h3⟩
        · exact .inl (.inr (.inr (mixed_noted r _ _ i j ⟨x, y, .inr h1, h2, h3⟩)))
theorem rr_split {k : Int} {nm : Bs} {a b : X} {body els r : P} {l : Nat} {L : Nat → Prop} {R : Nat → Nat → Prop} {i j : Nat} (h : Rr l (.cons k nm a b body els r) L R i j) :
    in1 k l (lab1 k (labels body) (labels els)) (news l body) (noted l none_ body) (noted (l + labels body) none_ els) i j ∨ Rr (l + lab1 k (labels body) (labels els)) r L R i j ∨ mixed (news1 k l (lab1 k (labels body) (labels els)) (news l body) (news (l + labels body) els)) (Rl (l + lab1 k (labels body) (labels els)) r L) i j := by
  rcases h with h | h | h
  · rcases h with h | h | h
    · exact absurd h (mixed_none _ _ _)
    · exact .inl h
    · rcases noted_split r _ _ i j h with h | h
      · exact .inr (.inl (.inl h))
      · obtain ⟨x, y, h1 | h1, h2, h3⟩ := h
        · exact h1.elim
        · exact .inr (.inr ⟨x, y, h1, .inl h2, h3⟩)
  · exact .inr (.inl (.inr (.inl h)))
  · obtain ⟨x, y, h1 | h1, h2, h3⟩ := h
    · exact .inr (.inr ⟨x, y, h1, .inr h2, h3⟩)
    · exact .inr (.inl (.inr (.inr ⟨x, y, h1, h2, h3⟩)))
theorem in1_none {k : Int} {l n : Nat} {A : Nat → Prop} {B E : Nat → Nat → Prop} {i j : Nat} (h4 : ¬ (k = 4 ∨ k = 5)) (h6 : k ≠ 6) (h7 : k ≠ 7) : ¬ in1 k l n A B E i j := by
  rintro (⟨h, -⟩ | ⟨h, -⟩ | ⟨h, -⟩)
  · exact h4 h
  · exact h6 h
  · exact h7 h
theorem news1_none {k : Int} {l n : Nat} {B E : Nat → Prop} {x : Nat} (h4 : k ≠ 4) (h6 : k ≠ 6) (h7 : k ≠ 7) : ¬ news1 k l n B E x := by
  rintro (⟨h, -⟩ | ⟨h, -⟩ | ⟨h, -⟩)
  · exact h4 h
  · exact h6 h
  · exact h7 h
/-- what a straight program's term is, labels and all -/
def labsT (t : Sp.T) : List Int := t.leaves.map (·.2.2)
theorem labsT_two (p : Bool) (a b : Sp.T) : labsT (.two p a b) = labsT a ++ labsT b := by
  show (a.leaves ++ b.leaves).map (·.2.2) = _
  rw [List.map_append]
  rfl
structure Just (t : Sp.T) (T : List Int) (R : Nat → Nat → Prop) : Prop where
  labs : labsT t = T
  beside : ∀ i j, R i j → t.beside i j
def labR (l n : Nat) : List Int := (List.range' l n).map Int.ofNat
theorem labR_add (l m n : Nat) : labR l (m + n) = labR l m ++ labR (l + m) n := by
  unfold labR
  rw [← List.map_append, ← List.range'_append_1]
theorem un_just : ∀ (p : P) (env : Sr.Env) (l : Nat) (k : M → Sp.T × M) (m : M) (T : List Int) (R : Nat → Nat → Prop), straight p = true → (∀ m, Just (k m).1 T R) → Just (un p env l k m).1 (labR l (labels p) ++ T) (Rr l p (fun x => (x : Int) ∈ T) R)
  | .nil, env, l, k, m, T, R, _, hk => by
    refine ⟨(hk m).labs, fun i j h => ?_⟩
    rcases h with h | h | h
    · exact h.elim
    · exact (hk m).beside i j h
    · exact absurd h (mixed_none _ _ _)
  | .cons kd nm a b body els rest, env, l, k, m, T, R, hst, hk => by
    simp only [straight, Bool.and_eq_true, Bool.not_eq_true', Bool.or_eq_false_iff, beq_eq_false_iff_ne] at hst
    obtain ⟨⟨⟨h6, h7⟩, hbody⟩, hrest⟩ := hst
    unfold un
    have quiet : ¬ (kd = 4 ∨ kd = 5) → ∀ i j, Rr l (.cons kd nm a b body els rest) (fun x => (x : Int) ∈ T) R i j → Rr (l + lab1 kd (labels body) (labels els)) rest (fun x => (x : Int) ∈ T) R i j := fun h4 i j h => by
      rcases rr_split h with h | h | h
      · exact absurd h (in1_none h4 h6 h7)
      · exact h
      · obtain ⟨x, y, h1, -⟩ := h
        exact absurd h1 (news1_none (fun e => h4 (.inl e)) h6 h7)
    by_cases h1 : kd = 1
    · rw [if_pos h1]
      have e : lab1 kd (labels body) (labels els) = 0 := by subst h1; rfl
      have hr := un_just rest (env ++ [(nm, evl env a)]) (l + lab1 kd (labels body) (labels els)) k m.step T R hrest hk
      have q := quiet (by omega)
      rw [e, Nat.add_zero] at hr q
      exact ⟨by rw [hr.labs, labels, e, Nat.zero_add], fun i j h => hr.beside i j (q i j h)⟩
    rw [if_neg h1]
    by_cases h2 : kd = 2
    · rw [if_pos h2]
      have e : lab1 kd (labels body) (labels els) = 1 := by subst h2; rfl
      have hr := un_just rest (env ++ [(nm, m.heap.getD (cell (evl env a)) 0)]) (l + lab1 kd (labels body) (labels els)) k (m.step.acc (cell (evl env a)) false l) T R hrest hk
      have q := quiet (by omega)
      rw [e] at hr q
      refine ⟨?_, fun i j h => .inr (.inl (hr.beside i j (q i j h)))⟩
      show labsT (.two _ _ _) = _
      rw [labsT_two, hr.labs, labels, e, labR_add, List.append_assoc]
      rfl
    rw [if_neg h2]
    by_cases h3 : kd = 3
    · rw [if_pos h3]
      have e : lab1 kd (labels body) (labels els) = 1 := by subst h3; rfl
      have hr := un_just rest env (l + lab1 kd (labels body) (labels els)) k ((m.step.acc (cell (evl env a)) true l).put (cell (evl env a)) (evl env b)) T R hrest hk
      have q := quiet (by omega)
      rw [e] at hr q
      refine ⟨?_, fun i j h => .inr (.inl (hr.beside i j (q i j h)))⟩
      show labsT (.two _ _ _) = _
      rw [labsT_two, hr.labs, labels, e, labR_add, List.append_assoc]
      rfl
    rw [if_neg h3]
    by_cases h4 : kd = 4 ∨ kd = 5
    · rw [if_pos h4]
      have hb0 : straight body = true := by
        rcases h4 with rfl | rfl <;> simpa using hbody
      have e : lab1 kd (labels body) (labels els) = labels body := by rcases h4 with rfl | rfl <;> rfl
      have hb := un_just body env l k0 m.step [] (fun _ _ => False) hb0 (fun m => ⟨rfl, fun _ _ h => h.elim⟩)
      have hr := un_just rest env (l + lab1 kd (labels body) (labels els)) k (un body env l k0 m.step).2 T R hrest hk
      rw [e] at hr
      refine ⟨?_, fun i j h => ?_⟩
      · show labsT (.two _ _ _) = _
        rw [labsT_two, hr.labs, hb.labs, labels, e, labR_add, List.append_nil, List.append_assoc]
      · have h' := rr_split h
        rw [e] at h'
        rcases h' with h | h | h
        · refine .inl (hb.beside i j (.inl ?_))
          rcases h with ⟨-, h⟩ | ⟨h, -⟩ | ⟨h, -⟩
          · exact h
          · exact absurd h h6
          · exact absurd h h7
        · exact .inr (.inl (hr.beside i j h))
        · obtain ⟨x, y, hx, hy, h5⟩ := h
          rcases hx with ⟨hk4, hx⟩ | ⟨hx, -⟩ | ⟨hx, -⟩
          · refine .inr (.inr ⟨decide_eq_true hk4, x, y, ?_, ?_, h5⟩)
            · rw [Sp.T.lab_iff]
              have := hb.labs
              unfold labsT at this
              rw [this, List.append_nil]
              exact Sp.range_mem.2 hx
            · rw [Sp.T.lab_iff]
              have := hr.labs
              unfold labsT at this
              rw [this, List.mem_append]
              rcases hy with hy | hy
              · exact .inl (Sp.range_mem.2 hy)
              · exact .inr hy
          · exact absurd hx h6
          · exact absurd hx h7
    rw [if_neg h4, if_neg h6, if_neg h7]
    have e : lab1 kd (labels body) (labels els) = 0 := by
      unfold lab1
      rw [if_neg (by omega), if_neg (by omega), if_neg (by omega)]
    have hr := un_just rest env (l + lab1 kd (labels body) (labels els)) k m T R hrest hk
    have q := quiet h4
    rw [e, Nat.add_zero] at hr q
    exact ⟨by rw [hr.labs, labels, e, Nat.zero_add], fun i j h => hr.beside i j (q i j h)⟩
theorem flatMap_same {α β : Type} {f g : α → List β} : ∀ l : List α, (∀ a ∈ l, f a = g a) → l.flatMap f = l.flatMap g
  | [], _ => rfl
  | a :: l, h => by rw [List.flatMap_cons, List.flatMap_cons, h a List.mem_cons_self, flatMap_same l fun b hb => h b (List.mem_cons_of_mem _ hb)]
open Classical in
/-- THE LAW -/
theorem just (p : P) (h : List Int) (fuel : Int) (he : Sr.err p h fuel = 0) (hst : straight p = true) (hs : (term p h fuel).size ≤ 65535) : (term p h fuel).size = labels p ∧ pairs p = (term p h fuel).want (labels p) (labels p) := by
  unfold term at hs ⊢
  rw [if_pos he] at hs ⊢
  have hj := un_just p [] 0 k0 (M0 h) [] (fun _ _ => False) hst (fun m => ⟨rfl, fun _ _ h => h.elim⟩)
  have ht := go_told p h
  have hl : labsT (go p h).1 = labR 0 (labels p) := by have := hj.labs; rw [List.append_nil] at this; exact this
  have hsz : (go p h).1.size = labels p := by
    have := congrArg List.length hl
    unfold labsT labR at this
    rw [List.length_map, List.length_map, List.length_range'] at this
    exact this
  refine ⟨hsz, ?_⟩
  have hiff : ∀ i j, noted 0 none_ p i j ↔ i < j ∧ j < labels p ∧ ¬ (go p h).1.bf i j := fun i j => by
    have hb := (go p h).1.beside_iff 0 (by rw [hsz]; exact hl) i j
    rw [hsz, Nat.zero_add, Nat.sub_zero, Nat.sub_zero] at hb
    constructor
    · exact fun hn => (hb.1 (hj.beside i j (.inl hn))).2
    · exact fun hn => ht.beside i j (hb.2 ⟨Nat.zero_le _, hn⟩)
  unfold pairs
  rw [if_neg (by omega)]
  unfold pairsOf Sp.T.want
  refine flatMap_same _ fun i hi => ?_
  have hi' : i < labels p := List.mem_range.1 hi
  unfold listOf Sp.T.rowOf
  congr 1
  have hsplit : List.range (labels p) = List.range' 0 (i + 1) ++ List.range' (i + 1) (labels p - (i + 1)) := by
    rw [List.range_eq_range']
    have := List.range'_append_1 (s := 0) (m := i + 1) (n := labels p - (i + 1))
    rw [Nat.zero_add] at this
    rw [this]
    congr 1
    omega
  rw [hsplit, List.filter_append]
  have h0 : (List.range' 0 (i + 1)).filter (fun j => decide (noted 0 none_ p i j)) = [] := by
    rw [List.filter_eq_nil_iff]
    intro j hj
    rw [List.mem_range'_1] at hj
    rw [decide_eq_true_iff, hiff]
    omega
  rw [h0, List.nil_append]
  refine List.filter_congr fun j hj => ?_
  rw [List.mem_range'_1] at hj
  rw [Bool.eq_iff_iff, decide_eq_true_iff, hiff, Bool.not_eq_true', Sp.T.before, decide_eq_false_iff_not]
  constructor
  · rintro ⟨h1, h2, h3⟩ ⟨-, h4⟩
    exact h3 (by simpa using h4)
  · exact fun h => ⟨by omega, by omega, fun hb => h ⟨⟨by omega, by omega, by omega, by omega⟩, by simpa using hb⟩⟩
end Un
end Go.Proofs.YtkjmddgnfgbioaaDoor


namespace Go.Proofs.YtkjmddgnfgbioaaDoor
set_option linter.unusedVariables false
set_option linter.unusedSimpArgs false
set_option maxRecDepth 100000
open Go.RowKit

def StrOK (p : St.P) : Prop := ∀ (w : World) (B n c : Nat) (A : Option Addr), B ≤ w.heap.size → PR B w A n p → n ≤ c → c ≤ maxLen → p.size ≤ 1152921504606846976 →
  Calls Tryd.prog 41 #[.slice A n c] w fun e w' => e = .returned (.bool (St.straight p)) ∧ Below w.heap.size w w'
theorem str_kinds (k : Int) : k = 6 ∨ k = 7 ∨ k = 4 ∨ k = 5 ∨ ((k == 6) = false ∧ (k == 7) = false ∧ (k == 4) = false ∧ (k == 5) = false) := by
  by_cases h6 : k = 6; · exact .inl h6
  by_cases h7 : k = 7; · exact .inr (.inl h7)
  by_cases h4 : k = 4; · exact .inr (.inr (.inl h4))
  by_cases h5 : k = 5; · exact .inr (.inr (.inr (.inl h5)))
  exact .inr (.inr (.inr (.inr (by simp [h4, h5, h6, h7]))))

set_option maxHeartbeats 4000000 in
theorem straight_step (p : St.P) (ih : ∀ q : St.P, q.size < p.size → StrOK q) : StrOK p := by
  intro w B n c A hB hp hnc hcm hsz
  obtain ⟨g, o, hA, hpl⟩ := hp.place
  have hn63 : n ≤ 9223372036854775807 := by unfold maxLen at hcm; omega
  go_enter Tryd.func41, Tryd.ntmps41
  go_wp2
  go_loopw [7] (fun i wr => ∃ (k : Nat) (q : St.P), k ≤ n ∧ i = .int .i64 (k : Int) ∧ St.straight q = St.straight p ∧ q.size ≤ p.size ∧ PR B wr (some ⟨g, o + k * 12, none⟩) (n - k) q ∧ Below w.heap.size w wr) (fun i _ => n - (intOf i).toNat)
  case atStart => exact ⟨0, p, Nat.zero_le _, rfl, rfl, Nat.le_refl _, hpl, Below.refl _ _⟩
  case round =>
    obtain ⟨k, q, hk, rfl, hq0, hqs, hq, hb⟩ := hrel
    by_cases hlt : k < n
    · obtain ⟨kd, nm, ak, an, bk, bn, sa, sb, aA, bA, al, ac, bl, bc, ea, eb, D, dl, dc, E, el, ec, body, els, rest, rfl, hg, ⟨hd1, hd2, he1, he2⟩, hcell, xa, xb, pb, pe, pr⟩ := hq.next (by omega)
      have hAA := hA (by omega)
      subst hAA
      have c0 : wr.cell? ⟨g, o + k * 12, none⟩ = some (.int .i64 kd) := hcell 0 _ rfl
      have c1 := hcell 1 _ rfl
      have c2 := hcell 2 _ rfl
      have c3 := hcell 3 _ rfl
      have c4 := hcell 4 _ rfl
      have c5 := hcell 5 _ rfl
      have c6 := hcell 6 _ rfl
      have c7 := hcell 7 _ rfl
      have c8 := hcell 8 _ rfl
      have c9 := hcell 9 _ rfl
      have c10 := hcell 10 _ rfl
      have c11 := hcell 11 _ rfl
      have hBr : B ≤ wr.heap.size := Nat.le_trans hB hb.size
      have hs : body.size < p.size ∧ els.size < p.size ∧ rest.size ≤ p.size := by rw [St.P.size] at hqs; omega
      obtain ⟨p0, hb0, hbr⟩ := st_copy hb (stcells kd nm (xcells ak an sa aA al ac) (xcells bk bn sb bA bl bc) D dl dc E el ec) 40
      have HH := Lib.hid (And.intro hqs (And.intro hs hsz))
      clear hcell xa xb hq hqs hs hpl hp hsz
      unfold stcells xcells at p0 hb0 hbr
      rcases str_kinds kd with rfl | rfl | rfl | rfl | ⟨k6, k7, k4, k5⟩
      · have HL := Lib.hid (show St.straight p = false by rw [← hq0]; simp [St.straight])
        clear hq0
        go_wp2
        go_ret
        exact ⟨by rw [HL.out]; rfl, hb0⟩
      · have HL := Lib.hid (show St.straight p = false by rw [← hq0]; simp [St.straight])
        clear hq0
        go_wp2
        go_ret
        exact ⟨by rw [HL.out]; rfl, hb0⟩
      · have hsb : St.straight (.cons 4 nm.data.toList ea eb body els rest) = (St.straight body && St.straight rest) := by
          simp only [St.straight]
          cases St.straight body <;> cases St.straight rest <;> rfl
        rw [hsb] at hq0
        go_wp2_with fail
        refine (ih body HH.out.2.1.1 _ B dl dc D (Nat.le_trans hBr hbr.size) (pb.later (hbr.mono hBr)) hd1 hd2 (by have := HH.out; omega)).mono ?_
        rintro e w2 ⟨rfl, hb2⟩
        have hb3 := below_next hb2 hb0
        have hbr3 := below_next hb2 hbr
        rcases hsv : St.straight body with _ | _
        · have HL := Lib.hid (show St.straight p = false by rw [← hq0, hsv]; rfl)
          clear hq0 hsb hsv
          go_wp2
          go_ret
          exact ⟨by rw [HL.out]; rfl, hb3⟩
        · have HL := Lib.hid (show St.straight rest = St.straight p by rw [← hq0, hsv]; rfl)
          clear hq0 hsb hsv
          go_wp2
          go_roundw
          case rel => exact ⟨k + 1, rest, by omega, by go_num, HL.out, by have := HH.out; omega, by rw [show n - (k + 1) = n - k - 1 by omega]; exact pr.later (hbr3.mono hBr), hb3⟩
          case measure => simp [intOf]; omega
      · have hsb : St.straight (.cons 5 nm.data.toList ea eb body els rest) = (St.straight body && St.straight rest) := by
          simp only [St.straight]
          cases St.straight body <;> cases St.straight rest <;> rfl
        rw [hsb] at hq0
        go_wp2_with fail
        refine (ih body HH.out.2.1.1 _ B dl dc D (Nat.le_trans hBr hbr.size) (pb.later (hbr.mono hBr)) hd1 hd2 (by have := HH.out; omega)).mono ?_
        rintro e w2 ⟨rfl, hb2⟩
        have hb3 := below_next hb2 hb0
        have hbr3 := below_next hb2 hbr
        rcases hsv : St.straight body with _ | _
        · have HL := Lib.hid (show St.straight p = false by rw [← hq0, hsv]; rfl)
          clear hq0 hsb hsv
          go_wp2
          go_ret
          exact ⟨by rw [HL.out]; rfl, hb3⟩
        · have HL := Lib.hid (show St.straight rest = St.straight p by rw [← hq0, hsv]; rfl)
          clear hq0 hsb hsv
          go_wp2
          go_roundw
          case rel => exact ⟨k + 1, rest, by omega, by go_num, HL.out, by have := HH.out; omega, by rw [show n - (k + 1) = n - k - 1 by omega]; exact pr.later (hbr3.mono hBr), hb3⟩
          case measure => simp [intOf]; omega
      · have HL := Lib.hid (show St.straight rest = St.straight p by rw [← hq0]; simp only [St.straight, k6, k7, k4, k5]; cases St.straight rest <;> rfl)
        clear hq0
        go_wp2
        go_roundw
        case rel => exact ⟨k + 1, rest, by omega, by go_num, HL.out, by have := HH.out; omega, by rw [show n - (k + 1) = n - k - 1 by omega]; exact pr.later (hbr.mono hBr), hb0⟩
        case measure => simp [intOf]; omega
    · have hkn : k = n := by omega
      have h0 : St.straight p = true := by
        rw [hkn, Nat.sub_self] at hq
        rw [← hq0, hq.zero]
        rfl
      have HH := Lib.hid h0
      clear h0 hkn hq0
      go_wp2
      go_ret
      exact ⟨by rw [HH.out]; rfl, hb⟩
theorem straight_any (p : St.P) : StrOK p := by
  suffices h : ∀ m (p : St.P), p.size ≤ m → StrOK p from h _ p (Nat.le_refl _)
  intro m
  induction m with
  | zero =>
    intro p hp
    exact straight_step p fun q hq => by omega
  | succ m ih => exact fun p hp => straight_step p fun q hq => ih q (by omega)
end Go.Proofs.YtkjmddgnfgbioaaDoor


namespace Go.Proofs.YtkjmddgnfgbioaaDoor
set_option linter.unusedVariables false
set_option linter.unusedSimpArgs false
set_option maxRecDepth 100000
open Go Go.RowKit

theorem wp_push_at {P : Program} (w : World) {ops : Array Oper} {rest : List Oper} {o : Oper} {a : Act} {Q : Exit → Act → World → Prop} (s x : Operand) (q : Nat) (hq : w.heap.size = q)
    (base t e : TypeId) (z : Value) (size bytes : Nat) (ht : P.underlying t = some (.slice e)) (hinfo : (P.info? e).map (fun i => (i.zero, i.size, i.bytes)) = some (some z, size, bytes)) (hz : z.cells.size = size) (hsz : 0 < size)
    {v : Value} {n : Nat} {xs : List Value} (hown : w.ownsRow base e size v n xs) {c : Nat} (news : List Value) (hlen : news.length = 1 * size) (h1 : ∀ u ∈ news, u.oneCell' = true)
    (h63 : n + 1 ≤ maxLen) (hbytes : (n + 1) * bytes ≤ 140737488355328) (hbase : base ≤ w.heap.size)
    (hgd : o.guard = none) (ho : o.op = .call { callee := .builtin .append, args := #[s, x], argTypes := #[t, t] }) (hs : a.eval s = v) (hx : a.eval x = .slice (some ⟨q, 0, none⟩) 1 c)
    (h : ∀ v' w', w'.ownsRow base e size v' (n + 1) (xs ++ news) → w.grownBy w' v.ownBlock → (v'.ownBlock = v.ownBlock ∨ v'.ownBlock = some (w.heap.size + 1)) → Below base w w' → wpList P ops Q rest (a.put o.dst v') w') : wpList P ops Q (o :: rest) a (w.alloc (.cells news.toArray e)) := by
  subst hq
  exact wp_push w s x base t e z size bytes ht hinfo hz hsz hown news hlen h1 h63 hbytes hbase hgd ho hs hx h
end Go.Proofs.YtkjmddgnfgbioaaDoor


namespace Go.Proofs.YtkjmddgnfgbioaaDoor
set_option linter.unusedVariables false
set_option linter.unusedSimpArgs false
set_option maxRecDepth 100000
open Go.RowKit

namespace Sp
theorem T.rowOf_zero (t : T) (n i : Nat) : t.rowOf n i 0 = [] := rfl
theorem T.rowOf_succ (t : T) (n i m : Nat) : t.rowOf n i (m + 1) = t.rowOf n i m ++ (if t.before (i : Int) ((i + 1 + m : Nat) : Int) then [] else [(i, i + 1 + m)]) := by
  unfold T.rowOf
  rw [List.range'_1_concat, List.filter_append, List.map_append]
  congr 1
  have e : ((i + 1 + m : Nat) : Int) = (i : Int) + 1 + m := by omega
  cases h : t.before (i : Int) ((i + 1 + m : Nat) : Int) <;> (rw [e] at h; simp [h])
theorem T.rowOf_len (t : T) (n i m : Nat) : (t.rowOf n i m).length ≤ m := by
  unfold T.rowOf
  rw [List.length_map]
  refine Nat.le_trans (List.length_filter_le _ _) ?_
  rw [List.length_range']
  exact Nat.le_refl _
theorem T.want_succ (t : T) (n i : Nat) : t.want n (i + 1) = t.want n i ++ t.rowOf n i (n - (i + 1)) := by
  unfold T.want
  rw [List.range_succ, List.flatMap_append]
  simp
theorem T.want_len (t : T) (n : Nat) : ∀ i, (t.want n i).length ≤ i * n
  | 0 => Nat.zero_le _
  | i + 1 => by
    rw [T.want_succ, List.length_append, Nat.succ_mul]
    have h1 := T.want_len t n i
    have h2 := t.rowOf_len n i (n - (i + 1))
    omega
end Sp
theorem paircs_append (a b : List (Nat × Nat)) : paircs (a ++ b) = paircs a ++ paircs b := by simp [paircs]
theorem isP_straight {w : World} {D : Option Addr} {dl dc : Nat} {p : St.P} (h : IsP w (.slice D dl dc) p) (hs : p.size ≤ 274877906944) : Calls Tryd.prog 41 #[.slice D dl dc] w fun e w' => e = .returned (.bool (St.straight p)) ∧ Below w.heap.size w w' := by
  obtain ⟨A, n, c, e, h1, h2, h3⟩ := h
  injection e with e1 e2 e3
  subst e1 e2 e3
  exact straight_any p w w.heap.size dl dc D (Nat.le_refl _) h3 h1 h2 (by omega)

set_option maxHeartbeats 8000000 in
theorem mhpJust_any (p : St.P) (h : List Int) (w : World) (D : Option Addr) (dl dc : Nat) (hT : Tab w) (hp : IsP w (.slice D dl dc) p) (hs : p.size ≤ 274877906944) (hh : h.length = 8) (hr : ∀ x ∈ h, Ex.rng x) :
    Calls Tryd.prog 10 #[.slice D dl dc, hcells h] w fun e w' => e = .returned (.bool true) ∧ Below w.heap.size w w' := by
  obtain ⟨b0, b1, b2, b3, b4, b5, b6, b7, rfl⟩ := Sr.heap8 hh
  have hU := fun w' (h : IsP w' (.slice D dl dc) p) => isP_unfold h [b0, b1, b2, b3, b4, b5, b6, b7] 2000 hs rfl hr
  have hL := fun w' (h : IsP w' (.slice D dl dc) p) => isP_labelsU h hs
  have hPr := fun w' (h : IsP w' (.slice D dl dc) p) (hT : Tab w') => isP_pairs h hT (show p.size ≤ 1099511627776 by omega)
  have hsz := Un.term_size_ p [b0, b1, b2, b3, b4, b5, b6, b7] 2000
  have hlaw := Un.just p [b0, b1, b2, b3, b4, b5, b6, b7] 2000
  obtain ⟨a0, a1, a2, a3, a4, a5, a6, a7, hfin⟩ := Sr.heap8 (Un.fin_len_ p [b0, b1, b2, b3, b4, b5, b6, b7] 2000 rfl)
  obtain ⟨E, hE⟩ : ∃ E, E = Sr.err p [b0, b1, b2, b3, b4, b5, b6, b7] 2000 := ⟨_, rfl⟩
  obtain ⟨t, ht⟩ : ∃ t, t = Un.term p [b0, b1, b2, b3, b4, b5, b6, b7] 2000 := ⟨_, rfl⟩
  obtain ⟨M, hM⟩ : ∃ M, M = Sr.fin p [b0, b1, b2, b3, b4, b5, b6, b7] 2000 := ⟨_, rfl⟩
  obtain ⟨LB, hLB⟩ : ∃ LB, LB = St.labels p := ⟨_, rfl⟩
  obtain ⟨PS, hPS⟩ : ∃ PS, PS = St.pairs p := ⟨_, rfl⟩
  obtain ⟨SB, hSB⟩ : ∃ SB, SB = St.straight p := ⟨_, rfl⟩
  have hS := fun w' (h : IsP w' (.slice D dl dc) p) => isP_straight h hs
  simp only [← hSB] at hS
  rw [← hM] at hfin
  rw [← ht] at hsz
  simp only [← hE, ← ht, ← hLB, ← hPS, ← hSB] at hlaw
  simp only [← hE, ← ht, ← hM, hfin] at hU
  simp only [← hLB] at hL
  simp only [← hPS] at hPr
  simp only [hcells, ints, List.map_cons, List.map_nil] at hU ⊢
  have hb0 : Below w.heap.size w (w.alloc (.cells #[.int .i64 b0, .int .i64 b1, .int .i64 b2, .int .i64 b3, .int .i64 b4, .int .i64 b5, .int .i64 b6, .int .i64 b7] 50)) := below_alloc (Below.refl _ _) _
  have x0 := Blk.new w 50 [.int .i64 b0, .int .i64 b1, .int .i64 b2, .int .i64 b3, .int .i64 b4, .int .i64 b5, .int .i64 b6, .int .i64 b7]
  have ip0 := hp.step hb0
  have hT0 := hT.step hb0
  have HH := Lib.hid (And.intro hlaw hsz)
  have HF0 := Lib.hid (And.intro hL (And.intro hPr hS))
  clear hE ht hM hfin hlaw hsz hp hs hh hr hT hLB hPS hL hPr hSB hS
  go_enter Tryd.func10, Tryd.ntmps10
  go_upto_region 1 with (fail)
  obtain ⟨Q, hQ⟩ : ∃ Q, Q = w.heap.size := ⟨_, rfl⟩
  generalize (w.alloc (.cells #[.int .i64 b0, .int .i64 b1, .int .i64 b2, .int .i64 b3, .int .i64 b4, .int .i64 b5, .int .i64 b6, .int .i64 b7] 50)) = W0 at hb0 x0 ip0 hT0 ⊢
  rw [← hQ] at x0 ⊢
  have HQ := Lib.hid hQ
  clear hQ
  go_wp2_with fail
  refine (alive20_any W0 hT0).mono ?_
  rintro e w1 ⟨rfl, hb1⟩
  replace x0 := x0.below hb1
  replace ip0 := ip0.step hb1
  replace hT0 := hT0.step hb1
  replace hb0 := below_next hb1 hb0
  have d0 : w1.cell? ⟨Q, 0, none⟩ = some (.int .i64 b0) := (x0.cell 0).trans rfl
  have d1 : w1.cell? ⟨Q, 1, none⟩ = some (.int .i64 b1) := (x0.cell 1).trans rfl
  have d2 : w1.cell? ⟨Q, 2, none⟩ = some (.int .i64 b2) := (x0.cell 2).trans rfl
  have d3 : w1.cell? ⟨Q, 3, none⟩ = some (.int .i64 b3) := (x0.cell 3).trans rfl
  have d4 : w1.cell? ⟨Q, 4, none⟩ = some (.int .i64 b4) := (x0.cell 4).trans rfl
  have d5 : w1.cell? ⟨Q, 5, none⟩ = some (.int .i64 b5) := (x0.cell 5).trans rfl
  have d6 : w1.cell? ⟨Q, 6, none⟩ = some (.int .i64 b6) := (x0.cell 6).trans rfl
  have d7 : w1.cell? ⟨Q, 7, none⟩ = some (.int .i64 b7) := (x0.cell 7).trans rfl
  clear hb1
  go_wp2_with fail
  refine (hU w1 ip0).mono ?_
  rintro e w2 ⟨k, c, b, l, A, n, cap, rfl, tm, -, hb2⟩
  replace ip0 := ip0.step hb2
  replace hT0 := hT0.step hb2
  replace hb0 := below_next hb2 hb0
  clear d0 d1 d2 d3 d4 d5 d6 d7 hb2 hU x0
  have hB1 : Below w2.heap.size w2 ((w2.alloc (.cells zterm.toArray 59)).alloc (.cells zheap.toArray 50)) := below_alloc (below_alloc (Below.refl _ _) _) _
  have y1 := (Blk.new w2 59 zterm).alloc (.cells zheap.toArray 50)
  have y2 := Blk.new (w2.alloc (.cells zterm.toArray 59)) 50 zheap
  have hz : ((w2.alloc (.cells zterm.toArray 59)).alloc (.cells zheap.toArray 50)).heap.size = w2.heap.size + 1 + 1 := by simp
  simp only [World.size_alloc] at y2
  have hend : ∀ w7 w8, ((w2.alloc (.cells zterm.toArray 59)).alloc (.cells zheap.toArray 50)).grownBy w7 (some w2.heap.size) → w7.grownBy w8 (some (w2.heap.size + 1)) → Below w2.heap.size w2 w8 := fun w7 w8 g7 g8 => (hB1.trans (below_of_grown g7 (by omega) (by omega))).trans (below_of_grown g8 (by have := g7.size; omega) (by omega))
  have hx2 : ∀ w7, ((w2.alloc (.cells zterm.toArray 59)).alloc (.cells zheap.toArray 50)).grownBy w7 (some w2.heap.size) → Blk w7 (w2.heap.size + 1) 50 zheap := fun w7 g7 => y2.grown g7 (by intro e; injection e with e; omega)
  have HE := Lib.hid (And.intro hend (And.intro hx2 (And.intro tm (And.intro hT0 (And.intro ip0 hb0)))))
  clear hend hB1 hz hx2 y2 tm hT0 ip0 hb0
  unfold zterm zheap at *
  go_upto_region 4 with (first | (refine wpl_put_blk y1 [.int .i64 k, .int .i64 c, .bool b, .int .i64 l, .slice A n cap] (by kernel_rfl) rfl (by intro v hv; simp at hv; rcases hv with rfl | rfl | rfl | rfl | rfl <;> rfl) rfl rfl rfl rfl ?_; intro w7 hB7 hg7; have hB72 := HE.out.2.1 w7 hg7) | (refine wpl_put_blk hB72 [.int .i64 a0, .int .i64 a1, .int .i64 a2, .int .i64 a3, .int .i64 a4, .int .i64 a5, .int .i64 a6, .int .i64 a7] (by kernel_rfl) rfl (by intro v hv; simp at hv; rcases hv with rfl | rfl | rfl | rfl | rfl | rfl | rfl | rfl <;> rfl) rfl rfl rfl rfl ?_; intro w3 hB8 hg8) | fail)
  obtain ⟨hend, -, tm, hT0, ip0, hb0⟩ := HE.out
  have hb23 := hend w7 w3 hg7 hg8
  have y3 := hB7.grown hg8 (by intro e; injection e with e; omega)
  replace tm := tm.step_ hb23
  replace ip0 := ip0.step hb23
  replace hT0 := hT0.step hb23
  replace hb0 := below_next hb23 hb0
  obtain ⟨Q7, hQ7⟩ : ∃ Q7, Q7 = w2.heap.size := ⟨_, rfl⟩
  rw [← hQ7] at y3 ⊢
  clear hend hb23 hB7 hg7 hg8 hB72 y1 hQ7 HE hB8
  have HZ := Lib.hid (And.intro tm (And.intro hT0 (And.intro ip0 (And.intro hb0 y3))))
  clear tm hT0 ip0 hb0 y3
  rcases h0 : (E != 0) with _ | _
  · go_wp2_with fail
    refine (HF0.out.2.2 w3 HZ.out.2.2.1).mono ?_
    rintro e w8 ⟨rfl, hb8⟩
    obtain ⟨tm, hT0, ip0, hb0, y3⟩ := HZ.out
    replace tm := tm.step_ hb8
    replace hT0 := hT0.step hb8
    replace ip0 := ip0.step hb8
    replace hb0 := below_next hb8 hb0
    replace y3 := y3.below hb8
    clear hb8
    rcases SB with _ | _
    · have HZ2 := Lib.hid hb0
      clear tm hT0 ip0 hb0 y3
      go_wp2_with fail
      go_ret
      exact ⟨rfl, HZ2.out⟩
    · have hE0 : E = 0 := by rw [bne_eq_false_iff_eq] at h0; exact h0
      obtain ⟨hlaw, hsz⟩ := HH.out
      obtain ⟨hsl, hpw⟩ := hlaw hE0 rfl (by omega)
      have u0 : w8.cell? ⟨Q7, 0, none⟩ = some (.int .i64 k) := (y3.cell 0).trans rfl
      have u1 : w8.cell? ⟨Q7, 1, none⟩ = some (.int .i64 c) := (y3.cell 1).trans rfl
      have u2 : w8.cell? ⟨Q7, 2, none⟩ = some (.bool b) := (y3.cell 2).trans rfl
      have u3 : w8.cell? ⟨Q7, 3, none⟩ = some (.int .i64 l) := (y3.cell 3).trans rfl
      have u4 : w8.cell? ⟨Q7, 4, none⟩ = some (.slice A n cap) := (y3.cell 4).trans rfl
      have HZ2 := Lib.hid (And.intro tm (And.intro hT0 (And.intro ip0 (And.intro hb0 y3))))
      clear HZ hlaw hE0 hT0 ip0 hb0 y3 HH h0
      go_wp2_with fail
      refine (leaves_any w8 (tcells k c b l A n cap) t tm (by omega)).mono ?_
      rintro e w9 ⟨v9, rfl, hs9, hb9⟩
      obtain ⟨V9, c9, rfl, -⟩ := hs9
      obtain ⟨-, hT0, ip0, hb0, y3⟩ := HZ2.out
      clear u0 u1 u2 u3 u4 tm
      obtain ⟨N, hN⟩ : ∃ N, N = t.size := ⟨_, rfl⟩
      rw [← hN] at hsl hsz ⊢
      have HG := Lib.hid (And.intro hsl (And.intro hpw hsz))
      have HY := Lib.hid (And.intro (HZ2.out.1.step_ hb9) (And.intro (hT0.step hb9) (And.intro (ip0.step hb9) (And.intro (below_next hb9 hb0) (y3.below hb9)))))
      have hLBN : LB = N := hsl.symm
      clear hT0 ip0 hb0 y3 HZ2 hb9 hsl hpw
      subst hLBN
      have hN2 := hsz
      clear hsz
      have HN := Lib.hid hN
      clear hN
      go_wp2_with fail
      go_loopw [8, 32] (fun out i wr => ∃ k : Nat, k ≤ LB ∧ i = .int .i64 (k : Int) ∧ Below w9.heap.size w9 wr ∧ wr.ownsRow w9.heap.size 47 2 out (t.want LB k).length (paircs (t.want LB k))) (fun _ i _ => LB - (intOf i).toNat)
      case atStart => exact ⟨0, Nat.zero_le _, rfl, Below.refl _ _, World.ownsRow_nil _ _ _ _⟩
      case round =>
        obtain ⟨i, hi, rfl, hb, hown⟩ := hrel
        by_cases hlt : i < LB
        · obtain ⟨W0, hW0⟩ : ∃ W0, W0 = wr := ⟨_, rfl⟩
          subst hW0
          have HA := Lib.hid (And.intro hb hown)
          clear hb hown
          go_wp2_with fail
          go_loopw [8, 11] (fun out j wr => ∃ m : Nat, m + (i + 1) ≤ LB ∧ j = .int .i64 ((i + 1 + m : Nat) : Int) ∧ Below w9.heap.size w9 wr ∧ wr.ownsRow w9.heap.size 47 2 out (t.want LB i ++ t.rowOf LB i m).length (paircs (t.want LB i ++ t.rowOf LB i m))) (fun _ j _ => LB - (intOf j).toNat)
          case atStart => exact ⟨0, by omega, by go_num, HA.out.1, by simpa [Sp.T.rowOf_zero] using HA.out.2⟩
          case round =>
            clear HA
            obtain ⟨m, hm, rfl, hbk, hownk⟩ := hrel
            obtain ⟨j, hj⟩ : ∃ j, j = i + 1 + m := ⟨_, rfl⟩
            rw [← hj]
            by_cases hjl : j < LB
            · have y3 := HY.out.2.2.2.2.below hbk
              have u0 : wr.cell? ⟨Q7, 0, none⟩ = some (.int .i64 k) := (y3.cell 0).trans rfl
              have u1 : wr.cell? ⟨Q7, 1, none⟩ = some (.int .i64 c) := (y3.cell 1).trans rfl
              have u2 : wr.cell? ⟨Q7, 2, none⟩ = some (.bool b) := (y3.cell 2).trans rfl
              have u3 : wr.cell? ⟨Q7, 3, none⟩ = some (.int .i64 l) := (y3.cell 3).trans rfl
              have u4 : wr.cell? ⟨Q7, 4, none⟩ = some (.slice A n cap) := (y3.cell 4).trans rfl
              have hsucc := t.rowOf_succ LB i m
              rw [← hj] at hsucc
              have gB := before_any wr [.int .i64 k, .int .i64 c, .bool b, .int .i64 l, .slice A n cap] t (i : Int) (j : Int) (HY.out.1.step_ hbk) (by have := HN.out; omega)
              obtain ⟨bv, hbv⟩ : ∃ x, x = t.before (i : Int) (j : Int) := ⟨_, rfl⟩
              rw [← hbv] at gB hsucc
              have HR := Lib.hid (And.intro hsucc (And.intro hj (And.intro hbk hownk)))
              clear hsucc hbk hownk y3 hbv hj
              rcases bv with _ | _
              · go_wp2_with fail
                refine gB.mono ?_
                rintro e w5 ⟨rfl, hb5⟩
                clear u0 u1 u2 u3 u4 gB
                obtain ⟨hsucc, hj, hbk, hownk⟩ := HR.out
                have hbk5 := below_next hb5 hbk
                have hown5 := own_keeps hownk (Keeps.of_below hb5 (fun _ => False)) (fun _ _ => id)
                have hbase5 := hbk5.size
                have hlen1 := t.want_len LB i
                have hlen2 := t.rowOf_len LB i m
                have hlen3 : i * LB ≤ 2000 * 2000 := Nat.mul_le_mul (by omega) (by omega)
                have n63 : (t.want LB i ++ t.rowOf LB i m).length + 1 ≤ maxLen := by rw [List.length_append]; unfold maxLen; omega
                have n47 : ((t.want LB i ++ t.rowOf LB i m).length + 1) * 16 ≤ 140737488355328 := by rw [List.length_append]; omega
                have HC := Lib.hid hbk5
                clear hsucc hj hbk hownk hlen1 hlen2 hlen3 hbk5 hb5
                go_wp2_with (first | (at_builtin; refine wp_push_at _ _ _ _ (by first | rfl | simp) _ _ _ _ _ _ Tryd.underlying42 info_pair rfl (by decide) hown5 [.int .i64 (i : Int), .int .i64 (j : Int)] rfl (by simp [Value.oneCell']) n63 n47 hbase5 rfl rfl rfl rfl ?_; intro v7 w7 hr7 hg7 hv7 hb7) | fail)
                have HP := Lib.hid (And.intro hr7 (HC.out.trans hb7))
                clear hr7 hg7 hv7 hb7
                go_roundw
                case rel =>
                  obtain ⟨hsucc, hj, -, -⟩ := HR.out
                  refine ⟨m + 1, by omega, by rw [hj]; go_num, HP.out.2, ?_⟩
                  rw [hsucc]
                  have := HP.out.1
                  simpa [paircs_append, paircs, pairc, Nat.add_assoc] using this
                case measure => simp [intOf]; omega
              · go_wp2_with fail
                refine gB.mono ?_
                rintro e w5 ⟨rfl, hb5⟩
                clear u0 u1 u2 u3 u4 gB
                go_wp2_with fail
                go_roundw
                case rel =>
                  obtain ⟨hsucc, hj, hbk, hownk⟩ := HR.out
                  refine ⟨m + 1, by omega, by rw [hj]; go_num, below_next hb5 hbk, ?_⟩
                  rw [hsucc]
                  simpa using own_keeps hownk (Keeps.of_below hb5 (fun _ => False)) (fun _ _ => id)
                case measure => simp [intOf]; omega
            · have hmN : m = LB - (i + 1) := by omega
              have HC := Lib.hid (And.intro hbk hownk)
              have HJ := Lib.hid hmN
              clear hbk hownk hmN hj
              go_wp2_with fail
              go_roundw
              case rel => exact ⟨i + 1, by omega, by go_num, HC.out.1, by rw [Sp.T.want_succ, ← HJ.out]; exact HC.out.2⟩
              case measure => simp [intOf]; omega
        · obtain rfl : i = LB := by omega
          obtain ⟨Ao, co, rfl, -, -⟩ := own_slice hown
          have hsl := SlV.of_own hown
          obtain ⟨-, hT0, ip0, hb0, -⟩ := HY.out
          have gPr := HF0.out.2.1 wr (ip0.step hb) (hT0.step hb)
          have HC := Lib.hid (And.intro (below_next hb hb0) (And.intro hsl (ip0.step hb)))
          clear hown hsl hT0 ip0 hb0 hb
          go_wp2_with fail
          refine gPr.mono ?_
          rintro e w5 ⟨A5, c5, rfl, hs5, hb5⟩
          have hs6 := HC.out.2.1.below hb5
          have hd : decide (PS = t.want i i) = true := decide_eq_true HG.out.2.1
          have HC5 := Lib.hid (And.intro (below_next hb5 HC.out.1) (HC.out.2.2.step hb5))
          clear hb5 gPr HC
          go_wp2_with fail
          refine (equal_pairs _ _ PS (t.want i i) w5 hs5 hs6).mono ?_
          rintro e w6 ⟨rfl, m6, rfl⟩
          rw [hd]
          have gL := HF0.out.1 (w5.drewN m6) (HC5.out.2.step (below_drewN (Below.refl _ _) m6))
          have HC6 := Lib.hid (below_drewN HC5.out.1 m6)
          clear hs5 hs6 hd HC5
          go_wp2_with fail
          refine gL.mono ?_
          rintro e w7 ⟨rfl, hb7⟩
          have hZ := Lib.hid (below_next hb7 HC6.out)
          clear hb7 gL HC6
          go_wp2_with fail
          go_ret
          exact ⟨rfl, hZ.out⟩
  · go_wp2_with fail
    go_ret
    exact ⟨rfl, HZ.out.2.2.2.1⟩
end Go.Proofs.YtkjmddgnfgbioaaDoor
