/-
  No edge of the core can be spared: without it what it led to is not behind any more; and it is one of the graph's own. On condition that what is read is of bulk at most 1048576; the table of math/bits is as its initialiser lays it (tied to the program's text).
-/
import Derived.Test.YtcpoglchjkpbpaaDoorGrY
import Derived.Test.YtcpoglchjkpbpaaDoorOwn
import Derived.Deep.RegionLaw
import Derived.Lib.SliceRun
import Derived.Test.YtcpoglchjkpbpaaDoorMarkT
import Derived.Test.YtcpoglchjkpbpaaDoorBs9
import Derived.Test.YtcpoglchjkpbpaaDoorGcQ
import Derived.Test.YtcpoglchjkpbpaaDoorFacts
import Derived.Test.YtcpoglchjkpbpaaDoorTabEnd
import Derived.Test.YtcpoglchjkpbpaaDoorGrX

namespace Go.Proofs.YtcpoglchjkpbpaaDoor
set_option linter.unusedVariables false
set_option linter.unusedSimpArgs false
set_option maxRecDepth 100000
open Go.RowKit

def setL : List Value → Nat → List Value → List Value
  | cs, _, [] => cs
  | cs, o, v :: r => setL (cs.set o v) (o + 1) r
theorem setL_length : ∀ (vs cs : List Value) (o : Nat), (setL cs o vs).length = cs.length
  | [], _, _ => rfl
  | v :: r, cs, o => by unfold setL; rw [setL_length r]; simp
theorem setL_out : ∀ (vs cs : List Value) (o i : Nat), (i < o ∨ o + vs.length ≤ i) → (setL cs o vs)[i]? = cs[i]?
  | [], _, _, _, _ => rfl
  | v :: r, cs, o, i, h => by
    unfold setL
    rw [setL_out r _ _ _ (by simp at h; omega), List.getElem?_set_ne (by simp at h; omega)]
theorem setL_in : ∀ (vs cs : List Value) (o i : Nat), i < vs.length → o + i < cs.length → (setL cs o vs)[o + i]? = vs[i]?
  | v :: r, cs, o, 0, _, h => by
    unfold setL
    rw [setL_out r _ _ _ (by omega), Nat.add_zero, List.getElem?_set_self (by omega)]
    rfl
  | v :: r, cs, o, i + 1, h, h' => by
    unfold setL
    rw [show o + (i + 1) = o + 1 + i by omega, setL_in r _ _ i (by simpa using h) (by simp; omega)]
    rfl
theorem Blk.setCells {g : Nat} {t : TypeId} : ∀ (vs : List Value) {w : World} {cs : List Value} (o : Nat), Blk w g t cs → Blk (w.setCells g o vs) g t (setL cs o vs)
  | [], _, _, _, h => h
  | v :: r, _, _, o, h => Blk.setCells r (o + 1) (h.set_ o v)
theorem grown_setCells (g : Nat) : ∀ (vs : List Value) (w : World) (o : Nat), w.grownBy (w.setCells g o vs) (some g)
  | [], w, _ => World.grownBy.refl w _
  | v :: r, w, o => grown_trans (grown_setCell w g o v) (grown_setCells g r _ _)
theorem edcs_length (l : List Gr.Ed) : (edcs l).length = l.length * 2 := flat_length edc 2 (fun _ => rfl) l
theorem edcs_append (l m : List Gr.Ed) : edcs (l ++ m) = edcs l ++ edcs m := by simp [edcs]
theorem edcs_one (l : List Gr.Ed) : ∀ u ∈ edcs l, u.oneCell' = true := fun u hu => by
  obtain ⟨e, -, he⟩ := List.mem_flatMap.1 hu
  simp [edc] at he
  rcases he with rfl | rfl <;> rfl
/-- one is left out: what the cells are then -/
theorem del_cells (l : List Gr.Ed) (cs zs : List Value) (k c : Nat) (hk : k < l.length) (hc : cs.length = c * 2) (hn : l.length ≤ c) (ht : cs.take (l.length * 2) = edcs l) (hz : zs.length = 2) :
    (setL (setL cs (k * 2) (edcs (l.drop (k + 1)))) ((l.length - 1) * 2) zs).take ((l.length - 1) * 2) = edcs (l.take k ++ l.drop (k + 1)) := by
  have hd : (edcs (l.drop (k + 1))).length = (l.length - (k + 1)) * 2 := by rw [edcs_length, List.length_drop]
  have ht2 : (edcs (l.take k)).length = k * 2 := by rw [edcs_length, List.length_take]; rw [Nat.min_eq_left (by omega)]
  apply List.ext_getElem?
  intro i
  rw [List.getElem?_take]
  split
  · rename_i hi
    rw [setL_out _ _ _ _ (by omega), edcs_append]
    by_cases h : i < k * 2
    · rw [setL_out _ _ _ _ (by omega), List.getElem?_append_left (by omega)]
      have e1 : cs[i]? = (edcs l)[i]? := by rw [← ht, List.getElem?_take, if_pos (by omega)]
      rw [e1]
      have e2 : edcs l = edcs (l.take k) ++ edcs (l.drop k) := by rw [← edcs_append, List.take_append_drop]
      rw [e2, List.getElem?_append_left (by omega)]
    · rw [List.getElem?_append_right (by omega), ht2]
      obtain ⟨j, rfl⟩ : ∃ j, i = k * 2 + j := ⟨i - k * 2, by omega⟩
      rw [setL_in _ _ _ _ (by omega) (by omega), show k * 2 + j - k * 2 = j by omega]
  · rename_i hi
    rw [List.getElem?_eq_none]
    rw [edcs_append, List.length_append, ht2, hd]
    omega

theorem run_clear_two {P : Go.Program} (w : World) (t e ty : TypeId) (a b : Value) (ht : P.underlying t = some (.slice e)) (hv : ∀ w, (zeroValue e).run P w = .ok (.agg #[a, b]) w) (h1 : a.oneCell' = true) (h2 : b.oneCell' = true) (g o c : Nat)
    (hc : ∀ j, j < 2 → (w.cell? ⟨g, o + j, none⟩).isSome = true) (hf : ∀ j, j < 2 → w.frozen? ⟨g, o + j, none⟩ = false) :
    (Builtin.clear_ #[t] ty #[.slice (some ⟨g, o, none⟩) 1 c]).run P w = .ok (.tuple #[]) (w.setCells g o [a, b]) := by
  have hzc : (Builtin.zeroCells (Value.agg #[a, b]).cells 1).toList = [a, b] := by
    simp [Builtin.zeroCells, Value.cells, Array.range, Array.toList_map]
  have hst := run_storeCells_cells (P := P) g o [a, b] 0 w (by simpa using hc) (by simpa using hf) (by intro v hv'; simp at hv'; rcases hv' with rfl | rfl <;> assumption)
  simp only [Nat.add_zero] at hst
  simp [Builtin.clear_, run_underlying ht, hv, hzc, hst]

theorem zero_edge : ∀ w, (zeroValue 34).run Tryd.prog w = .ok (.agg #[.int .i64 0, .int .i64 0]) w := fun w => by kernel_rfl

set_option maxHeartbeats 4000000 in
set_option maxRecDepth 100000 in
theorem delete_edge (w : World) (B g cap i : Nat) (l : List Gr.Ed) (hown : w.ownsRow B 34 2 (.slice (some ⟨g, 0, none⟩) l.length cap) l.length (edcs l)) (hi : i < l.length) :
    Calls Tryd.prog 28 #[.slice (some ⟨g, 0, none⟩) l.length cap, .int .i64 (i : Int), .int .i64 ((i : Int) + 1)] w fun e w' => e = .returned (.slice (some ⟨g, 0, none⟩) (l.length - 1 : Nat) cap) ∧ w'.ownsRow B 34 2 (.slice (some ⟨g, 0, none⟩) (l.length - 1) cap) (l.length - 1) (edcs (l.take i ++ l.drop (i + 1))) ∧ w.grownBy w' (some g) := by
  obtain ⟨cs, hB, hcs, ht, hn, hm, hb⟩ := row_blk hown
  obtain ⟨j, hj⟩ : ∃ j, j = i + 1 := ⟨_, rfl⟩
  obtain ⟨d, hd⟩ : ∃ d, d = l.length := ⟨_, rfl⟩
  rw [show ((i : Int) + 1) = (j : Int) by omega]
  obtain ⟨i0, hi0, hz0, hz1, hz2⟩ := info_parts info_edge2
  -- the cells that are moved to the left
  obtain ⟨news, hnews⟩ : ∃ news, news = edcs (l.drop (i + 1)) := ⟨_, rfl⟩
  have hlen : news.length = (d - j) * 2 := by rw [hnews, edcs_length, List.length_drop, hd, hj]
  have hget : ∀ t, t < (d - j) * 2 → cs[j * 2 + t]? = news[t]? := fun t htl => by
    have e1 : cs[j * 2 + t]? = (edcs l)[j * 2 + t]? := by rw [← ht, List.getElem?_take, if_pos (by omega)]
    have e2 : edcs l = edcs (l.take (i + 1)) ++ edcs (l.drop (i + 1)) := by rw [← edcs_append, List.take_append_drop]
    have e3 : (edcs (l.take (i + 1))).length = j * 2 := by rw [edcs_length, List.length_take, hj]; rw [Nat.min_eq_left (by omega)]
    rw [e1, e2, List.getElem?_append_right (by omega), e3, hnews]
    congr 1
    omega
  obtain ⟨A, hA, hsrc⟩ : ∃ A : Addr, (if cap = j then some (⟨g, 0, none⟩ : Addr) else some ⟨g, j * 2, none⟩) = some A ∧ Hid (∀ t u, news[t]? = some u → w.drew.cell? (A.add t) = some u) := by
    by_cases h : cap = j
    · refine ⟨⟨g, 0, none⟩, by simp [h], Lib.hid fun t u hu => ?_⟩
      have h0 : news.length = 0 := by rw [hlen]; omega
      rw [List.length_eq_zero_iff.1 h0] at hu
      simp at hu
    · refine ⟨⟨g, j * 2, none⟩, by simp [h], Lib.hid fun t u hu => ?_⟩
      have htl : t < (d - j) * 2 := by
        have := (List.getElem?_eq_some_iff.1 hu).1
        rwa [hlen] at this
      rw [Addr.add_lit]
      exact (hB.drew.cell _).trans ((hget t htl).trans hu)
  have s1 := Lib.hid hlen
  have s2 : Hid (∀ u ∈ news, u.oneCell' = true) := Lib.hid (by rw [hnews]; exact edcs_one _)
  have s3 : Hid (∀ t, t < news.length → (w.drew.cell? ⟨g, 0 + i * 2 + t, none⟩).isSome = true ∧ w.drew.frozen? ⟨g, 0 + i * 2 + t, none⟩ = false) := Lib.hid fun t htl => by
    rw [hlen] at htl
    refine ⟨?_, hB.drew.frozen _⟩
    rw [hB.drew.cell, List.getElem?_eq_getElem (by omega)]
    rfl
  -- the world behind the append
  obtain ⟨W1, hW1⟩ : ∃ W1, W1 = w.drew.setCells g (0 + i * 2) news := ⟨_, rfl⟩
  have hB1 : Blk W1 g 34 (setL cs (i * 2) news) := by rw [hW1, Nat.zero_add]; exact Blk.setCells news (i * 2) hB.drew
  have hg1 : w.grownBy W1 (some g) := by rw [hW1]; exact grown_trans (grown_drew w _) (grown_setCells g news _ _)
  have hl1 : (setL cs (i * 2) news).length = cap * 2 := by rw [setL_length, hcs]
  have hcl : ∀ ty, (Builtin.clear_ #[22] ty #[.slice (some ⟨g, (i + (d - j)) * 2, none⟩) (d - (i + (d - j))) (cap - (i + (d - j)))]).run Tryd.prog W1 = .ok (.tuple #[]) (W1.setCells g ((i + (d - j)) * 2) [.int .i64 0, .int .i64 0]) := fun ty => by
    have e : d - (i + (d - j)) = 1 := by omega
    rw [e]
    exact run_clear_two W1 _ _ ty _ _ Tryd.underlying22 zero_edge rfl rfl g _ _ (fun t htl => by rw [hB1.cell, List.getElem?_eq_getElem (by omega)]; rfl) (fun t _ => hB1.frozen _)
  have hfin : (W1.setCells g ((i + (d - j)) * 2) [.int .i64 0, .int .i64 0]).ownsRow B 34 2 (.slice (some ⟨g, 0, none⟩) (l.length - 1) cap) (l.length - 1) (edcs (l.take i ++ l.drop (i + 1))) ∧ w.grownBy (W1.setCells g ((i + (d - j)) * 2) [.int .i64 0, .int .i64 0]) (some g) := by
    refine ⟨?_, grown_trans hg1 (grown_setCells g _ _ _)⟩
    have e : (i + (d - j)) * 2 = (l.length - 1) * 2 := by omega
    rw [e]
    have h2 := Blk.setCells [Value.int .i64 0, .int .i64 0] ((l.length - 1) * 2) hB1
    have := row_of_blk (size := 2) (c := cap) (n := l.length - 1) h2 (by rw [setL_length, hl1]) hb (by omega) hm
    rw [hnews, del_cells l cs _ i cap hi hcs hn ht rfl] at this
    exact this
  have hW : Hid (W1 = w.drew.setCells g (0 + i * 2) news) := Lib.hid hW1
  have hres : Hid (i + (d - j) = l.length - 1 ∧ d = l.length) := Lib.hid ⟨by omega, hd⟩
  have HF := Lib.hid hfin
  have hij : i < j := by omega
  have hjd : j ≤ d := by omega
  have hdc : d ≤ cap := by omega
  have hic : i ≤ cap := by omega
  have hjc : j ≤ cap := by omega
  have hm' : cap ≤ 9223372036854775807 := hm
  rw [← hd]
  clear hW1 hB1 hg1 hl1 hfin hB hcs ht hn hown hget hnews hlen hb hj hd hz2 hz0 hi hm
  go_enter Tryd.func28, Tryd.ntmps28
  go_wp2_with fail
  go_region_law (refine step_append_room rfl (.tmp 22) (.tmp 25) 22 rfl 34 i0 2 Tryd.underlying22 hi0 hz1 g 0 i cap (by simp [Act.eval, Act.put]) A (d - j) (cap - j) news (by simp [Act.eval, Act.put]) s1.out hsrc.out s2.out (by omega) s3.out ?_; rw [← hW.out])
  go_wp2
  go_ret
  obtain ⟨e1, e2⟩ := hres.out
  have hf := HF.out
  rw [← e2] at hf e1
  exact ⟨by rw [e1]; rfl, hf⟩
end Go.Proofs.YtcpoglchjkpbpaaDoor


namespace Go.Proofs.YtcpoglchjkpbpaaDoor
set_option linter.unusedVariables false
set_option linter.unusedSimpArgs false
set_option maxRecDepth 100000
open Go

section
variable {P : Program} {ops : Array Oper} {Q : Exit → Act → World → Prop} {S S0 : World → Prop} {E Em : World → World → Prop} {mk fl : Nat → Bool}

/-- it outlives a mark -/
def Stays (Em : World → World → Prop) (F : Fact E) : Prop := ∀ v w w', F.holds v w → Em w w' → F.holds v w'
def SettleS (P : Program) (ops : Array Oper) (S S0 : World → Prop) (E Em : World → World → Prop) (mk fl : Nat → Bool) (Z : (Env → Act) → List (Tmp × Fact E) → Prop) : Nat → List Oper → (Env → Act) → List (Tmp × Fact E) → Prop
  | _, [], A, Fs => Z A Fs
  | k, o :: rest, A, Fs =>
    (∃ v, (∀ ρ w, S w → FactsOK (o.looksAt ops) ρ w (cond (fl k) [] Fs) → Pre mk fl S0 k w → StepTo P ops S (cond (mk k) Em E) o (A ρ) w (fun u _ => u = v)) ∧ SettleS P ops S S0 E Em mk fl Z (k + 1) rest (fun ρ => (A ρ).put o.dst v) (cond (mk k) [] Fs)) ∨
    (∃ d F, o.dst = some d ∧ (fl k = false ∨ Stays Em F) ∧ (∀ ρ w, S w → FactsOK (o.looksAt ops) ρ w (cond (fl k) [] Fs) → Pre mk fl S0 k w → StepTo P ops S (cond (mk k) Em E) o (A ρ) w F.holds) ∧ SettleS P ops S S0 E Em mk fl Z (k + 1) rest (fun ρ => (A ρ).put (some d) (ρ d)) ((d, F) :: cond (mk k) [] Fs))

structure PlanS (P : Program) (ops : Array Oper) (S S0 : World → Prop) (Em : World → World → Prop) (mk fl : Nat → Bool) (a : Act) (l : List (Oper × Kind E)) : Prop where
  dst : ∀ p ∈ l, (∃ F, p.2 = .fresh F) → ∃ d, p.1.dst = some d
  flt : ∀ (j : Nat) p (F : Fact E), l[j]? = some p → p.2 = .fresh F → fl j = false ∨ Stays Em F
  step : ∀ pre p post, l = pre ++ p :: post → ∀ ρ w, S w → FactsOK (p.1.looksAt ops) ρ w (cond (fl pre.length) [] (factsM mk 0 pre [])) → Pre mk fl S0 pre.length w → StepTo P ops S (cond (mk pre.length) Em E) p.1 (actOf a ρ pre) w p.2.rel

theorem planS_snoc {a : Act} {l : List (Oper × Kind E)} (h : PlanS P ops S S0 Em mk fl a l) {p : Oper × Kind E} (h1 : (∃ F, p.2 = .fresh F) → ∃ d, p.1.dst = some d) (h3 : ∀ F, p.2 = .fresh F → fl l.length = false ∨ Stays Em F)
    (h2 : ∀ ρ w, S w → FactsOK (p.1.looksAt ops) ρ w (cond (fl l.length) [] (factsM mk 0 l [])) → Pre mk fl S0 l.length w → StepTo P ops S (cond (mk l.length) Em E) p.1 (actOf a ρ l) w p.2.rel) : PlanS P ops S S0 Em mk fl a (l ++ [p]) := by
  refine ⟨fun q hq hf => ?_, fun j q F hq hf => ?_, fun pre q post he => ?_⟩
  · rcases List.mem_append.1 hq with hq | hq
    · exact h.dst q hq hf
    · rw [List.mem_singleton.1 hq] at hf ⊢
      exact h1 hf
  · rcases Nat.lt_or_ge j l.length with hj | hj
    · rw [List.getElem?_append_left hj] at hq
      exact h.flt j q F hq hf
    · rw [List.getElem?_append_right hj] at hq
      have hj' := (List.getElem?_eq_some_iff.1 hq).1
      simp only [List.length_singleton] at hj'
      have e : j = l.length := by omega
      subst e
      simp only [Nat.sub_self, List.getElem?_cons_zero, Option.some.injEq] at hq
      subst hq
      exact h3 F hf
  · rcases List.eq_nil_or_concat post with rfl | ⟨post', q', rfl⟩
    · have := List.append_inj' he rfl
      obtain ⟨e1, e2⟩ := this
      injection e2 with e2
      subst e1 e2
      exact h2
    · have e : pre ++ q :: (post' ++ [q']) = (pre ++ q :: post') ++ [q'] := by simp
      rw [List.concat_eq_append, e] at he
      exact h.step pre q post' (List.append_inj' he rfl).1

theorem settleS_plan {Z : (Env → Act) → List (Tmp × Fact E) → Prop} {a : Act} : ∀ (l : List Oper) (pre : List (Oper × Kind E)), PlanS P ops S S0 Em mk fl a pre → SettleS P ops S S0 E Em mk fl Z pre.length l (fun ρ => actOf a ρ pre) (factsM mk 0 pre []) →
    ∃ full : List (Oper × Kind E), PlanS P ops S S0 Em mk fl a full ∧ full.map (·.1) = pre.map (·.1) ++ l ∧ Z (fun ρ => actOf a ρ full) (factsM mk 0 full []) := by
  intro l
  induction l with
  | nil => exact fun pre hp h => ⟨pre, hp, by simp, h⟩
  | cons o rest ih =>
    intro pre hp h
    rcases h with ⟨v, h1, h2⟩ | ⟨d, F, hd, h3, h1, h2⟩
    · obtain ⟨full, q1, q2, q3⟩ := ih (pre ++ [(o, .fixed v)]) (planS_snoc (p := (o, .fixed v)) hp (fun ⟨F, h⟩ => by cases h) (fun F h => by cases h) h1) (by
        have e1 : (fun ρ => actOf a ρ (pre ++ [(o, (Kind.fixed v : Kind E))])) = fun ρ => (actOf a ρ pre).put o.dst v := by
          funext ρ; simp [actOf, Kind.val]
        have e2 : factsM mk 0 (pre ++ [(o, (Kind.fixed v : Kind E))]) [] = cond (mk pre.length) [] (factsM mk 0 pre []) := by rw [factsM_snoc, Nat.zero_add]; rfl
        rw [e1, e2, List.length_append]
        exact h2)
      exact ⟨full, q1, by rw [q2]; simp, q3⟩
    · obtain ⟨full, q1, q2, q3⟩ := ih (pre ++ [(o, .fresh F)]) (planS_snoc (p := (o, .fresh F)) hp (fun _ => ⟨d, hd⟩) (fun F' h => by injection h with h; subst h; exact h3) h1) (by
        have e1 : (fun ρ => actOf a ρ (pre ++ [(o, (Kind.fresh F : Kind E))])) = fun ρ => (actOf a ρ pre).put (some d) (ρ d) := by
          funext ρ; simp [actOf, Kind.val, hd]
        have e2 : factsM mk 0 (pre ++ [(o, (Kind.fresh F : Kind E))]) [] = (d, F) :: cond (mk pre.length) [] (factsM mk 0 pre []) := by rw [factsM_snoc, Nat.zero_add]; simp [addFact, hd]
        rw [e1, e2, List.length_append]
        exact h2)
      exact ⟨full, q1, by rw [q2]; simp, q3⟩

theorem any_order_ms {a0 : Act} {full : List (Oper × Kind E)} {n : Nat} (hn : n < ops.size) (hops : full.map (·.1) = ops.toList.take n) (hlin : LinearN ops n) (hsk : Region.sinkB .any ops n = true) (hch : Region.chainB .any ops n = true)
    (hsq : ∀ listed : Array Bool, listed.size = ops.size → (∀ i, i < n → listed.getD i false = true) → (∀ i, n ≤ i → listed.getD i false = false) → Region.seqB .any ops (ops.size - n) n listed = true) (hmk : MarkedN ops mk fl n) (hp : PlanS P ops S S0 Em mk fl a0 full) (hE0 : ∀ w w', S0 w → E w w' → S0 w')
    (hZ : ∀ ρ w, S w → (∀ t F, (t, F) ∈ factsM mk 0 full [] → F.holds (ρ t) w) → wpList P ops Q (ops.toList.drop n) (actOf a0 ρ full) w) :
    ∀ (fuel : Nat) (listed : Array Bool) (a : Act) (w : World) (ρ : Env), HeadInv .any ops n listed →
      (∃ todo : List Nat, todo.length ≤ fuel ∧ ∀ i, i < n → listed.getD i false = false → i ∈ todo) →
      Holds a0 full (fun i => listed.getD i false = true) ρ a → S w → ((∀ m, mk m = true → listed.getD m false = false) → S0 w) → (∀ (i : Nat) (p : Oper × Kind E) (F : Fact E) (d : Tmp), listed.getD i false = true → (∀ m, mk m = true → i < m → listed.getD m false = false) → full[i]? = some p → p.2 = .fresh F → p.1.dst = some d → F.holds (ρ d) w) →
      wpAny P .any ops Q (fuel + (ops.size - n)) listed a w := by
  have hget : ∀ (i : Nat) (p : Oper × Kind E), full[i]? = some p → ops[i]? = some p.1 := fun i p h => by
    have : (full.map (·.1))[i]? = some p.1 := by simp [h]
    rw [hops, List.getElem?_take] at this
    split at this
    · simpa using this
    · cases this
  have hlen : full.length = n := by
    have := congrArg List.length hops
    simp only [List.length_map, List.length_take, Array.length_toList] at this
    omega
  have hget' : ∀ (i : Nat) (o : Oper), i < n → ops[i]? = some o → ∃ p : Oper × Kind E, full[i]? = some p ∧ p.1 = o := fun i o hin h => by
    have hi : i < full.length := by rw [hlen]; exact hin
    have h1 := hget i _ (List.getElem?_eq_getElem hi)
    rw [h] at h1
    injection h1 with h1
    exact ⟨_, List.getElem?_eq_getElem hi, h1.symm⟩
  have hdist : ∀ (i j : Nat) (p q : Oper × Kind E) (d : Tmp), i < j → full[i]? = some p → full[j]? = some q → p.1.dst = some d → q.1.dst ≠ some d := fun i j p q d hij h1 h2 => hlin.dist i j _ _ d hij (by have := (List.getElem?_eq_some_iff.1 h2).1; omega) (hget i p h1) (hget j q h2)
  have hdist2 : ∀ (i j : Nat) (p q : Oper × Kind E) (d : Tmp), i ≠ j → full[i]? = some p → full[j]? = some q → p.1.dst = some d → q.1.dst ≠ some d := fun i j p q d hij h1 h2 hd hd' => by
    rcases Nat.lt_or_gt_of_ne hij with h | h
    · exact hdist i j p q d h h1 h2 hd hd'
    · exact hdist j i q p d h h2 h1 hd' hd
  -- all have come up
  have fin : ∀ (fuel : Nat) (listed : Array Bool) (a : Act) (w : World) (ρ : Env), HeadInv .any ops n listed → (∀ i, i < n → listed.getD i false = true) → Holds a0 full (fun i => listed.getD i false = true) ρ a → S w →
      (∀ (i : Nat) (p : Oper × Kind E) (F : Fact E) (d : Tmp), listed.getD i false = true → (∀ m, mk m = true → i < m → listed.getD m false = false) → full[i]? = some p → p.2 = .fresh F → p.1.dst = some d → F.holds (ρ d) w) → wpAny P .any ops Q (fuel + (ops.size - n)) listed a w := fun fuel listed a w ρ inv hall hH hS hF => by
    have h1 : Holds a0 full (fun i => i < full.length) ρ (actOf a0 ρ full) := by
      have := holds_prefix a0 full ρ hdist full.length (Nat.le_refl _)
      rwa [List.take_length] at this
    have h2 : Holds a0 full (fun i => i < full.length) ρ a :=
      ⟨hH.defers, hH.size, fun t ht => hH.far t fun i p hi hp => ht i p (List.getElem?_eq_some_iff.1 hp).1 hp, fun i p t hi => hH.near i p t (hall i (by omega))⟩
    rw [h2.unique h1]
    have hz := hZ ρ w hS fun t F hm => by
      rcases mem_factsM hm with ⟨h, -⟩ | ⟨i, p, h1, h2, h3, h4⟩
      · cases h
      · exact hF i p F t (hall i (by have := (List.getElem?_eq_some_iff.1 h1).1; omega)) (fun m hm him => absurd (hmk.lt m hm) (fun h => h4 m hm (by omega) (by omega))) h1 h2 h3
    have hdl : (ops.toList.drop n).length = ops.size - n := by simp
    have hs := hsq listed inv.size hall (fun i hi => by
      rcases Nat.lt_or_ge i ops.size with h | h
      · exact getD_both (inv.tail i hi h)
      · simp [Array.getD, inv.size, Nat.not_lt.2 h])
    have := wpAny_seq_more fuel (ops.toList.drop n) n listed (actOf a0 ρ full) w (fun j => by simp [List.getElem?_drop]) (by rw [hdl]; exact hs) hz
    rwa [hdl, Nat.add_comm] at this
  have none_left : ∀ listed : Array Bool, HeadInv .any ops n listed → Region.ready .any ops listed = [] → ∀ m i, i < m → i < n → listed.getD i false = true := by
    intro listed inv hr m
    induction m with
    | zero => intro i h; omega
    | succ m ih =>
      intro i hi hin
      cases hli : listed.getD i false with
      | true => rfl
      | false =>
        have hlt : i < ops.size := by omega
        have ho : ops[i]? = some ops[i] := Array.getElem?_eq_getElem hlt
        have hmem : i ∈ Region.ready .any ops listed := by
          rw [mem_ready]
          refine ⟨?_, _, ho, fun e he hb => ?_⟩
          · simp only [Array.getD, inv.size, hlt, dif_pos] at hli ⊢
            exact hli
          · have := hlin.back i _ hin ho e he hb
            exact ih e.on (by omega) (by omega)
        rw [hr] at hmem
        cases hmem
  have some_left : ∀ listed : Array Bool, (∀ i, i < n → listed.getD i false = true) ∨ ∃ i, i < n ∧ listed.getD i false = false := fun listed => by
    by_cases h : ∃ i, i < n ∧ listed.getD i false = false
    · exact .inr h
    · exact .inl fun i hi => by
        cases hl : listed.getD i false with
        | true => rfl
        | false => exact (h ⟨i, hi, hl⟩).elim
  intro fuel
  induction fuel with
  | zero =>
    intro listed a w ρ inv ⟨todo, htodo, hin⟩ hH hS hS0 hF
    have hall : ∀ i, i < n → listed.getD i false = true := fun i hi => by
      cases hli : listed.getD i false with
      | true => rfl
      | false =>
        have := hin i hi hli
        rw [List.eq_nil_of_length_eq_zero (Nat.le_zero.1 htodo)] at this
        cases this
    exact fin 0 listed a w ρ inv hall hH hS hF
  | succ fuel ih =>
    intro listed a w ρ inv ⟨todo, htodo, hin⟩ hH hS hS0 hF
    rcases some_left listed with hall | ⟨i0, hi0, hl0⟩
    · exact fin (fuel + 1) listed a w ρ inv hall hH hS hF
    have hsz := inv.size
    rw [show fuel + 1 + (ops.size - n) = (fuel + (ops.size - n)) + 1 by omega]
    refine ⟨fun hr => ?_, fun i hi => ?_⟩
    · have := none_left listed inv hr (i0 + 1) i0 (by omega) hi0
      rw [hl0] at this
      cases this
    have hilt : i < n := by
      rcases Nat.lt_or_ge i n with h | h
      · exact h
      · exact absurd hi (tail_waits hsk hch hn inv _ i0 rfl hi0 (getD_in (by omega) hl0) i h)
    obtain ⟨h0, o, ho, hall⟩ := mem_ready.1 hi
    have hlt := (Array.getElem?_eq_some_iff.1 ho).1
    have h0' : listed.getD i false = false := by
      simp only [Array.getD, hsz, hlt, dif_pos] at h0 ⊢
      exact h0
    obtain ⟨p, hpi, rfl⟩ := hget' i o hilt ho
    have hil : i < full.length := by omega
    have hpre : Holds a0 full (fun j => j < i) ρ (actOf a0 ρ (full.take i)) := holds_prefix a0 full ρ hdist i (by omega)
    have hsplit : full = full.take i ++ p :: full.drop (i + 1) := by
      have : full[i] = p := by have := List.getElem?_eq_getElem hil; rw [hpi] at this; injection this with this; exact this.symm
      rw [← this, List.getElem_cons_drop, List.take_append_drop]
    have hstep := hp.step _ p _ hsplit ρ w hS
    have conf : ∀ (j : Nat) (q : Oper × Kind E), full[j]? = some q → ∀ t, q.1.dst = some t → t ∈ p.1.looksAt ops → (listed.getD j false = true ↔ j < i) := by
      intro j q hq t hd hl
      have hoj := hget j q hq
      have hjn : j < n := by have := (List.getElem?_eq_some_iff.1 hq).1; omega
      rcases Nat.lt_trichotomy j i with h | h | h
      · refine ⟨fun _ => h, fun _ => ?_⟩
        rcases hlin.wait j i _ _ h hilt hoj ho with hap | ⟨e, he, hb, hon⟩
        · exact absurd hl ((Oper.apart_spec hap).1 t hd)
        · rw [← hon]; exact hall e he hb
      · subst h
        rw [hpi] at hq
        injection hq with hq
        subst hq
        exact absurd hl (hlin.self j _ t hilt ho hd)
      · refine ⟨fun hj => ?_, fun h' => by omega⟩
        exfalso
        rcases hlin.wait i j _ _ h hjn ho hoj with hap | ⟨e, he, hb, hon⟩
        · exact absurd hl ((Oper.apart_spec hap).2.2 t hd)
        · have := inv.closed j _ hoj hj e he hb
          rw [hon, h0'] at this
          cases this
    have hdown' : ∀ j o, listed.getD j false = true → ops[j]? = some o → ∀ e ∈ o.after, Region.binds .any e = true → listed.getD e.on false = true := fun j o hj ho e he hb => inv.closed j o ho hj e he hb
    have later : ∀ m, mk m = true → i < m → fl i = false → listed.getD m false = false := fun m hm him hfl => by
      cases hlm : listed.getD m false with
      | false => rfl
      | true =>
        have := reach_closed hdown' 6 m i (hmk.before m i hm him hfl) hlm
        rw [h0'] at this
        cases this
    have hfacts : FactsOK (p.1.looksAt ops) ρ w (cond (fl i) [] (factsM mk 0 (full.take i) [])) := factsOK_of _ fun t F hm hl => by
      rcases hfl : fl i with _ | _
      case true => rw [hfl] at hm; cases hm
      rw [hfl] at hm
      rcases mem_factsM hm with ⟨h, -⟩ | ⟨j, q, h1, h2, h3, h4⟩
      · cases h
      · have hji : j < i := by
          have := (List.getElem?_eq_some_iff.1 h1).1
          rw [List.length_take] at this
          omega
        have hq : full[j]? = some q := by
          rw [List.getElem?_take, if_pos hji] at h1
          exact h1
        refine hF j q F t ((conf j q hq t h3 (by simpa using hl)).2 hji) (fun m hm hjm => ?_) hq h2 h3
        rcases Nat.lt_trichotomy i m with h | h | h
        · exact later m hm h hfl
        · rw [← h]; exact h0'
        · exact absurd (h4 m hm (by omega) (by rw [List.length_take]; omega)) id
    have hli' : (full.take i).length = i := by rw [List.length_take]; omega
    have hst := hstep (by rw [hli']; exact hfacts) (by
      rw [hli']
      intro hnm
      rw [Bool.and_eq_true] at hnm
      refine hS0 fun m hm => ?_
      have hfl : fl i = false := by simpa using hnm.2
      rcases Nat.lt_trichotomy i m with h | h | h
      · exact later m hm h hfl
      · rw [← h]; exact h0'
      · have := List.all_eq_true.1 hnm.1 m (List.mem_range.2 h)
        rw [hm] at this
        cases this)
    have hag : ∀ t, t ∈ p.1.looksAt ops → a.tmps[t]? = (actOf a0 ρ (full.take i)).tmps[t]? := fun t ht =>
      hH.agree hpre t fun j q hq hd => conf j q hq t hd ht
    have hexec : execOp a.eval p.1 = execOp (actOf a0 ρ (full.take i)).eval p.1 := execOp_congr p.1 (fun cs b => hlin.sel i _ cs b ho) fun x hx => by
      cases x with
      | tmp t =>
        have := hag t (List.mem_append_left _ (List.mem_filterMap.2 ⟨.tmp t, by simpa using hx, rfl⟩))
        simp only [Act.eval, Array.getD_eq_getD_getElem?]
        rw [this]
      | _ => rfl
    have hwant : Region.wanted p.1 (yielded ops a.tmps) = Region.wanted p.1 (yielded ops (actOf a0 ρ (full.take i)).tmps) := by
      unfold Region.wanted
      cases hg : p.1.guard with
      | none => rfl
      | some gw =>
        obtain ⟨g, want⟩ := gw
        have : yielded ops a.tmps g = yielded ops (actOf a0 ρ (full.take i)).tmps g := by
          unfold yielded
          cases ht : (ops[g]?).bind (·.dst) with
          | none => rfl
          | some t =>
            have := hag t (List.mem_append_right _ (by simp [hg, ht]))
            simp only [Option.bind_some, this]
        simp only [this]
    have size_eq : (actOf a0 ρ (full.take i)).tmps.size = a.tmps.size := hpre.size.trans hH.size.symm
    -- the way on
    have go : ∀ v w', p.2.rel v w' → S w' → ((∀ m, mk m = true → (listed.setIfInBounds i true).getD m false = false) → S0 w') → (∀ (j : Nat) (q : Oper × Kind E) (F : Fact E) (d : Tmp), listed.getD j false = true → (∀ m, mk m = true → j < m → (listed.setIfInBounds i true).getD m false = false) → full[j]? = some q → q.2 = .fresh F → q.1.dst = some d → F.holds (ρ d) w') →
        wpAny P .any ops Q (fuel + (ops.size - n)) (listed.setIfInBounds i true) (a.put p.1.dst v) w' := by
      intro v w' hR hS' hS0' hF'
      have next : ∀ ρ' : Env, p.2.val ρ' p.1 = v → (∀ j q, j ≠ i → full[j]? = some q → q.2.val ρ' q.1 = q.2.val ρ q.1) → (∀ j q F d, j ≠ i → full[j]? = some q → q.2 = .fresh F → q.1.dst = some d → ρ' d = ρ d) → (∀ F d, p.2 = .fresh F → p.1.dst = some d → F.holds (ρ' d) w') →
          wpAny P .any ops Q (fuel + (ops.size - n)) (listed.setIfInBounds i true) (a.put p.1.dst v) w' := by
        intro ρ' hv hothers hd' hself
        have hset : ∀ j, (listed.setIfInBounds i true).getD j false = true ↔ j = i ∨ listed.getD j false = true := fun j => by
          by_cases hji : j = i
          · subst hji
            simp [Array.getD, hsz, hlt]
          · rw [getD_set_ne false (Ne.symm hji)]
            simp [hji]
        refine ih _ _ _ ρ' (inv.set hi hilt) ⟨todo.filter (· != i), ?_, fun j hj hjl => ?_⟩ ?_ hS' hS0' (fun j q F d hj hjm hq hf hd => ?_)
        · have : (todo.filter (· != i)).length < todo.length := by
            rw [List.length_filter_lt_length_iff_exists]
            exact ⟨i, hin i hilt h0', by simp⟩
          omega
        · have hne : j ≠ i := fun e => by
            have := (hset j).2 (.inl e)
            rw [this] at hjl
            cases hjl
          refine List.mem_filter.2 ⟨hin j hj ?_, by simpa using hne⟩
          rwa [getD_set_ne false (Ne.symm hne)] at hjl
        · have := hH.put (ρ' := ρ') hpi hset (fun j q hj hq d hd => hdist2 j i q p d (fun e => by rw [e, h0'] at hj; cases hj) hq hpi hd) (fun j q hj hq => hothers j q (fun e => by rw [e, h0'] at hj; cases hj) hq)
          rwa [hv] at this
        · rcases (hset j).1 hj with rfl | hj
          · rw [hpi] at hq
            injection hq with hq
            subst hq
            exact hself F d hf hd
          · have hne : j ≠ i := fun e => by rw [e, h0'] at hj; cases hj
            rw [hd' j q F d hne hq hf hd]
            exact hF' j q F d hj hjm hq hf hd
      cases hk : p.2 with
      | fixed v0 =>
        have hv : v = v0 := by rw [hk] at hR; exact hR
        exact next ρ (by rw [hk]; exact hv.symm) (fun _ _ _ _ => rfl) (fun _ _ _ _ _ _ _ _ => rfl) (fun F d hf => by rw [hk] at hf; cases hf)
      | fresh F =>
        obtain ⟨d, hd⟩ := hp.dst p (by rw [hsplit]; simp) ⟨F, hk⟩
        have hR' : F.holds v w' := by rw [hk] at hR; exact hR
        have hne : ∀ j q d', j ≠ i → full[j]? = some q → q.1.dst = some d' → d' ≠ d := fun j q d' hji hq hd' e => hdist2 j i q p d' hji hq hpi hd' (by rw [hd, e])
        refine next (fun t => if t = d then v else ρ t) (by rw [hk]; simp [Kind.val, hd]) (fun j q hji hq => ?_) (fun j q F' d' hji hq _ hd' => if_neg (hne j q d' hji hq hd')) (fun F' d' hf hd' => ?_)
        · cases hkq : q.2 with
          | fixed v0 => rfl
          | fresh F' =>
            obtain ⟨d', hd'⟩ := hp.dst q (List.mem_of_getElem? hq) ⟨F', hkq⟩
            simp only [Kind.val, hd']
            exact if_neg (hne j q d' hji hq hd')
        · rw [hk] at hf
          injection hf with hf
          rw [hd] at hd'
          injection hd' with hd'
          subst hf hd'
          simpa using hR'
    have hset' : ∀ j, (listed.setIfInBounds i true).getD j false = false → listed.getD j false = false := fun j hj => by
      by_cases hji : j = i
      · rw [hji]; exact h0'
      · rwa [getD_set_ne false (Ne.symm hji)] at hj
    have hlen_i : (full.take i).length = i := by rw [List.length_take]; omega
    have hseti : (listed.setIfInBounds i true).getD i false = true := by simp [Array.getD, hsz, hlt]
    rw [hlen_i] at hst
    unfold wpOp
    simp only [ho]
    unfold StepTo at hst
    rw [← hwant] at hst
    split
    · rename_i hw
      rw [if_pos hw] at hst
      refine .inl (wp_carry (R := fun v w' => p.2.rel v w' ∧ S w' ∧ (cond (mk i) Em E) w w') hexec size_eq (hst _ fun v w' h1 h2 h3 => ⟨v, rfl, h1, h2, h3⟩) fun v w' ⟨h1, h2, h3⟩ => go v w' h1 h2 (fun hno => ?_) fun j q F d hj hjm hq hf hd => ?_)
      · rcases hmi : mk i with _ | _
        · rw [hmi] at h3
          exact hE0 _ _ (hS0 fun m hm => hset' m (hno m hm)) h3
        · have := hno i hmi
          rw [hseti] at this
          cases this
      rcases hmi : mk i with _ | _
      · rw [hmi] at h3
        exact F.keep _ _ _ (hF j q F d hj (fun m hm h => hset' m (hjm m hm h)) hq hf hd) h3
      · rcases Nat.lt_trichotomy j i with h | h | h
        · exfalso
          have := hjm i hmi h
          rw [hseti] at this
          cases this
        · exfalso; rw [h, h0'] at hj; cases hj
        · rcases hp.flt j q F hq hf with hfl | hst'
          · exfalso
            have := reach_closed hdown' 6 j i (hmk.after i j hmi h (by have := (List.getElem?_eq_some_iff.1 hq).1; omega) hfl) hj
            rw [h0'] at this
            cases this
          · rw [hmi] at h3
            exact hst' _ _ _ (hF j q F d hj (fun m hm h => hset' m (hjm m hm h)) hq hf hd) h3
    · rename_i hw
      rw [if_neg hw] at hst
      exact go undef w hst hS (fun hno => hS0 fun m hm => hset' m (hno m hm)) fun j q F d hj hjm hq hf hd => hF j q F d hj (fun m hm h => hset' m (hjm m hm h)) hq hf hd

/-- the same, that nothing looks into -/
structure WalkS (P : Program) (ops : Array Oper) (S S0 : World → Prop) (E Em : World → World → Prop) (mk fl : Nat → Bool) (Z : (Env → Act) → List (Tmp × Fact E) → Prop) (k : Nat) (l : List Oper) (A : Env → Act) (Fs : List (Tmp × Fact E)) : Prop where
  out : SettleS P ops S S0 E Em mk fl Z k l A Fs

/-- THE RULE, with marks and a tail of n operations ahead of it -/
theorem wp_walk_ms {id : Nat} {a : Act} {w : World} {l : List Oper} (n : Nat) (mk fl : Nat → Bool) (ms : List Nat) (hms : ∀ m, mk m = true → m ∈ ms) (hm : P.follows .mixedOrders = true) (hB : tailB l.toArray n = true) (hmk : markNB l.toArray n mk fl ms = true) (E Em : World → World → Prop) (S S0 : World → Prop) (hS : S w.drew) (hS0 : S0 w.drew) (hE0 : ∀ w w', S0 w → E w w' → S0 w')
    (h : WalkS P l.toArray S S0 E Em mk fl (fun A Fs => ∀ ρ w', S w' → (∀ t F, (t, F) ∈ Fs → F.holds (ρ t) w') → wpList P l.toArray Q (l.drop n) (A ρ) w') 0 (l.take n) (fun _ => a) []) : (Code.region id l.toArray true).wp P Q a w := by
  simp only [tailB, Bool.and_eq_true, decide_eq_true_eq] at hB
  obtain ⟨⟨⟨⟨hn, hlin⟩, hs⟩, hc⟩, hq⟩ := hB
  obtain ⟨full, hp, he, hZ⟩ := settleS_plan (l.take n) [] ⟨(fun _ h => by cases h), (fun j p F h => by simp at h), (fun pre p post he => by simp at he)⟩ h.out
  have inv0 : HeadInv .any l.toArray n (Array.replicate l.toArray.size false) :=
    ⟨by simp, fun j oj _ hl => (by rw [getD_replicate_false] at hl; cases hl), fun t _ ht => getD_in (by simpa using ht) (getD_replicate_false _ _)⟩
  have := any_order_ms (P := P) (Q := Q) hn (by simpa using he) (linearN_of hlin) hs hc (fun listed hsz h1 h2 => by
    have hn' := hn
    rw [show listed = (Array.replicate n true) ++ (Array.replicate (l.toArray.size - n) false) from getD_ext (by simp only [Array.size_append, Array.size_replicate]; omega) fun i => by
      rw [Array.getD_eq_getD_getElem? (xs := _ ++ _), Array.getElem?_append]
      rcases Nat.lt_or_ge i n with h | h
      · rw [h1 i h]
        simp [h]
      · rw [h2 i h]
        simp only [Array.size_replicate, Nat.not_lt.2 h, if_false, Array.getElem?_replicate]
        split <;> rfl]
    exact hq) (markedN_of hms hmk) hp hE0 hZ n _ a w.drew (fun _ => undef) inv0 ⟨List.range n, by simp, fun i hi _ => List.mem_range.2 hi⟩ ⟨rfl, rfl, fun _ _ => rfl, fun i p t hi => ?_⟩ hS (fun _ => hS0) fun i p F d hi => ?_
  · refine wp_region_any hm ?_
    rwa [show n + (l.toArray.size - n) = l.toArray.size by omega] at this
  · exfalso; rw [getD_replicate_false] at hi; cases hi
  · exfalso; rw [getD_replicate_false] at hi; cases hi
variable {Z : (Env → Act) → List (Tmp × Fact E) → Prop} {o : Oper} {rest : List Oper} {A : Env → Act} {Fs : List (Tmp × Fact E)} {k : Nat}
theorem ssettle_nil (h : Z A Fs) : WalkS P ops S S0 E Em mk fl Z k [] A Fs := ⟨h⟩
theorem ssettle_skip (hmk : mk k = false) (hw : ∀ ρ, Region.wanted o (yielded ops (A ρ).tmps) = false) (h : WalkS P ops S S0 E Em mk fl Z (k + 1) rest (fun ρ => (A ρ).put o.dst undef) Fs) : WalkS P ops S S0 E Em mk fl Z k (o :: rest) A Fs :=
  ⟨.inl ⟨undef, fun ρ w _ _ _ => by unfold StepTo; rw [if_neg (by rw [hw]; simp)], by rw [hmk]; exact h.out⟩⟩
theorem ssettle_run {v : Value} (hmk : mk k = false) (hE : ∀ w, S w → E w w) (hw : ∀ ρ, Region.wanted o (yielded ops (A ρ).tmps) = true)
    (hr : ∀ ρ w, S w → FactsOK (o.looksAt ops) ρ w (cond (fl k) [] Fs) → Pre mk fl S0 k w → (execOp (A ρ).eval o).run P w = .ok (.value v) w) (h : WalkS P ops S S0 E Em mk fl Z (k + 1) rest (fun ρ => (A ρ).put o.dst v) Fs) : WalkS P ops S S0 E Em mk fl Z k (o :: rest) A Fs :=
  ⟨.inl ⟨v, fun ρ w hS hF hP => by
    unfold StepTo
    rw [if_pos (hw ρ), hmk]
    intro K hK
    unfold Oper.wp
    rw [hr ρ w hS hF hP]
    exact hK v w rfl hS (hE w hS), by rw [hmk]; exact h.out⟩⟩
theorem ssettle_step {v : Value} (hmk : mk k = false) (hw : ∀ ρ, Region.wanted o (yielded ops (A ρ).tmps) = true)
    (hc : ∀ ρ w, S w → FactsOK (o.looksAt ops) ρ w (cond (fl k) [] Fs) → Pre mk fl S0 k w → ∀ K : Act → World → Prop, (∀ w', S w' → E w w' → K ((A ρ).put o.dst v) w') → o.wp P (A ρ) w K (fun _ _ _ => False)) (h : WalkS P ops S S0 E Em mk fl Z (k + 1) rest (fun ρ => (A ρ).put o.dst v) Fs) : WalkS P ops S S0 E Em mk fl Z k (o :: rest) A Fs :=
  ⟨.inl ⟨v, fun ρ w hS hF hP => by
    unfold StepTo
    rw [if_pos (hw ρ), hmk]
    exact fun K hK => hc ρ w hS hF hP K fun w' h1 h2 => hK v w' rfl h1 h2, by rw [hmk]; exact h.out⟩⟩
theorem ssettle_known {d : Tmp} (F : Fact E) (hmk : mk k = false) (hfl : fl k = false) (hd : o.dst = some d) (hw : ∀ ρ, Region.wanted o (yielded ops (A ρ).tmps) = true)
    (hc : ∀ ρ w, S w → FactsOK (o.looksAt ops) ρ w (cond (fl k) [] Fs) → Pre mk fl S0 k w → ∀ K : Act → World → Prop, (∀ v w', F.holds v w' → S w' → E w w' → K ((A ρ).put o.dst v) w') → o.wp P (A ρ) w K (fun _ _ _ => False)) (h : WalkS P ops S S0 E Em mk fl Z (k + 1) rest (fun ρ => (A ρ).put (some d) (ρ d)) ((d, F) :: Fs)) : WalkS P ops S S0 E Em mk fl Z k (o :: rest) A Fs :=
  ⟨.inr ⟨d, F, hd, .inl hfl, fun ρ w hS hF hP => by
    unfold StepTo
    rw [if_pos (hw ρ), hmk]
    exact fun K hK => hc ρ w hS hF hP K hK, by rw [hmk]; exact h.out⟩⟩
/-- one that comes up at any time, and what is known of it outlives a mark -/
theorem ssettle_float {d : Tmp} (F : Fact E) (hst : Stays Em F) (hmk : mk k = false) (hd : o.dst = some d) (hw : ∀ ρ, Region.wanted o (yielded ops (A ρ).tmps) = true)
    (hc : ∀ ρ w, S w → FactsOK (o.looksAt ops) ρ w (cond (fl k) [] Fs) → Pre mk fl S0 k w → ∀ K : Act → World → Prop, (∀ v w', F.holds v w' → S w' → E w w' → K ((A ρ).put o.dst v) w') → o.wp P (A ρ) w K (fun _ _ _ => False)) (h : WalkS P ops S S0 E Em mk fl Z (k + 1) rest (fun ρ => (A ρ).put (some d) (ρ d)) ((d, F) :: Fs)) : WalkS P ops S S0 E Em mk fl Z k (o :: rest) A Fs :=
  ⟨.inr ⟨d, F, hd, .inr hst, fun ρ w hS hF hP => by
    unfold StepTo
    rw [if_pos (hw ρ), hmk]
    exact fun K hK => hc ρ w hS hF hP K hK, by rw [hmk]; exact h.out⟩⟩
/-- a mark: what was known is forgotten -/
theorem ssettle_mark {d : Tmp} (F : Fact E) (hmk : mk k = true) (hfl : fl k = false) (hd : o.dst = some d) (hw : ∀ ρ, Region.wanted o (yielded ops (A ρ).tmps) = true)
    (hc : ∀ ρ w, S w → FactsOK (o.looksAt ops) ρ w (cond (fl k) [] Fs) → Pre mk fl S0 k w → ∀ K : Act → World → Prop, (∀ v w', F.holds v w' → S w' → Em w w' → K ((A ρ).put o.dst v) w') → o.wp P (A ρ) w K (fun _ _ _ => False)) (h : WalkS P ops S S0 E Em mk fl Z (k + 1) rest (fun ρ => (A ρ).put (some d) (ρ d)) [(d, F)]) : WalkS P ops S S0 E Em mk fl Z k (o :: rest) A Fs :=
  ⟨.inr ⟨d, F, hd, .inl hfl, fun ρ w hS hF hP => by
    unfold StepTo
    rw [if_pos (hw ρ), hmk]
    exact fun K hK => hc ρ w hS hF hP K fun v w' h1 h2 h3 => hK v w' h1 h2 h3, by rw [hmk]; exact h.out⟩⟩
end
end Go.Proofs.YtcpoglchjkpbpaaDoor


namespace Go.Proofs.YtcpoglchjkpbpaaDoor
set_option linter.unusedVariables false
set_option linter.unusedSimpArgs false
set_option maxRecDepth 100000
open Go.RowKit

def Bs.has (x : Int) (xs : List Int) : Bool := xs.any (fun y => x == y)
theorem index_i64 (v : Value) (xs : List Int) (s : Int) (w : World) (h : SlV w 1 v xs.length (ints .i64 xs)) :
    Calls Tryd.prog 57 #[v, .int .i64 s] w fun e w' => (∃ z : Int, e = .returned (.int .i64 z) ∧ decide (0 ≤ z) = Bs.has s xs) ∧ ∃ m, w' = w.drewN m := by
  obtain ⟨A, c, rfl, hle, hm, hlen, hc⟩ := h
  clear hlen
  unfold maxLen at hm
  go_enter Tryd.func57, Tryd.ntmps57
  go_wp2
  go_loopw [8] (fun i wr => ∃ k : Nat, k ≤ xs.length ∧ i = .int .i64 k ∧ (∃ a, wr = w.drewN a) ∧ (xs.take k).any (fun x => s == x) = false) (fun i _ => xs.length - (intOf i).toNat)
  case atStart => exact ⟨0, Nat.zero_le _, rfl, ⟨0, rfl⟩, rfl⟩
  case round =>
    obtain ⟨k, hk, rfl, ⟨a, rfl⟩, ht⟩ := hrel
    have HT := Lib.hid ht
    clear ht
    by_cases hlt : k < xs.length
    · obtain ⟨b, o, x, rfl, hb, hx, hcc⟩ := hc.one hlt
      have HX := Lib.hid hx.out
      clear hc hx
      rcases hq : (s == x) with _ | _
      · go_wp2
        go_roundw
        case rel => exact ⟨k + 1, by omega, by go_num, ⟨_, rfl⟩, by
          obtain ⟨h', hx'⟩ := List.getElem?_eq_some_iff.1 HX.out
          rw [List.take_succ_eq_append_getElem h', List.any_append, HT.out, hx']
          simp [hq]⟩
        case measure => simp [intOf]; omega
      · go_wp2
        go_ret
        exact ⟨⟨_, rfl, by
          have : Bs.has s xs = true := List.any_eq_true.2 ⟨x, List.mem_of_getElem? HX.out, hq⟩
          rw [this]
          simp⟩, ⟨_, rfl⟩⟩
    · have HK := Lib.hid (show k = xs.length by omega)
      clear hc
      go_wp2
      go_ret
      exact ⟨⟨_, rfl, by
        have := HT.out
        rw [HK.out, List.take_length] at this
        show _ = Bs.has s xs
        unfold Bs.has
        rw [this]
        rfl⟩, ⟨_, rfl⟩⟩

theorem contains_i64 (v : Value) (xs : List Int) (s : Int) (w : World) (h : SlV w 1 v xs.length (ints .i64 xs)) :
    Calls Tryd.prog 30 #[v, .int .i64 s] w fun e w' => e = .returned (.bool (Bs.has s xs)) ∧ ∃ m, w' = w.drewN m := by
  have hi := index_i64 v xs s w h
  obtain ⟨A, c, rfl, hle, hm, hlen, hc⟩ := h
  clear hlen hc hm hle
  go_enter Tryd.func30, Tryd.ntmps30
  go_wp2_with fail
  refine hi.mono ?_
  rintro e w1 ⟨⟨z, rfl, hz⟩, m, rfl⟩
  have HZ := Lib.hid hz
  clear hz hi
  go_wp2
  go_ret
  exact ⟨ret_bool HZ.out, m, rfl⟩

end Go.Proofs.YtcpoglchjkpbpaaDoor


namespace Go.Proofs.YtcpoglchjkpbpaaDoor
set_option linter.unusedVariables false
set_option linter.unusedSimpArgs false
set_option maxRecDepth 100000
open Go.RowKit

def FNew (w1 : World) (t : TypeId) (cs : List Value) : Fact (fun w w' => Below w.heap.size w w') := ⟨fun v w => ∃ g, v = .pointer (some ⟨g, 0, none⟩) ∧ w1.heap.size ≤ g ∧ Blk w g t cs, fun v w w' ⟨g, h1, h2, h3⟩ k => ⟨g, h1, h2, h3.below k⟩⟩

def FGO (B N m : Nat) (l : List Gr.Ed) : Fact (fun w w' => Below w.heap.size w w') := ⟨fun v w => ∃ u, v = .agg #[.int .i64 (N : Int), u] ∧ w.ownsRow B 34 2 u m (edcs l), fun _ _ _ ⟨u, h1, h2⟩ k => ⟨u, h1, own_keeps h2 (Keeps.of_below k (fun _ => False)) (fun _ _ => id)⟩⟩
theorem has_not {x : Nat} {l : List Nat} (h : x ∉ l) : Bs.has (x : Int) (l.map fun (y : Nat) => (y : Int)) = false := by
  unfold Bs.has
  rw [List.any_eq_false]
  intro y hy
  obtain ⟨z, hz, rfl⟩ := List.mem_map.1 hy
  simp only [beq_iff_eq]
  intro e
  have : x = z := by omega
  exact h (this ▸ hz)

set_option maxHeartbeats 8000000 in
theorem least_yes (w : World) (N : Nat) (es : List Gr.Ed) (A : Option Addr) (c : Nat) (k : Int) (hN : N ≤ 200) (hlt : ∀ e ∈ es, e.1 < N ∧ e.2 < N) (hf : (Gr.take N es).length = N) (hA : SlV w 2 (.slice A es.length c) es.length (edcs es)) (hle : es.length ≤ 1099511627776) (hT : Tab w) :
    Calls Tryd.prog 8 #[.agg #[.int .i64 (N : Int), .slice A es.length c], .int .i64 k] w fun e w' => e = .returned (.bool true) ∧ Below w.heap.size w w' := by
  obtain ⟨KE, hK⟩ : ∃ K, K = Gr.edW (Gr.coreW (Gr.behW N es)) := ⟨_, rfl⟩
  have kE : ∀ w', SlV w' 2 (.slice A es.length c) es.length (edcs es) → Tab w' → Calls Tryd.prog 20 #[.agg #[.int .i64 (N : Int), .slice A es.length c]] w' fun e w'' => ∃ A2 c2, e = .returned (.tuple #[.agg #[.int .i64 (N : Int), .slice A2 KE.length c2], .int .i64 0]) ∧ SlV w'' 2 (.slice A2 KE.length c2) KE.length (edcs KE) ∧ Below w'.heap.size w' w'' := fun w' h ht => by
    have := core_nat hN hlt hf w' A c h hle ht
    rw [← hK] at this
    exact this
  have hlaw : ∀ j e, KE[j]? = some e → (Gr.take N (KE.take j ++ KE.drop (j + 1))).length = N ∧ (∀ x ∈ KE.take j ++ KE.drop (j + 1), x.1 < N ∧ x.2 < N) ∧ e.2 ∉ Bs.ls 0 ((Gr.behW N (KE.take j ++ KE.drop (j + 1))).getD e.1 []) ∧ e.1 < N ∧ e ∈ es := fun j e h => by
    rw [hK] at h ⊢
    exact Gr.least_law hf hlt h
  have hba : Below w.heap.size w (w.alloc (.cells #[.int .i64 (N : Int), .slice A es.length c] 24)) := below_alloc (Below.refl _ _) _
  have x0 := Blk.new w 24 [.int .i64 (N : Int), .slice A es.length c]
  have HKL : Hid (KE.length ≤ 40000) := Lib.hid (by rw [hK]; exact edW_len hN (Gr.coreW_gs (Gr.beh_gs hf hlt)) (by rw [Gr.coreW_length, Gr.behW_length]))
  have HT := Lib.hid hT
  have HL := Lib.hid hlaw
  clear hT hlaw hK hlt hf
  go_enter Tryd.func8, Tryd.ntmps8
  go_upto_region 1 with (fail)
  generalize (w.alloc (.cells #[.int .i64 (N : Int), .slice A es.length c] 24)) = W0 at x0 hba ⊢
  go_wp2_with fail
  refine (alive2_any W0 (HT.out.later HT.out.lt hba)).mono ?_
  rintro e w1 ⟨rfl, hb1⟩
  have x1 := x0.below hb1
  have c0 : w1.cell? ⟨w.heap.size, 0, none⟩ = some (.int .i64 (N : Int)) := (x1.cell 0).trans rfl
  have c1 : w1.cell? ⟨w.heap.size, 1, none⟩ = some (.slice A es.length c) := (x1.cell 1).trans rfl
  have hb01 := below_next hb1 hba
  clear x0 hba hb1
  go_wp2_with fail
  refine (kE w1 (hA.below hb01) (HT.out.later HT.out.lt hb01)).mono ?_
  rintro e v1 ⟨A1, C1, rfl, s1, hbv⟩
  have p1 := Blk.new v1 24 [.int .i64 (N : Int), .slice A1 KE.length C1]
  have hba := below_alloc (below_next hbv hb01) (.cells #[.int .i64 (N : Int), .slice A1 KE.length C1] 24)
  have x2 := (x1.below hbv).alloc (.cells #[.int .i64 (N : Int), .slice A1 KE.length C1] 24)
  have s1 := s1.alloc (.cells #[.int .i64 (N : Int), .slice A1 KE.length C1] 24)
  clear x1 c0 c1 hb01 hbv kE
  go_upto_region 4 with (fail)
  obtain ⟨q1, hq1⟩ : ∃ q, q = v1.heap.size := ⟨_, rfl⟩
  simp only [← hq1] at p1 ⊢
  clear hq1
  generalize v1.alloc (.cells #[.int .i64 (N : Int), .slice A1 KE.length C1] 24) = w2 at p1 hba x2 s1 ⊢
  have c0 : w2.cell? ⟨q1, 0, none⟩ = some (.int .i64 (N : Int)) := (p1.cell 0).trans rfl
  have c1 : w2.cell? ⟨q1, 1, none⟩ = some (.slice A1 KE.length C1) := (p1.cell 1).trans rfl
  rcases h1 : decide (k < 0) with _ | _
  · rcases h2 : decide ((KE.length : Int) ≤ k) with _ | _
    · obtain ⟨j, rfl⟩ := Int.eq_ofNat_of_zero_le (show 0 ≤ k by simpa using h1)
      have hj : j < KE.length := by simpa using h2
      obtain ⟨⟨a, b⟩, he⟩ : ∃ e, KE[j]? = some e := ⟨_, List.getElem?_eq_getElem hj⟩
      obtain ⟨l1, l2, l3, l4, l5⟩ := HL.out j _ he
      obtain ⟨g1, g2⟩ := edcs_get _ _ _ he
      have s1' := s1
      obtain ⟨A', c', hee, -, -, -, hcc⟩ := s1
      injection hee with e1 e2 e3
      subst e1 e3
      obtain ⟨g, o, rfl, hgl, hcell⟩ := hcc.at_ (fun e => by rw [e] at g1; simp at g1)
      have d0 : w2.cell? ⟨g, o + j * 2, none⟩ = some (.int .i64 (a : Int)) := hcell _ _ g1
      have d1 : w2.cell? ⟨g, o + j * 2 + 1, none⟩ = some (.int .i64 (b : Int)) := by rw [Nat.add_assoc]; exact hcell _ _ g2
      have HLL := Lib.hid (And.intro l1 (And.intro l2 (And.intro l3 l5)))
      clear g1 g2 hcc hcell e2 he l1 l2 l3 l5
      have pE := Blk.new w2 34 [.int .i64 (a : Int), .int .i64 (b : Int)]
      have hbE : Below w2.heap.size w2 (w2.alloc (.cells #[.int .i64 (a : Int), .int .i64 (b : Int)] 34)) := below_alloc (Below.refl _ _) _
      go_upto_region 7 with (fail)
      obtain ⟨q2, hq2⟩ : ∃ q, q = w2.heap.size := ⟨_, rfl⟩
      simp only [← hq2] at pE ⊢
      have k3 : decide (KE.length ≤ j) = false := by simp; omega
      rw [k3]
      generalize w2.alloc (.cells #[.int .i64 (a : Int), .int .i64 (b : Int)] 34) = w3 at pE hbE ⊢
      have p2 := p1.below hbE
      have x3 := x2.below hbE
      have hb03 := below_next hbE hba
      have s3 := s1'.below hbE
      clear hq2 k3 h1 h2 d0 d1 c0 c1 p1 x2 hba s1' hbE
      have c0 : w3.cell? ⟨q1, 0, none⟩ = some (.int .i64 (N : Int)) := (p2.cell 0).trans rfl
      have c1 : w3.cell? ⟨q1, 1, none⟩ = some (.slice (some ⟨g, o, none⟩) KE.length C1) := (p2.cell 1).trans rfl
      have keepS : ∀ w', Below w3.heap.size w3 w' → Below w3.heap.size w3 w' ∧ w'.cell? ⟨q1, 0, none⟩ = some (.int .i64 (N : Int)) ∧ w'.cell? ⟨q1, 1, none⟩ = some (.slice (some ⟨g, o, none⟩) KE.length C1) := fun w' hb => ⟨hb, ((p2.below hb).cell 0).trans rfl, ((p2.below hb).cell 1).trans rfl⟩
      have hS0 := keepS _ (below_drew (Below.refl _ _))
      have hKl : KE.length * 16 ≤ 140737488355328 := by have := HKL.out; omega
      have hcl := fun w' (hb : Below w3.heap.size w3 w') => clone_edge _ KE.length (edcs KE) w' (s3.below hb) (edcs_one _) hKl
      obtain ⟨LS, hLS⟩ : ∃ l, l = KE.take j ++ KE.drop (j + 1) := ⟨_, rfl⟩
      have HLS : Hid (LS = KE.take j ++ KE.drop (j + 1) ∧ LS.length = KE.length - 1) := Lib.hid ⟨hLS, by rw [hLS]; simp; omega⟩
      have hde := fun w B g cap h => delete_edge w B g cap j KE h hj
      rw [← hLS] at hde
      clear hLS
      have hwr : Hid (IntKind.i64.wrap ((j : Int) + 1) = (j : Int) + 1) := Lib.hid (by have := HKL.out; unfold IntKind.wrap; simp [IntKind.bits, IntKind.signed]; omega)
      have hjb : j ≤ 40000 := by have := HKL.out; omega
      refine wp_walk_ms 11 (fun i => ([8] : List Nat).contains i) (fun i => ([0,1,10] : List Nat).contains i) [8] (by intro m h; simpa using h) (by kernel_rfl) (by kernel_rfl) (by kernel_rfl) (fun w w' => Below w.heap.size w w') (fun w w' => ∀ q cs, Blk w q 24 cs → Blk w' q 24 cs) (fun w' => Below w3.heap.size w3 w' ∧ w'.cell? ⟨q1, 0, none⟩ = some (.int .i64 (N : Int)) ∧ w'.cell? ⟨q1, 1, none⟩ = some (.slice (some ⟨g, o, none⟩) KE.length C1)) (fun _ => True) hS0 trivial (fun _ _ _ _ => trivial) ?_
      simp only [List.length_cons, List.length_nil, Nat.reduceAdd, Nat.reduceSub, List.take_succ_cons, List.take_zero, List.drop_succ_cons, List.drop_zero]
      repeat (first | (refine ssettle_skip (by rfl) (fun _ => by rfl) ?_; (simp only [Act.put, List.setIfInBounds_toArray, List.set_cons_zero, List.set_cons_succ])) | (refine' ssettle_run (by rfl) (fun _ _ => Below.refl _ _) (fun _ => by rfl) ?_ ?_; rotate_left; (focus (intro ρ w hS hF hP; (try dsimp only at hS); go_split_ands; go_simp; try with_reducible rfl)); (simp only [Act.put, List.setIfInBounds_toArray, List.set_cons_zero, List.set_cons_succ])))
      (refine ssettle_known (FRow w3.heap.size 34 2 KE.length (edcs KE)) (by rfl) (by rfl) (by rfl) (fun _ => by rfl)  ?_ ?_; (focus (intro ρ w hS hF hP K hK; (simp only [Act.put, List.setIfInBounds_toArray, List.set_cons_zero, List.set_cons_succ] at hK); go_simp; (refine (hcl _ hS.1).mono ?_; rintro e w' ⟨u, rfl, h1, hb'⟩; exact hK _ _ (own_base h1 hS.1.size) (keepS _ (below_next hb' hS.1)) hb'))); (simp only [Act.put, List.setIfInBounds_toArray, List.set_cons_zero, List.set_cons_succ]))
      repeat (first | (refine ssettle_skip (by rfl) (fun _ => by rfl) ?_; (simp only [Act.put, List.setIfInBounds_toArray, List.set_cons_zero, List.set_cons_succ])) | (refine' ssettle_run (by rfl) (fun _ _ => Below.refl _ _) (fun _ => by rfl) ?_ ?_; rotate_left; (focus (intro ρ w hS hF hP; (try dsimp only at hS); go_split_ands; go_simp; try with_reducible rfl)); (simp only [Act.put, List.setIfInBounds_toArray, List.set_cons_zero, List.set_cons_succ])))
      (refine ssettle_mark (FRow w3.heap.size 34 2 (KE.length - 1) (edcs LS)) (by rfl) (by rfl) (by rfl) (fun _ => by rfl) ?_ ?_; (focus (intro ρ w hS hF hP K hK; (simp only [Act.put, List.setIfInBounds_toArray, List.set_cons_zero, List.set_cons_succ] at hK); go_simp; (rw [hwr.out] at hK ⊢; have h40 : w.ownsRow w3.heap.size 34 2 (ρ 40) KE.length (edcs KE) := hF.1 (by rfl); generalize ρ 40 = v40 at h40 hK ⊢; obtain ⟨g', cap', rfl, -, -, hge, -⟩ := own_addr h40 (by omega); refine (hde w _ g' cap' h40).mono ?_; rintro e w' ⟨rfl, ho, hg⟩; exact hK _ _ ho (keepS _ (hS.1.trans (below_of_grown hg hS.1.size hge))) (fun q cs hq => hq.grown hg (fun e => own_blk_ne h40 hq (by decide) e.symm))))); (simp only [Act.put, List.setIfInBounds_toArray, List.set_cons_zero, List.set_cons_succ]))
      (refine ssettle_known (FGO w3.heap.size N (KE.length - 1) LS) (by rfl) (by rfl) (by rfl) (fun _ => by rfl)  ?_ ?_; (focus (intro ρ w hS hF hP K hK; (simp only [Act.put, List.setIfInBounds_toArray, List.set_cons_zero, List.set_cons_succ] at hK); go_simp; (have h44 : w.ownsRow w3.heap.size 34 2 (ρ 44) (KE.length - 1) (edcs LS) := hF.1 (by rfl); generalize ρ 44 = v44 at h44 hK ⊢; obtain ⟨A', c', rfl, -, -⟩ := own_slice h44; go_simp; exact hK _ _ ⟨_, rfl, h44⟩ hS (Below.refl _ _)))); (simp only [Act.put, List.setIfInBounds_toArray, List.set_cons_zero, List.set_cons_succ]))
      (refine ssettle_float (FNew w3 24 [.int .i64 0, .slice none 0 0]) (fun v w w' ⟨g, h1, h2, h3⟩ k ↦ ⟨g, h1, h2, k _ _ h3⟩) (by rfl) (by rfl) (fun _ => by rfl) ?_ ?_; (focus (intro ρ w hS hF hP K hK; (simp only [Act.put, List.setIfInBounds_toArray, List.set_cons_zero, List.set_cons_succ] at hK); go_simp; exact hK _ _ ⟨_, rfl, hS.1.size, Blk.new _ _ _⟩ (keepS _ (below_alloc hS.1 _)) (below_alloc (Below.refl _ _) _))); (simp only [Act.put, List.setIfInBounds_toArray, List.set_cons_zero, List.set_cons_succ]))
      refine ssettle_nil ?_
      intro ρ w5 hS hF
      obtain ⟨q3, hq3, hge3, B3⟩ := hF 8 (FNew w3 24 [.int .i64 0, .slice none 0 0]) (by repeat (first | exact List.mem_cons_self | apply List.mem_cons_of_mem))
      obtain ⟨u, hu1, hu2⟩ := hF 45 (FGO w3.heap.size N (KE.length - 1) LS) (by repeat (first | exact List.mem_cons_self | apply List.mem_cons_of_mem))
      clear hF hS0 hcl
      dsimp only
      rw [hu1, hq3]
      generalize ρ 40 = v40
      generalize ρ 44 = v44
      clear hu1 hq3
      obtain ⟨Au, cu, rfl, -, -⟩ := own_slice hu2
      refine wpl_put_blk B3 [.int .i64 (N : Int), .slice Au (KE.length - 1 : Nat) cu] (by kernel_rfl) rfl (by intro v hv; simp at hv; rcases hv with rfl | rfl <;> rfl) rfl rfl rfl rfl ?_
      intro w6 hB6 hg6
      have hb36 : Below w3.heap.size w3 w6 := hS.1.trans (below_of_grown hg6 hS.1.size hge3)
      have r6 := own_keeps hu2 (Keeps.of_grown hg6) (fun k hk e => own_blk_ne hu2 B3 (by decide) (by rw [hk]; exact e))
      have s6 := SlV.of_own r6
      have hb06 := below_next hb36 hb03
      have d0 : w6.cell? ⟨q3, 0, none⟩ = some (.int .i64 (N : Int)) := (hB6.cell 0).trans rfl
      have d1 : w6.cell? ⟨q3, 1, none⟩ = some (.slice Au (KE.length - 1 : Nat) cu) := (hB6.cell 1).trans rfl
      obtain ⟨ns, hns⟩ : ∃ n, n = KE.length - 1 := ⟨_, rfl⟩
      rw [← hns] at s6 d1 ⊢
      have hnl : Hid (ns = LS.length) := Lib.hid (by rw [HLS.out.2, hns])
      have pE6 := pE.below hb36
      have x6 := x3.below hb36
      clear hu2 B3 hg6 r6 hS keepS hns hge3 pE x3 p2 s3 c0 c1 hde hKl hb36 hb03
      have hbe : Calls Tryd.prog 15 #[.agg #[.int .i64 (N : Int), .slice Au (ns : Nat) cu]] w6 fun e w' => ∃ v, e = .returned (.tuple #[v, .int .i64 0]) ∧ SlW w' v (Gr.behW N LS) ∧ Below w6.heap.size w6 w' := by
        have hnn := hnl.out
        subst hnn
        have l1 := HLL.out.1
        have l2 := HLL.out.2.1
        rw [← HLS.out.1] at l1 l2
        exact behind_nat hN l2 l1 w6 Au cu s6 (by have := HLS.out.2; have := HKL.out; omega) (HT.out.later HT.out.lt hb06)
      go_wp2_with fail
      refine hbe.mono ?_
      rintro e w7 ⟨v7, rfl, sv, hb7⟩
      have hb07 := below_next hb7 hb06
      have pE7 := pE6.below hb7
      have x7 := x6.below hb7
      have l3 := HLL.out.2.2.1
      rw [← HLS.out.1] at l3
      obtain ⟨BW, hBW⟩ : ∃ B, B = Gr.behW N LS := ⟨_, rfl⟩
      have hBl : BW.length = N := by rw [hBW]; exact Gr.behW_length _ _
      have hBg : ∀ s ∈ BW, Bs.Gs N s := by
        rw [hBW]
        have l2 := HLL.out.2.1
        rw [← HLS.out.1] at l2
        exact Gr.behW_gs fun e he => (l2 e he).2
      rw [← hBW] at sv l3
      obtain ⟨xs, hxs⟩ : ∃ s, BW[a]? = some s := ⟨_, List.getElem?_eq_getElem (by omega)⟩
      have hxD : BW.getD a [] = xs := by rw [List.getD_eq_getElem?_getD, hxs, Option.getD_some]
      have l3' : b ∉ Bs.ls 0 xs := by rw [← hxD]; exact l3
      have hgx := hBg xs (List.mem_of_getElem? hxs)
      obtain ⟨os, ⟨A7, c7, rfl, -, -, hol, hoc⟩, hos⟩ := sv
      obtain ⟨va, hva⟩ : ∃ v, os[a]? = some v := ⟨_, List.getElem?_eq_getElem (by omega)⟩
      have su := hos a va xs hva hxs
      obtain ⟨g7, o7, rfl, hgl7, hcell7⟩ := hoc.at_ (fun e => by rw [e] at hva; simp at hva)
      obtain ⟨Ax, cx, rfl⟩ := slU_form su
      have e4 := hcell7 a _ hva
      have haB : a < BW.length := by omega
      have HBW := Lib.hid (And.intro hBl (And.intro hgx l3'))
      clear hBW hBg hxs hxD l3 l3' hva hos hoc hcell7 hbe s6 d0 d1 pE6 x6 hb06 hb7 hol hB6 hBl hgx
      go_upto_region 9 with (fail)
      have e0 : w7.cell? ⟨q2, 0, none⟩ = some (.int .i64 (a : Int)) := (pE7.cell 0).trans rfl
      have e1 : w7.cell? ⟨q2, 1, none⟩ = some (.int .i64 (b : Int)) := (pE7.cell 1).trans rfl
      have e3 : w7.cell? ⟨w.heap.size, 1, none⟩ = some (.slice A es.length c) := (x7.cell 1).trans rfl
      have hls := fun w' (hb : Below w7.heap.size w7 w') => list_any w' _ xs (su.below hb) ((HT.out.later HT.out.lt hb07).later (HT.out.later HT.out.lt hb07).lt hb) (by have := HBW.out.2.1.length; omega)
      obtain ⟨ll, hll⟩ : ∃ l, l = Bs.ls 0 xs := ⟨_, rfl⟩
      rw [← hll] at hls
      have hco := fun w' v (h : SlV w' 1 v ll.length (ilist ll)) => contains_i64 v (ll.map fun (x : Nat) => (x : Int)) (b : Int) w' (by rw [List.length_map]; exact h)
      rw [has_not (by rw [hll]; exact HBW.out.2.2)] at hco
      have hce := fun w' (hb : Below w7.heap.size w7 w') => contains_edge _ es a b w' (hA.below (below_next hb hb07)) HLL.out.2.2.2
      obtain ⟨q, hq⟩ : ∃ q, q = w.heap.size := ⟨_, rfl⟩
      have keepS : ∀ w', Below w7.heap.size w7 w' → (Below w7.heap.size w7 w' ∧ w'.cell? ⟨q2, 0, none⟩ = some (.int .i64 (a : Int)) ∧ w'.cell? ⟨q2, 1, none⟩ = some (.int .i64 (b : Int)) ∧ w'.cell? ⟨w.heap.size, 1, none⟩ = some (.slice A es.length c) ∧ w'.cell? ⟨g7, o7 + a, none⟩ = some (.slice Ax xs.length cx)) := fun w' hb => ⟨hb, (hb.cell (World.block_lt_of_cell? w7 _ e0)).trans e0, (hb.cell (World.block_lt_of_cell? w7 _ e1)).trans e1, (hb.cell (World.block_lt_of_cell? w7 _ e3)).trans e3, (hb.cell (World.block_lt_of_cell? w7 _ e4)).trans e4⟩
      rw [← hq] at keepS ⊢
      have hS0 := keepS _ (below_drew (Below.refl _ _))
      have HQ := Lib.hid (And.intro hq hll)
      clear hq hll e0 e1 e3 e4 pE7 x7 su hgl7
      have gle : decide ((a : Int) < (BW.length : Int)) = true := by simp; exact haB
      refine wp_walk (by kernel_rfl) (by kernel_rfl) (fun w w' => Below w.heap.size w w') (fun w' => Below w7.heap.size w7 w' ∧ w'.cell? ⟨q2, 0, none⟩ = some (.int .i64 (a : Int)) ∧ w'.cell? ⟨q2, 1, none⟩ = some (.int .i64 (b : Int)) ∧ w'.cell? ⟨q, 1, none⟩ = some (.slice A es.length c) ∧ w'.cell? ⟨g7, o7 + a, none⟩ = some (.slice Ax xs.length cx)) hS0 ?_
      repeat (first | (refine settle_skip (fun _ => by rfl) ?_; (simp only [Act.put, List.setIfInBounds_toArray, List.set_cons_zero, List.set_cons_succ])) | (refine' settle_run (fun _ _ => Below.refl _ _) (fun _ => by rfl) ?_ ?_; rotate_left; (focus (intro ρ w hS hF; (try dsimp only at hS); go_split_ands; go_simp; try with_reducible rfl)); (simp only [Act.put, List.setIfInBounds_toArray, List.set_cons_zero, List.set_cons_succ])))
      (refine settle_known (FSl 1 ll.length (ilist ll)) (by rfl) (fun _ => by rfl)  ?_ ?_; (focus (intro ρ w hS hF K hK; (simp only [Act.put, List.setIfInBounds_toArray, List.set_cons_zero, List.set_cons_succ] at hK); go_simp; (refine (hls _ hS.1).mono ?_; rintro e w' ⟨u, rfl, h1, hb'⟩; exact hK _ _ h1 (keepS _ (below_next hb' hS.1)) hb'))); (simp only [Act.put, List.setIfInBounds_toArray, List.set_cons_zero, List.set_cons_succ]))
      repeat (first | (refine settle_skip (fun _ => by rfl) ?_; (simp only [Act.put, List.setIfInBounds_toArray, List.set_cons_zero, List.set_cons_succ])) | (refine' settle_run (fun _ _ => Below.refl _ _) (fun _ => by rfl) ?_ ?_; rotate_left; (focus (intro ρ w hS hF; (try dsimp only at hS); go_split_ands; go_simp; try with_reducible rfl)); (simp only [Act.put, List.setIfInBounds_toArray, List.set_cons_zero, List.set_cons_succ])))
      (refine' settle_step (fun _ => by rfl) ?_ ?_; rotate_left; (focus (intro ρ w hS hF K hK; (simp only [Act.put, List.setIfInBounds_toArray, List.set_cons_zero, List.set_cons_succ] at hK); go_simp; refine (hco _ _ (hF.1 (by rfl))).mono ?_; rintro e w' ⟨rfl, m, rfl⟩; have hS' := keepS _ (below_drewN hS.1 m); have hE' := below_drewN (Below.refl w.heap.size w) m; exact hK _ hS' hE')); (simp only [Act.put, List.setIfInBounds_toArray, List.set_cons_zero, List.set_cons_succ]))
      repeat (first | (refine settle_skip (fun _ => by rfl) ?_; (simp only [Act.put, List.setIfInBounds_toArray, List.set_cons_zero, List.set_cons_succ])) | (refine' settle_run (fun _ _ => Below.refl _ _) (fun _ => by rfl) ?_ ?_; rotate_left; (focus (intro ρ w hS hF; (try dsimp only at hS); go_split_ands; go_simp; try with_reducible rfl)); (simp only [Act.put, List.setIfInBounds_toArray, List.set_cons_zero, List.set_cons_succ])))
      (refine' settle_step (fun _ => by rfl) ?_ ?_; rotate_left; (focus (intro ρ w hS hF K hK; (simp only [Act.put, List.setIfInBounds_toArray, List.set_cons_zero, List.set_cons_succ] at hK); go_simp; refine (hce _ hS.1).mono ?_; rintro e w' ⟨rfl, hb'⟩; have hS' := keepS _ (below_next hb' hS.1); have hE' := hb'; exact hK _ hS' hE')); (simp only [Act.put, List.setIfInBounds_toArray, List.set_cons_zero, List.set_cons_succ]))
      repeat (first | (refine settle_skip (fun _ => by rfl) ?_; (simp only [Act.put, List.setIfInBounds_toArray, List.set_cons_zero, List.set_cons_succ])) | (refine' settle_run (fun _ _ => Below.refl _ _) (fun _ => by rfl) ?_ ?_; rotate_left; (focus (intro ρ w hS hF; (try dsimp only at hS); go_split_ands; go_simp; try with_reducible rfl)); (simp only [Act.put, List.setIfInBounds_toArray, List.set_cons_zero, List.set_cons_succ])))
      refine settle_nil ?_
      intro ρ wE hS hF
      have hfin := below_next hS.1 hb07
      clear hF hS hS0 keepS hls hco hce
      go_wp2_with fail
      go_ret
      exact ⟨rfl, hfin⟩
    · clear x2
      go_wp2_with fail
      go_ret
      exact ⟨rfl, hba⟩
  · clear x2
    go_wp2_with fail
    go_ret
    exact ⟨rfl, hba⟩
end Go.Proofs.YtcpoglchjkpbpaaDoor


namespace Go.Proofs.YtcpoglchjkpbpaaDoor
set_option linter.unusedVariables false
set_option linter.unusedSimpArgs false
set_option maxRecDepth 100000
open Go.ChangeShapes Go.WideShapes Go.ChangeAt Go.RowKit
set_option linter.unusedVariables false

set_option maxHeartbeats 4000000 in
theorem least_no (w : World) (n : Int) (es : List Gr.Er) (A : Option Addr) (c : Nat) (k : Int) (h0 : Gr.wrong n es ≠ 0) (hA : SlV w 2 (.slice A es.length c) es.length (ercs es)) (hle : es.length ≤ 1099511627776) (hT : Tab w) :
    Calls Tryd.prog 8 #[.agg #[.int .i64 n, .slice A es.length c], .int .i64 k] w fun e w' => e = .returned (.bool true) ∧ Below w.heap.size w w' := by
  have hba : Below w.heap.size w (w.alloc (.cells #[.int .i64 n, .slice A es.length c] 24)) := below_alloc (Below.refl _ _) _
  have x0 := Blk.new w 24 [.int .i64 n, .slice A es.length c]
  have HT := Lib.hid hT
  clear hT
  go_enter Tryd.func8, Tryd.ntmps8
  go_upto_region 1 with (fail)
  generalize (w.alloc (.cells #[.int .i64 n, .slice A es.length c] 24)) = W0 at x0 hba ⊢
  go_wp2_with fail
  refine (alive2_any W0 (HT.out.later HT.out.lt hba)).mono ?_
  rintro e w1 ⟨rfl, hb1⟩
  have x1 := x0.below hb1
  have c0 : w1.cell? ⟨w.heap.size, 0, none⟩ = some (.int .i64 n) := (x1.cell 0).trans rfl
  have c1 : w1.cell? ⟨w.heap.size, 1, none⟩ = some (.slice A es.length c) := (x1.cell 1).trans rfl
  have hb01 := below_next hb1 hba
  clear x0 hba hb1
  go_wp2_with fail
  refine (core_any n es w1 A c (hA.below hb01) hle (HT.out.later HT.out.lt hb01)).mono ?_
  rintro e w2 ⟨g, rfl, hg, -, hb2⟩
  obtain rfl := hg h0
  obtain ⟨R, hR⟩ : ∃ R, R = Gr.wrong n es := ⟨_, rfl⟩
  rw [← hR] at h0 ⊢
  have g0 : (R != 0) = true := by simpa using h0
  have hb02 := below_alloc (below_next hb2 hb01) (.cells #[.int .i64 0, .slice none 0 0] 24)
  have HG := Lib.hid hg
  clear hR h0 x1 c0 c1 hb2 hb01 hA hg
  go_wp2_with fail
  go_ret
  exact ⟨rfl, hb02⟩

theorem graphLeast_walk (w : World) (n : Int) (es : List Gr.Er) (A : Option Addr) (c : Nat) (k : Int) (hA : SlV w 2 (.slice A es.length c) es.length (ercs es)) (hle : es.length ≤ 1099511627776) (hT : Tab w) :
    Calls Tryd.prog 8 #[.agg #[.int .i64 n, .slice A es.length c], .int .i64 k] w fun e w' => e = .returned (.bool true) ∧ Below w.heap.size w w' := by
  by_cases h0 : Gr.wrong n es = 0
  · obtain ⟨hok, N, rfl, hN, hes, hln, hl⟩ := Gr.wrong_zero h0
    have h4 := hA
    rw [ercs_nat hok, ← hln] at h4
    have := least_yes w N (Gr.nat es) A c k hN hes hl h4 (by omega) hT
    rw [hln] at this
    exact this
  · exact least_no w n es A c k h0 hA hle hT

theorem tab_of_graphLeast {W : World} (h : laidMetH Tryd.prog Rows.graphLeastUptoRow.laid W) : Tab W :=
  tab_is (Lib.tabIs_of_head (rest := []) gTab gTabType Tryd.underlying124 Tryd.underlying5 cellsByte cellsTab h)
theorem graphLeast_met (os : Os) : laidMet Tryd.prog Rows.graphLeastUptoRow.laid ((laidWorld os).forCall (fun _ _ => 0) ⟨#[], #[.agg #[.int .i64 0, .slice none 0 0], .int .i64 0], []⟩).memory :=
  laidMet_of_run' 8 (by kernel_rfl) (by kernel_rfl)
theorem graphLeast_reads (os : Os) {H : Type} (enc : TypeId × Value → H) : ∃ places, DataW.whole enc Tryd.prog ((laidWorld os).forCall (fun _ _ => 0) ⟨#[], #[.agg #[.int .i64 0, .slice none 0 0], .int .i64 0], []⟩).memory Tryd.f8.params.toList Rows.graphLeastSpec.vars false #[.agg #[.int .i64 0, .slice none 0 0], .int .i64 0].toList 8 = some ([.agg [.lit (.int .i64 0), .nil], .lit (.int .i64 0)], [], places) :=
  ⟨[], by kernel_rfl⟩
set_option maxRecDepth 100000 in
theorem graphLeast_lifted (os : Os) (started : os.Started) (H : Type) (enc : TypeId × Value → H) (F : Stop.Interp) :
    ReturnsInHanded {} Tryd.checked os 8 .any ((Rows.OpenSpec.upto Rows.graphLeastSpec).preRow enc Tryd.prog Tryd.f8 Rows.graphLeastUptoRow.domain false Rows.graphLeastUptoRow.laid) (((Rows.OpenSpec.upto Rows.graphLeastSpec).at F).post enc Tryd.prog Tryd.f8 false true false false) := by
  obtain ⟨places, hx⟩ := graphLeast_reads os enc
  refine returnsInHanded_of_row (C := Tryd.checked) (s := (Rows.OpenSpec.upto Rows.graphLeastSpec)) own started (by kernel_rfl) Tryd.func8
    (witness_row_at (enc := enc) (C := Tryd.checked) false (laidWorld os) #[.agg #[.int .i64 0, .slice none 0 0], .int .i64 0] rfl (by kernel_rfl) (by kernel_rfl) (by kernel_rfl)
      (OpenSpec.preRow_of_cond 8 hx (by kernel_rfl) (fun k hk => by cases hk; kernel_rfl) (by kernel_rfl) (graphLeast_met os))) ?_
  intro W base args ds gs before hval0 hW _ hcond _ hL _ _
  have hk := hcond _ rfl
  have hT := tab_of_graphLeast hL
  have hval : ∀ (j : Nat) t v, Tryd.f8.params[j]? = some t → args[j]? = some v → Value.okWide Tryd.prog W .any base t v := hval0
  have hW' := hW
  have hlt := hW.lt
  obtain ⟨p, q, hA0, hV, rfl, hfz, hnd⟩ := hW
  have hA : DataW.TrodAll enc Tryd.prog W 0 (fun _ => true) true Tryd.f8.params.toList args.toList ds p := hA0
  rw [Tryd.params8] at hA hval
  obtain ⟨v0, vs0, d0, ds0, p0, q0, hargs, rfl, rfl, h0, r0⟩ := trodAll_cons hA
  obtain ⟨v1, vs1, d1, ds1, p1, q1, rfl, rfl, rfl, h1, r1⟩ := trodAll_cons r0
  obtain ⟨rfl, rfl, rfl⟩ := trodAll_nil r1
  obtain rfl : args = #[v0, v1] := by cases args; simp_all
  obtain ⟨rfl, rfl⟩ := trodVars_none hV
  obtain ⟨n0, es0, A0, c0, rfl, hg0, hs0⟩ := open_arg_graph (hval 0 _ v0 rfl rfl) h0 (fun x hx => by simpa using hlt x (by simp [hx]))
  obtain ⟨n1, rfl, rfl, rfl, wn1⟩ := open_int Tryd.underlying3 (hval 1 _ v1 rfl rfl) h1
  have hk' : Rows.uptoBulkAll (d0 :: _) ≤ 1048576 := of_decide_eq_true hk
  rw [Rows.uptoBulkAll] at hk'
  refine (graphLeast_walk W n0 es0 A0 c0 n1 hg0 (by omega) hT).mono fun e W' ⟨he, hb⟩ => ?_
  subst he
  exact ⟨_, rfl, post_true laidOut (by kernel_rfl) Tryd.underlying4 (by decide +kernel) rfl rfl hW' hb⟩

theorem graphLeast_upto : Rows.GraphLeastUptoSaid :=
  OpenClaim.holds_of_cond 8 Tryd.f8 rfl rfl rfl rfl rfl rfl rfl ⟨rfl, rfl, rfl, rfl, rfl⟩ rfl rfl rfl rfl rfl (by kernel_rfl) Tryd.func8 (by kernel_rfl)
    (of_decide_eq_true (by kernel_rfl)) (by unfold Func.isWrapper; first | (rw [if_pos (by decide +kernel)]; kernel_rfl) | (rw [if_neg (by decide +kernel)]; exact ⟨rfl, rfl⟩))
    (fun os started H enc _ F => by rw [OpenClaim.pre_eq_preRow]; exact graphLeast_lifted os started H enc F)
theorem graphLeast_plain (f : FuncId) (fn : Func) (hf : Tryd.pinned.checked.prog.funcNamed "forkwright/forkwrightkeep.GraphLeast" = some f) (hfn : Tryd.pinned.checked.prog.funcs[f]? = some fn) :
    false = Tryd.pinned.checked.prog.looks [] ∧ ∀ (j : Nat) t, fn.params[j]? = some t → Tryd.pinned.checked.prog.wantsStandIn t = false := by
  obtain rfl : f = 8 := Option.some.inj ((show Tryd.prog.funcNamed "forkwright/forkwrightkeep.GraphLeast" = some 8 by kernel_rfl).symm.trans hf) |>.symm
  obtain rfl : fn = Tryd.f8 := (Option.some.inj (Tryd.func8.symm.trans hfn)).symm
  refine ⟨by kernel_rfl, fun j t ht => ?_⟩
  rw [Tryd.params8] at ht
  have hm := Array.mem_of_getElem? ht
  have hm' : t ∈ [24, 3] := by simpa using hm
  have hall : ([24, 3].all fun u => !Tryd.prog.wantsStandIn u) = true := by kernel_rfl
  exact (show Tryd.prog.wantsStandIn t = false by simpa using List.all_eq_true.1 hall t hm')
theorem graphLeast_card : Rows.GraphLeastUptoCardSaid :=
  Claim7.holds_tied_plain_at .later [] _ _ _ _ graphLeast_upto (fun _ h => by cases h) (by kernel_rfl) (fun _ h => by cases h) graphLeastUpto_row_tie rfl ⟨rfl, rfl⟩ (by kernel_rfl) rfl graphLeast_plain (by kernel_rfl)
end Go.Proofs.YtcpoglchjkpbpaaDoor
