/-
  A map of integers to integers that the call makes, read as a function.
-/
import Derived.Test.YtkjmddgnfgbioaaDoorGdP1
import Derived.Test.YtkjmddgnfgbioaaDoorGdP2
import Derived.Test.YtkjmddgnfgbioaaDoorGdP3
import Derived.OrdersIn
import Derived.CallsIn
import Derived.RangeFuncCalls
import Derived.TacticsIn
import Derived.Test.YtkjmddgnfgbioaaDoorShelf
import Derived.Sort.OwnSortedInts
import Derived.Lib.SlKeysI
import Derived.Test.YtkjmddgnfgbioaaDoorRows
import Derived.Maps.OwnOps
import Derived.Maps.Views

namespace Go.Proofs.YtkjmddgnfgbioaaDoor
set_option linter.unusedVariables false
set_option linter.unusedSimpArgs false
set_option maxRecDepth 100000
open Go.RowKit Go.Shelf

attribute [local go_sem] Oper.semAt_some

theorem all1_gen (m l qb cap : Nat) (A : Option Addr) (xs : List Nat) (hws : Bs.Ws xs) (hreach : xs.length ≤ 17592186044416) (J Jx : List Nat → World → Prop) (Kp : World → World → Prop) (hKr : ∀ w, Kp w w) (hKt : ∀ {a b c : World}, Kp a b → Kp b c → Kp a c)
    (hY : ∀ pre x W, x ∈ Bs.ls 0 xs → J pre W → pre.length < (Bs.ls 0 xs).length → YieldAt Fence.wide m Tryd.prog l #[.int .i64 ((x : Nat) : Int)] W fun e W' =>
      (e = .returned (.bool true) ∧ J (pre ++ [x]) W' ∧ Kp W W') ∨ (e = .returned (.bool false) ∧ Jx (pre ++ [x]) W'))
    (W : World) (hcb : ∀ wr, Kp W wr → wr.cell? ⟨qb, 0, none⟩ = some (.slice A xs.length cap)) (hcc : ∀ wr, Kp W wr → ∃ B, Cells wr B A (nats xs)) (hTT : ∀ wr, Kp W wr → Tab wr) (h0 : J [] W) :
    CallsIn Fence.wide (m + 1) Tryd.prog 99 #[.func (.yield l) #[] #[], .pointer (some ⟨qb, 0, none⟩)] W fun e W' => (∃ v, e = .returned v) ∧
      ((J (Bs.ls 0 xs) W') ∨ (∃ pre, Jx pre W')) := by
  refine callsIn_of_wp Tryd.func99 rfl trivial ?_ rfl
  simp only [Tryd.ntmps99, List.size_toArray, List.length_cons, List.length_nil, Nat.reduceAdd, Nat.reduceSub, Array.replicate_succ, Array.replicate_zero, List.push_toArray, List.append_toArray, List.nil_append, List.cons_append]
  have hqb := hcb W (hKr W)
  gi_wp2
  gi_loopw [7] (fun i wr => ∃ k : Nat, k ≤ xs.length ∧ i = .int .i64 (k : Int) ∧ J (Bs.ls 0 (xs.take k)) wr ∧ Kp W wr) (fun i _ => xs.length - (intOf i).toNat)
  case atStart => exact ⟨0, Nat.zero_le _, rfl, h0, hKr _⟩
  case round =>
    clear hqb h0
    obtain ⟨k, hk, rfl, hJ, hK⟩ := hrel
    by_cases hlt : k < xs.length
    · obtain ⟨x, hx⟩ : ∃ x, xs[k]? = some x := ⟨_, List.getElem?_eq_getElem hlt⟩
      obtain ⟨B0, hc0⟩ := hcc wr hK
      obtain ⟨b, o, rfl, hb, hcx⟩ := hc0.nat hx
      clear hb hc0
      have HX := Lib.hid hx
      clear hx
      gi_wp2
      have hxw : x < 18446744073709551616 := hws x (List.mem_of_getElem? HX.out)
      have hsn : Bs.ls 0 (xs.take (k + 1)) = Bs.ls 0 (xs.take k) ++ (Bs.bl x).map (64 * k + ·) := by
        obtain ⟨h', hx'⟩ := List.getElem?_eq_some_iff.1 HX.out
        rw [List.take_succ_eq_append_getElem h', hx', Bs.ls_snoc, List.length_take, Nat.min_eq_left (by omega)]
      have hcount : ∀ m ≤ ((Bs.bl x).map (64 * k + ·)).length, m < ((Bs.bl x).map (64 * k + ·)).length → (Bs.ls 0 (xs.take k)).length + m < (Bs.ls 0 xs).length := fun m _ hm => by
        have e : xs = xs.take (k + 1) ++ xs.drop (k + 1) := (List.take_append_drop _ _).symm
        have : (Bs.ls 0 xs).length = (Bs.ls 0 (xs.take (k + 1))).length + (Bs.ls (0 + (xs.take (k + 1)).length) (xs.drop (k + 1))).length := by
          conv => lhs; rw [e, Bs.ls_append]
          rw [List.length_append]
        rw [this, hsn, List.length_append]
        omega
      have hmem : ∀ z ∈ (Bs.bl x).map (64 * k + ·), z ∈ Bs.ls 0 xs := fun z hz => by
        have e : xs = xs.take (k + 1) ++ xs.drop (k + 1) := (List.take_append_drop _ _).symm
        rw [e, Bs.ls_append]
        exact List.mem_append_left _ (by rw [hsn]; exact List.mem_append_right _ hz)
      have HSN := Lib.hid (And.intro hsn (And.intro hcount hmem))
      clear hsn hcount hmem hcb hcc
      obtain ⟨wo, rfl⟩ : ∃ wo : World, wo = wr := ⟨_, rfl⟩
      gi_loopw [4] (fun i wr => ∃ (v : Nat) (dn : List Nat), i = .int .u64 (v : Int) ∧ v < 18446744073709551616 ∧ dn ++ (Bs.bl v).map (64 * k + ·) = (Bs.bl x).map (64 * k + ·) ∧ J (Bs.ls 0 (xs.take k) ++ dn) wr ∧ Kp W wr) (fun i _ => (intOf i).toNat)
      case atStart => exact ⟨x, [], rfl, hxw, rfl, by rw [List.append_nil]; exact hJ, hK⟩
      case round =>
        clear hJ hK hxw
        obtain ⟨v, dn, rfl, hv, hd, hJ, hK⟩ := hrel
        have HD := Lib.hid hd
        clear hd
        rcases hz : ((v : Int) != 0) with _ | _
        · have HV := Lib.hid (show v = 0 by simpa using hz)
          gi_wp2
          go_roundw
          case rel => exact ⟨k + 1, by omega, by go_num, by
            have h := HD.out
            rw [HV.out, Bs.bl_zero, List.map_nil, List.append_nil] at h
            rw [HSN.out.1, ← h]
            exact hJ, hK⟩
          case measure => simp [intOf]; omega
        · have hv0 : v ≠ 0 := by simpa using hz
          have HV := Lib.hid hv0
          clear hv0
          gi_wp2_with fail
          refine ⟨trivial, (callsIn_wide.2 (tz_any _ v hv HV.out (hTT _ hK))).mono ?_⟩
          rintro e w1 ⟨rfl, rfl⟩
          obtain ⟨-, -, hc64, -⟩ := Bs.low HV.out hv
          have hbl := Bs.bl_pos HV.out
          have hclr := and_pred v hv HV.out
          have hcl := Bs.clear_low HV.out
          have hd := HD.out
          rw [hbl, List.map_cons] at hd
          have hlen : dn.length < ((Bs.bl x).map (64 * k + ·)).length := by rw [← hd, List.length_append, List.length_cons]; omega
          obtain ⟨fn, tmps, assign, body, hy, hR⟩ := hY _ (64 * k + Lib.ctz 64 v) w1 (HSN.out.2.2 _ (by rw [← hd]; simp)) hJ (by rw [List.length_append]; exact HSN.out.2.1 _ (Nat.le_of_lt hlen) hlen)
          obtain ⟨c, hc⟩ : ∃ c, c = Lib.ctz 64 v := ⟨_, rfl⟩
          rw [← hc] at hc64 hd hy hR ⊢
          rw [show ((64 * k + c : Nat) : Int) = 64 * (k : Int) + (c : Int) by omega] at hy
          have HC := Lib.hid (And.intro hclr (And.intro hcl hd))
          clear hbl hclr hcl hd hlen hc HD
          gi_wp2
          refine hR.mono ?_
          rintro e W3 (⟨rfl, hJ3, hk3⟩ | ⟨rfl, hJx3⟩)
          · gi_wp2
            go_roundw
            case rel => exact ⟨v &&& (v - 1), dn ++ [64 * k + c], by rw [HC.out.1], Bs.clear_lt hv, by rw [List.append_assoc]; exact HC.out.2.2, by rw [← List.append_assoc]; exact hJ3, hKt hK hk3⟩
            case measure => simp only [intOf, HC.out.1]; have := HC.out.2.1; simp; omega
          · gi_wp2
            refine bodyPost_ret (results_none rfl _ _ _) rfl ?_
            exact ⟨⟨_, rfl⟩, .inr ⟨_, hJx3⟩⟩
    · have HK := Lib.hid (show k = xs.length by omega)
      gi_wp2
      go_end0
      exact ⟨⟨_, rfl⟩, .inl (by have := hJ; rw [HK.out, List.take_length] at this; exact this)⟩

/-- the loop's body is told that what comes is in the set -/
theorem all_gen_stops (m qb cap : Nat) (A : Option Addr) (xs : List Nat) (hws : Bs.Ws xs) (hreach : xs.length ≤ 17592186044416) (Kp : World → World → Prop) (hKr : ∀ w, Kp w w) (hKt : ∀ {a b c : World}, Kp a b → Kp b c → Kp a c) (w : World)
    (hcb : ∀ W wr, Below w.heap.size w W → Kp W wr → wr.cell? ⟨qb, 0, none⟩ = some (.slice A xs.length cap)) (hcc : ∀ W wr, Below w.heap.size w W → Kp W wr → ∃ B, Cells wr B A (nats xs)) (hTT : ∀ W wr, Below w.heap.size w W → Kp W wr → Tab wr) :
    SeqStopsK Fence.wide (m + 1) Tryd.prog 99 #[.pointer (some ⟨qb, 0, none⟩)] (fun x : { x : Nat // x ∈ Bs.ls 0 xs } => #[Value.int .i64 ((x.1 : Nat) : Int)]) Kp (fun ys => ys.map (·.1) = Bs.ls 0 xs) (fun _ => True) (Bs.ls 0 xs).length w := fun l J Jx W hW _ _ hY h0 => by
  refine (all1_gen m l qb cap A xs hws hreach (fun l W => ∃ la : List { x : Nat // x ∈ Bs.ls 0 xs }, la.map (·.1) = l ∧ J la W) (fun l W => ∃ la : List { x : Nat // x ∈ Bs.ls 0 xs }, la.map (·.1) = l ∧ Jx la W) Kp hKr hKt (fun pre x W1 hx hJ hlt => ?_) W (fun wr hk => hcb W wr hW hk) (fun wr hk => hcc W wr hW hk) (fun wr hk => hTT W wr hW hk) ⟨[], rfl, h0⟩).mono ?_
  · obtain ⟨la, rfl, hJ⟩ := hJ
    have := hY la ⟨x, hx⟩ W1 hJ (by simpa using hlt)
    obtain ⟨fn, tmps, assign, body, hy, hR⟩ := this
    refine ⟨fn, tmps, assign, body, hy, hR.mono ?_⟩
    rintro e W' (⟨h1, h2, h3⟩ | ⟨h1, h2⟩)
    · exact .inl ⟨h1, ⟨_, by simp, h2⟩, h3⟩
    · exact .inr ⟨h1, _, by simp, h2⟩
  · rintro e W' ⟨he, ⟨la, h1, h2⟩ | ⟨pre, la, h1, h2⟩⟩
    · exact ⟨he, .inl ⟨_, h1, h2⟩⟩
    · exact ⟨he, .inr ⟨_, trivial, h2⟩⟩

theorem all_gen (m : Nat) (a : Option Addr) (len cap : Nat) (w : World) :
    CallsIn Fence.wide (m + 1) Tryd.prog 63 #[.slice a len cap] w fun e w' => e = .returned (.func (.func 99) #[] #[.pointer (some ⟨w.heap.size, 0, none⟩)]) ∧ w' = w.alloc (.cells #[.slice a len cap] 91) := by
  refine callsIn_of_wp Tryd.func63 rfl trivial ?_ rfl
  simp only [Tryd.ntmps63, List.size_toArray, List.length_cons, List.length_nil, Nat.reduceAdd, Nat.reduceSub, Array.replicate_succ, Array.replicate_zero, List.push_toArray, List.append_toArray, List.nil_append, List.cons_append]
  gi_wp2
  go_ret
  exact ⟨rfl, rfl⟩
end Go.Proofs.YtkjmddgnfgbioaaDoor


namespace Go.Proofs.YtkjmddgnfgbioaaDoor
set_option linter.unusedVariables false
set_option linter.unusedSimpArgs false
set_option maxRecDepth 100000
open Go.RowKit Go.Shelf

attribute [local go_sem] Oper.semAt_some

def Nums (w w' : World) : Prop := w.heap.size ≤ w'.heap.size ∧ ∀ (p : Addr) (k : IntKind) (x : Int), w.cell? p = some (.int k x) → w'.cell? p = some (.int k x)
theorem Nums.refl (w : World) : Nums w w := ⟨Nat.le_refl _, fun _ _ _ h => h⟩
theorem Nums.trans {a b c : World} (h : Nums a b) (k : Nums b c) : Nums a c := ⟨Nat.le_trans h.1 k.1, fun p i x hx => k.2 p i x (h.2 p i x hx)⟩
theorem Nums.of_below {w w' : World} (h : Below w.heap.size w w') : Nums w w' := ⟨h.size, fun p _ _ hx => (h.cell (World.block_lt_of_cell? w p hx)).trans hx⟩
theorem Cells.nums {w w' : World} {B : Nat} {A : Option Addr} {xs : List Nat} (h : Cells w B A (nats xs)) (hB : B ≤ w.heap.size) (hn : Nums w w') : Cells w' w'.heap.size A (nats xs) := by
  by_cases hx : xs = []
  · subst hx; exact Cells.nil _ _ _
  obtain ⟨b, o, hA, hb, hc⟩ := h.at_ (fun e => hx (by simpa [nats] using e))
  refine ⟨b, o, fun _ => ⟨hA, by have := hn.1; omega⟩, fun j u hu => ?_⟩
  have hu' := hu
  simp only [nats, List.getElem?_map, Option.map_eq_some_iff] at hu'
  obtain ⟨y, -, rfl⟩ := hu'
  exact hn.2 _ _ _ (hc j _ hu)
theorem SlU.nums {w w' : World} {v : Value} {xs : List Nat} (h : SlU w v xs) (hn : Nums w w') : SlU w' v xs := by
  obtain ⟨⟨A, c, rfl, h1, h2, h3, h4⟩, hw⟩ := h
  exact ⟨⟨A, c, rfl, h1, h2, h3, h4.nums (Nat.le_refl _) hn⟩, hw⟩
theorem Tab.nums {w w' : World} (h : Tab w) (hn : Nums w w') : Tab w' := fun j hj => hn.2 _ _ _ (h j hj)
/-! ### a range over a function within a plain loop: a mark for each round -/
def markOf (D : Nat) : Deferred := { target := .collected D, args := #[] }
theorem leaves_marks {F : Fence} {n : Nat} {P : Program} {fn : Func} {tmps : Array Value} {R : Ending → World → Prop} (b : Nat) (T : World → Prop)
    (hT : ∀ W D, b ≤ D → T W → W.heap[D]? = some (.deferred (some [])) → T (W.putObj D (.deferred none))) (hend : ∀ W, T W → LeavesInM F n P fn tmps R [] .returning W) :
    ∀ (Ds : List Nat) (W : World), Ds.Nodup → (∀ D ∈ Ds, b ≤ D ∧ W.heap[D]? = some (.deferred (some []))) → T W → LeavesInM F n P fn tmps R (Ds.map markOf) .returning W
  | [], W, _, _, h => hend W h
  | D :: Ds, W, hn, hD, h => by
    obtain ⟨h1, h2⟩ := hD D List.mem_cons_self
    have hn' := List.nodup_cons.1 hn
    refine ⟨by simp, .inl ⟨D, _, rfl, run_takeDeferred h2, ?_⟩⟩
    refine leaves_marks b T hT hend Ds _ hn'.2 (fun D' hD' => ?_) (hT _ _ h1 h h2)
    obtain ⟨h3, h4⟩ := hD D' (List.mem_cons_of_mem _ hD')
    exact ⟨h3, (World.putObj_heap_other (fun e => hn'.1 (by subst e; exact hD'))).trans h4⟩

/-- of the blocks below p all are as they were; and so is a box -/
def KpQ (p q : Nat) (A B : World) : Prop := A.heap.size ≤ B.heap.size ∧ (∀ k, k < p → B.heap[k]? = A.heap[k]?) ∧ ∀ v, Boxed A q 91 v → Boxed B q 91 v
theorem KpQ.refl (p q : Nat) (A : World) : KpQ p q A A := ⟨Nat.le_refl _, fun _ _ => rfl, fun _ h => h⟩
theorem KpQ.trans {p q : Nat} {A B C : World} (h : KpQ p q A B) (k : KpQ p q B C) : KpQ p q A C := ⟨Nat.le_trans h.1 k.1, fun i hi => (k.2.1 i hi).trans (h.2.1 i hi), fun v hv => k.2.2 v (h.2.2 v hv)⟩
theorem KpQ.put {p q : Nat} {W : World} {l : Nat} {o o' : Obj} (hl : p ≤ l) (h : W.heap[l]? = some o) (ho : o.isCells = false) : KpQ p q W (W.putObj l o') := by
  have hg := grownBy_putObj' W l o'
  refine ⟨hg.size, fun k hk => hg.block k (by have := (Array.getElem?_eq_some_iff.1 h).1; omega) (fun e => by cases e; omega), fun v hv => hv.kept hg fun e => ?_⟩
  injection e with e
  subst e
  rw [show W.heap[q]? = _ from hv] at h
  cases h
  cases ho
end Go.Proofs.YtkjmddgnfgbioaaDoor


namespace Go.Proofs.YtkjmddgnfgbioaaDoor.Gr
set_option linter.unusedVariables false
set_option linter.unusedSimpArgs false
set_option maxRecDepth 100000
open Bs

/-- has j: the set of j alone is within -/
theorem win_one {N : Nat} {s : List Nat} (h : Gs N s) {j : Nat} (hj : j ≤ 65535) : win (of_ [(j : Int)]) s = bit s j := by
  have ho := of_facts [(j : Int)]
  have key : win (of_ [(j : Int)]) s = true ↔ bit s j = true := by
    rw [win_iff ho.1 h.ws]
    constructor
    · intro hs
      have hb : bit (of_ [(j : Int)]) j = true := by rw [of_one hj, bit_put]; simp
      exact hs _ _ hb
    · intro hb i k hik
      by_cases hk : k < 64
      · have h1 : bit (of_ [(j : Int)]) (64 * i + k) = true := by
          unfold bit
          rw [show (64 * i + k) / 64 = i by omega, show (64 * i + k) % 64 = k by omega]
          exact hik
        rw [of_one hj, bit_put, bit_nil, Bool.false_or, beq_iff_eq] at h1
        rw [← h1] at hb
        unfold bit at hb
        rw [show (64 * i + k) / 64 = i by omega, show (64 * i + k) % 64 = k by omega] at hb
        exact hb
      · rw [Nat.testBit_lt_two_pow (Nat.lt_of_lt_of_le (show Bs.at_ (of_ [(j : Int)]) i < 2 ^ 64 from ho.1.at_ i) (Nat.pow_le_pow_right (by decide) (by omega)))] at hik
        cases hik
  cases h1 : win (of_ [(j : Int)]) s <;> cases h2 : bit s j <;> simp_all
theorem win_sub {N : Nat} {s t : List Nat} (h : Gs N s) (k : Gs N t) (e : ∀ m, bit s m = true → bit t m = true) : win s t = true := by
  rw [win_iff h.ws k.ws]
  intro i j hij
  by_cases hj : j < 64
  · have := e (64 * i + j)
    unfold bit at this
    rw [show (64 * i + j) / 64 = i by omega, show (64 * i + j) % 64 = j by omega] at this
    exact this hij
  · rw [Nat.testBit_lt_two_pow (Nat.lt_of_lt_of_le (show Bs.at_ s i < 2 ^ 64 from h.ws.at_ i) (Nat.pow_le_pow_right (by decide) (by omega)))] at hij
    cases hij
theorem behW_at {N : Nat} {es : List Ed} (hes : ∀ e ∈ es, e.2 < N) (n : Nat) : Gs N ((behW N es).getD n []) := by
  by_cases hn : n < (behW N es).length
  · rw [List.getD_eq_getElem?_getD, List.getElem?_eq_getElem hn, Option.getD_some]
    exact behW_gs hes _ (List.getElem_mem hn)
  · rw [List.getD_eq_getElem?_getD, List.getElem?_eq_none (by omega), Option.getD_none]
    exact Gs.nil N
/-- what the law says -/
theorem behind_law {N : Nat} {es : List Ed} (hN : N ≤ 200) (hl : (take N es).length = N) (hes : ∀ e ∈ es, e.2 < N) {i j : Nat} (hi : i < N) (hj : j < N) :
    win (of_ [(i : Int)]) ((behW N es).getD i []) = false ∧ (win (of_ [(j : Int)]) ((behW N es).getD i []) = true → win ((behW N es).getD j []) ((behW N es).getD i []) = true ∧ win (of_ [(i : Int)]) ((behW N es).getD j []) = false) := by
  have hr := (good_take N es).not_round hl hes
  have key : ∀ a b, a < N → b < N → (win (of_ [(b : Int)]) ((behW N es).getD a []) = true ↔ Way es a b) := fun a b ha hb => by
    rw [win_one (behW_at hes a) (by omega), behW_is hl hes a ha]
  refine ⟨?_, fun h => ⟨?_, ?_⟩⟩
  · cases hc : win (of_ [(i : Int)]) ((behW N es).getD i []) with
    | false => rfl
    | true => exact absurd ((key i i hi hi).1 hc) (hr i)
  · exact win_sub (behW_at hes j) (behW_at hes i) fun m hm => (behW_is hl hes i hi m).2 (((key i j hi hj).1 h).trans ((behW_is hl hes j hj m).1 hm))
  · cases hc : win (of_ [(i : Int)]) ((behW N es).getD j []) with
    | false => rfl
    | true => exact absurd (((key i j hi hj).1 h).trans ((key j i hj hi).1 hc)) (hr i)
end Go.Proofs.YtkjmddgnfgbioaaDoor.Gr


namespace Go.Proofs.YtkjmddgnfgbioaaDoor.Gr
set_option linter.unusedVariables false
set_option linter.unusedSimpArgs false
set_option maxRecDepth 100000
open Bs
/-- the pairs of the first k -/
def edk (L : List (List Nat)) (k : Nat) : List Ed := (List.range k).flatMap fun i => (ls 0 (L.getD i [])).map fun j => (i, j)
def edW (L : List (List Nat)) : List Ed := edk L L.length
theorem edk_zero (L : List (List Nat)) : edk L 0 = [] := rfl
theorem edk_succ (L : List (List Nat)) (k : Nat) : edk L (k + 1) = edk L k ++ (ls 0 (L.getD k [])).map fun j => (k, j) := by
  unfold edk
  rw [List.range_succ, List.flatMap_append]
  simp
theorem getD_gs {N : Nat} {L : List (List Nat)} (h : ∀ s ∈ L, Gs N s) (k : Nat) : Gs N (L.getD k []) := by
  by_cases hk : k < L.length
  · rw [List.getD_eq_getElem?_getD, List.getElem?_eq_getElem hk, Option.getD_some]
    exact h _ (List.getElem_mem hk)
  · rw [List.getD_eq_getElem?_getD, List.getElem?_eq_none (by omega), Option.getD_none]
    exact Gs.nil N
theorem edk_mem {N : Nat} {L : List (List Nat)} (h : ∀ s ∈ L, Gs N s) (k : Nat) (e : Ed) : e ∈ edk L k ↔ e.1 < k ∧ bit (L.getD e.1 []) e.2 = true := by
  unfold edk
  rw [List.mem_flatMap]
  constructor
  · rintro ⟨i, hi, he⟩
    obtain ⟨j, hj, rfl⟩ := List.mem_map.1 he
    exact ⟨List.mem_range.1 hi, (mem_list (getD_gs h i).ws j).1 hj⟩
  · rintro ⟨h1, h2⟩
    exact ⟨e.1, List.mem_range.2 h1, List.mem_map.2 ⟨e.2, (mem_list (getD_gs h e.1).ws e.2).2 h2, rfl⟩⟩
theorem edW_mem {N : Nat} {L : List (List Nat)} (h : ∀ s ∈ L, Gs N s) (e : Ed) : e ∈ edW L ↔ e.1 < L.length ∧ bit (L.getD e.1 []) e.2 = true := edk_mem h _ e
theorem edW_lt {N : Nat} {L : List (List Nat)} (h : ∀ s ∈ L, Gs N s) (hL : L.length = N) : ∀ e ∈ edW L, e.1 < N ∧ e.2 < N := fun e he => by
  obtain ⟨h1, h2⟩ := (edW_mem h e).1 he
  exact ⟨by omega, (getD_gs h e.1).lt e.2 h2⟩
theorem ls_len {N : Nat} {s : List Nat} (h : Gs N s) : (ls 0 s).length ≤ N := by
  have hn : (ls 0 s).Nodup := (ls_rise s 0 h.ws).imp fun h => by omega
  have := hn.length_le_of_subset (l₂ := List.range N) (fun m hm => List.mem_range.2 (h.lt m ((mem_list h.ws m).1 hm)))
  simpa using this
theorem edk_len {N : Nat} {L : List (List Nat)} (h : ∀ s ∈ L, Gs N s) : ∀ k, (edk L k).length ≤ k * N
  | 0 => by simp [edk]
  | k + 1 => by
    rw [edk_succ, List.length_append, List.length_map, Nat.add_mul, Nat.one_mul]
    exact Nat.add_le_add (edk_len h k) (ls_len (getD_gs h k))
end Go.Proofs.YtkjmddgnfgbioaaDoor.Gr


namespace Go.Proofs.YtkjmddgnfgbioaaDoor
set_option linter.unusedVariables false
set_option linter.unusedSimpArgs false
set_option maxRecDepth 100000
open Go.RowKit Go.Shelf

attribute [local go_sem] Oper.semAt_some

theorem info_edge : (Tryd.prog.info? 75).map (fun i => (i.zero, i.size, i.bytes)) = some (some (.agg #[.int .i64 0, .int .i64 0]), 2, 16) := by kernel_rfl

set_option maxRecDepth 100000 in
set_option maxHeartbeats 4000000 in
theorem edges_any (N : Nat) (L : List (List Nat)) (w : World) (v : Value) (hL : SlW w v L) (hg : ∀ s ∈ L, Bs.Gs N s) (hN : N ≤ 200) (hLl : L.length ≤ 200) (hT : Tab w) :
    Calls Tryd.prog 88 #[v] w fun e w' => ∃ u, e = .returned u ∧ (SlV w' 2 u (Gr.edW L).length (edcs (Gr.edW L)) ∧ New w.heap.size u) ∧ Below w.heap.size w w' := by
  obtain ⟨os, ⟨A, c, rfl, hle, hm, hlen, hc⟩, hos⟩ := hL
  obtain ⟨m, hml⟩ : ∃ m, m = L.length := ⟨_, rfl⟩
  rw [← hml] at hlen hle hLl ⊢
  refine (callsIn_wide (n := 4)).1 ?_
  refine callsIn_of_wp_marks Tryd.func88 rfl trivial ?_ rfl
  simp only [Tryd.ntmps88, List.size_toArray, List.length_cons, List.length_nil, Nat.reduceAdd, Nat.reduceSub, Array.replicate_succ, Array.replicate_zero, List.push_toArray, List.append_toArray, List.nil_append, List.cons_append]
  refine wpIn_wide.2 ?_
  have hba : Below w.heap.size w (w.alloc (.cells #[.slice none 0 0] 70)) := below_alloc (Below.refl _ _) _
  have hbx := Boxed.new w 70 (.slice none 0 0)
  have HM := Lib.hid hml
  have HG := Lib.hid hg
  have HT := Lib.hid hT
  have HC := Lib.hid hc
  have HLN := Lib.hid hlen
  clear hml hg hc hT hlen
  go_wp2_with fail
  have hz5 : (w.alloc (.cells #[.slice none 0 0] 70)).heap.size = w.heap.size + 1 := by simp
  generalize w.alloc (.cells #[.slice none 0 0] 70) = W5 at hba hbx hz5 ⊢
  refine (wpIn_wide (n := 4)).1 ?_
  refine wpIn_loop (fun a W => ∃ (k : Nat) (Ds : List Nat) (u4 u5 u10 u11 u12 u13 u14 u15 u23 : Value), k ≤ m ∧ (∃ u, Boxed W w.heap.size 70 u ∧ W.ownsRow (w.heap.size + 1) 75 2 u (Gr.edk L k).length (edcs (Gr.edk L k)) ∧ True) ∧ Below w.heap.size w W ∧ (Ds.Nodup ∧ ∀ D ∈ Ds, w.heap.size + 1 ≤ D ∧ W.heap[D]? = some (.deferred (some []))) ∧ a = { tmps := #[.slice A m c, undef, .slice none 0 0, .pointer (some ⟨w.heap.size, 0, none⟩), u4, u5, undef, .slice A m c, .int .i64 (m : Int), .int .i64 (k : Int), u10, u11, u12, u13, u14, u15, undef, undef, undef, undef, undef, undef, undef, u23, undef], defers := Ds.map markOf }) (fun a _ => m - (intOf (a.tmps.getD 9 undef)).toNat) ?_ ?_
  · exact ⟨0, [], undef, undef, undef, undef, undef, undef, undef, undef, undef, Nat.zero_le _, ⟨_, hbx, World.ownsRow_nil _ _ _ _, trivial⟩, hba, ⟨List.nodup_nil, fun D hD => by cases hD⟩, rfl⟩
  · rintro a W ⟨k, Ds, u4, u5, u10, u11, u12, u13, u14, u15, u23, hk, ⟨u, hbx1, hown, -⟩, hbW, hDs, rfl⟩
    clear hbx hba hz5
    dsimp only
    have hpl := Gr.edk_len HG.out k
    have hpb : k * N ≤ 40000 := Nat.mul_le_mul (by omega : k ≤ 200) hN
    have hbl := hbx1.lt
    by_cases hlt : k < m
    · obtain ⟨xs, hxs⟩ : ∃ s, L[k]? = some s := ⟨_, List.getElem?_eq_getElem (by have := HM.out; omega)⟩
      have hxD : L.getD k [] = xs := by rw [List.getD_eq_getElem?_getD, hxs, Option.getD_some]
      have hgx := HG.out xs (List.mem_of_getElem? hxs)
      obtain ⟨vk, hvk⟩ : ∃ v, os[k]? = some v := by
        rcases h : os[k]? with _ | v
        · have h1 := List.getElem?_eq_none_iff.1 h
          have := HLN.out
          omega
        · exact ⟨v, rfl⟩
      have sx := hos k vk xs hvk hxs
      obtain ⟨aA, ac, rfl⟩ := slU_form sx
      obtain ⟨g, o, hAg, hgl, hcell⟩ := HC.out.at_ (fun e => by rw [e] at hvk; simp at hvk)
      subst hAg
      have ck : W.cell? ⟨g, o + k, none⟩ = some (.slice aA xs.length ac) := (hbW.cell (p := ⟨g, o + k, none⟩) hgl).trans (hcell k _ hvk)
      have hT0 := HT.out
      obtain ⟨q, hq⟩ : ∃ q, q = W.heap.size := ⟨_, rfl⟩
      have bI := (Boxed.new W 3 (.int .i64 (k : Int))).alloc (.cells #[.slice aA xs.length ac] 91)
      have bQ := Boxed.new (W.alloc (.cells #[.int .i64 (k : Int)] 3)) 91 (.slice aA xs.length ac)
      simp only [World.size_alloc] at bQ
      have bO := (hbx1.alloc (.cells #[.int .i64 (k : Int)] 3)).alloc (.cells #[.slice aA xs.length ac] 91)
      have oO := (hown.alloc (.cells #[.int .i64 (k : Int)] 3)).alloc (.cells #[.slice aA xs.length ac] 91)
      have hbA : Below W.heap.size W ((W.alloc (.cells #[.int .i64 (k : Int)] 3)).alloc (.cells #[.slice aA xs.length ac] 91)) := below_alloc (below_alloc (Below.refl _ _) _) _
      have hzA : ((W.alloc (.cells #[.int .i64 (k : Int)] 3)).alloc (.cells #[.slice aA xs.length ac] 91)).heap.size = W.heap.size + 2 := by simp
      have HC2 := Lib.hid (And.intro hcell (And.intro hvk hxs))
      clear hvk hcell hxs
      gi_wp2_with fail
      refine ⟨trivial, (all_gen 2 _ _ _ _).mono ?_⟩
      rintro e w' ⟨rfl, rfl⟩
      gi_wp2_with fail
      obtain ⟨W2, hW2⟩ : ∃ W2, (W.alloc (.cells #[.int .i64 (k : Int)] 3)).alloc (.cells #[.slice aA xs.length ac] 91) = W2 := ⟨_, rfl⟩
      rw [hW2] at bI bQ bO oO hbA hzA ⊢
      clear hW2
      have hsW := hbW.size
      have keyN : ∀ W' wr, Below W2.heap.size W2 W' → KpQ w.heap.size (W.heap.size + 1) W' wr → Nums w wr := fun W' wr hW hk => ⟨by have := hk.1; have := hW.size; omega, fun p i x hx => by
        have hp := World.block_lt_of_cell? w p hx
        exact (World.cell?_of_block (hk.2.1 _ hp)).trans ((hW.cell (by omega)).trans ((hbA.cell (by omega)).trans ((hbW.cell hp).trans hx)))⟩
      have stA := all_gen_stops 2 (W.heap.size + 1) ac aA xs sx.2 (by have := hgx.length; omega) (KpQ w.heap.size (W.heap.size + 1)) (KpQ.refl _ _) (fun h k => h.trans k) W2
        (fun W' wr hW hk => (hk.2.2 _ (bQ.kept (grown_of_below hW none) (by simp))).cell)
        (fun W' wr hW hk => ⟨_, by
          obtain ⟨⟨A', c', e, -, -, -, h4⟩, -⟩ := sx.nums (keyN W' wr hW hk)
          injection e with e1 e2 e3
          subst e1
          exact h4⟩)
        (fun W' wr hW hk => hT0.nums (keyN W' wr hW hk))
      have hll := Gr.ls_len hgx
      have hDs2 : ∀ D ∈ Ds, W2.heap[D]? = some (.deferred (some [])) := fun D hD => (hbA.block D (Array.getElem?_eq_some_iff.1 (hDs.2 D hD).2).1).trans (hDs.2 D hD).2
      have hDlt : ∀ D ∈ Ds, D < W.heap.size := fun D hD => (Array.getElem?_eq_some_iff.1 (hDs.2 D hD).2).1
      have hbW2 := hbW.trans (hbA.mono hsW)
      have HX := Lib.hid (And.intro hxD (And.intro hpl hpb))
      clear keyN hpl sx hq bQ hgx hT0
      refine wpIn_rangeFunc_ownH rfl (by omega) (gf := 99) (lb := #[.pointer (some ⟨W.heap.size + 1, 0, none⟩)]) rfl trivial (enters_of Tryd.func99 (by kernel_rfl) rfl)
        stA (fun h k => h.trans k) (fun W' l o o' hl ho h1 h2 => KpQ.put (by omega) ho h1) (Below.refl _ _) (fun _ => rfl)
        (fun pre W' => ((∃ u, Boxed W' w.heap.size 70 u ∧ W'.ownsRow (w.heap.size + 1) 75 2 u ((Gr.edk L k).length + pre.length) (edcs (Gr.edk L k ++ pre.map fun x => (k, x.1))) ∧ True) ∧ Boxed W' W.heap.size 3 (.int .i64 (k : Int))) ∧ (Below w.heap.size w W' ∧ ∀ D ∈ Ds, W'.heap[D]? = some (.deferred (some []))))
        (fun _ _ _ => False)
        (OwnFrom.and (OwnFrom.and (Own.from (holdsRow_own (w.heap.size + 1) w.heap.size 70 75 2 (fun pre : List { x : Nat // x ∈ Bs.ls 0 xs } => (Gr.edk L k).length + pre.length) (fun pre => edcs (Gr.edk L k ++ pre.map fun x => (k, x.1))) (fun _ _ => True)) _) (Own.from (boxed_own _ _ _) _)) (OwnFrom.and (ownFrom_below (Nat.le_refl _) (by omega)) (fun s X Y row hs hg hr D hD => (hg.block D (Array.getElem?_eq_some_iff.1 (hs D hD)).1 (fun e => by have := (hr D e.symm).1; have := hDlt D hD; omega)).trans (hs D hD))))
        (fun _ _ _ _ _ hs _ _ => hs)
        ⟨⟨⟨u, bO, by simpa using oO, trivial⟩, bI⟩, hbW2, hDs2⟩
        (fun x a' W' => a' = { tmps := #[.slice (some ⟨g, o, none⟩) m c, undef, .slice none 0 0, .pointer (some ⟨w.heap.size, 0, none⟩), .pointer (some ⟨W.heap.size, 0, none⟩), .slice aA xs.length ac, .int .i64 (x.1 : Int), .slice (some ⟨g, o, none⟩) m c, .int .i64 (m : Int), .int .i64 (k : Int), .bool true, .int .i64 (k : Int), .pointer (some ⟨g, o + k, none⟩), .slice aA xs.length ac, .slice aA xs.length ac, .func (.func 99) #[] #[.pointer (some ⟨W.heap.size + 1, 0, none⟩)], .int .i64 (x.1 : Int), undef, undef, undef, undef, undef, undef, u23, undef], defers := [] })
        (fun x a' _ X Y row hs hg hr => hs)
        ?assign ?body ?done ?stop
      case assign =>
        rintro l pre x W' K hI hK
        gi_wp2
        exact hK _ _ (KeepsFrom.refl _ _) (KpQ.refl _ _ _) hI rfl
      case body =>
        rintro l pre x a' W' hl ⟨r, hr⟩ ⟨⟨⟨u, b1, b2, -⟩, b3⟩, b4, b5⟩ rfl hlt'
        have hlW : l < W'.heap.size := (Array.getElem?_eq_some_iff.1 hr).1
        have hzW : w.heap.size + 1 ≤ W'.heap.size := by omega
        have c0 := b1.cell
        have f0 := b1.frozen
        have cI := b3.cell
        obtain ⟨U, uc, rfl, hu1, hu2⟩ := own_slice b2
        obtain ⟨i, hi, hz0, hz1, hz2⟩ := info_parts info_edge
        have hN : (Gr.edk L k).length + pre.length ≤ 4294967296 := by have := HX.out.2.1; have := HX.out.2.2; omega
        have n1 : (Gr.edk L k).length + pre.length + 1 ≤ maxLen := by unfold maxLen; omega
        have n2 : ((Gr.edk L k).length + pre.length + 1) * 16 ≤ 140737488355328 := by omega
        have hnew : ∀ j u, [Value.int .i64 (k : Int), Value.int .i64 (x.1 : Int)][j]? = some u → (W'.alloc (.cells #[.int .i64 (k : Int), .int .i64 (x.1 : Int)] 75)).cell? ((⟨W'.heap.size, 0, none⟩ : Addr).add j) = some u := fun j u hu => by
          rw [Addr.add_lit, Nat.zero_add]
          exact ((Blk.new W' 75 [.int .i64 (k : Int), .int .i64 (x.1 : Int)]).cell j).trans hu
        have hte : (70 : TypeId) ≠ 75 := by decide
        have hte2 : (91 : TypeId) ≠ 75 := by decide
        have hte3 : (3 : TypeId) ≠ 75 := by decide
        have hone : ∀ u ∈ [Value.int .i64 (k : Int), Value.int .i64 (x.1 : Int)], u.oneCell' = true := fun u hu => by
          simp at hu
          rcases hu with rfl | rfl <;> rfl
        obtain ⟨len, hlen⟩ : ∃ len, len = (Gr.edk L k).length + pre.length := ⟨_, rfl⟩
        rw [← hlen] at b2 c0 hu1 n1 n2 hN
        have HL := Lib.hid hlen
        clear hlen
        gi_wp2_with (first | (refine wpListIn_append_own _ rfl _ _ _ rfl (w.heap.size + 1) 75 i (.agg #[.int .i64 0, .int .i64 0]) 2 16 Tryd.underlying70 hi hz0 hz1 hz2 rfl (by decide) (.slice U len uc) _ _ rfl (b2.alloc _) _ 1 1 [.int .i64 (k : Int), .int .i64 (x.1 : Int)] rfl rfl hnew hone n1 n2 (by simp; omega) ?_; intro v' w1 hown' hgrow _; have hbx1 := (b1.alloc (.cells #[.int .i64 (k : Int), .int .i64 (x.1 : Int)] 75)).kept hgrow (b1.not_row hte b2); have c1 := hbx1.cell; have f1 := hbx1.frozen; obtain ⟨gg, cap', rfl⟩ := ownsRow_succ hown') | fail)
        have hge := own_ge b2
        have kf := ((KeepsOthers.alloc W' (.cells #[.int .i64 (k : Int), .int .i64 (x.1 : Int)] 75)).trans (KeepsOthers.of_grownBy hgrow fun j o ej hj => by
          rcases (b2.alloc (.cells #[.int .i64 (k : Int), .int .i64 (x.1 : Int)] 75)).2 with ⟨e, _⟩ | ⟨g, cap, cur, e, _, hgb, _⟩
          · rw [e] at ej
            simp [Value.ownBlock] at ej
          · rw [e] at ej
            obtain rfl : g = j := by simpa [Value.ownBlock] using ej
            rw [hgb] at hj; cases hj; rfl)).trans (KeepsOthers.setCell w1 ⟨w.heap.size, 0, none⟩ (.slice (some ⟨gg, 0, none⟩) (len + 1) cap'))
        have hsz1 := hgrow.size
        have hsz2 := (grownBy_setCell' w1 w.heap.size (.slice (some ⟨gg, 0, none⟩) (len + 1) cap')).size
        have hsz3 : (W'.alloc (.cells #[.int .i64 (k : Int), .int .i64 (x.1 : Int)] 75)).heap.size = W'.heap.size + 1 := by simp
        have hrow := hown'.kept (grownBy_setCell' w1 w.heap.size (.slice (some ⟨gg, 0, none⟩) (len + 1) cap')) (.inr (hbx1.not_row hte hown').symm)
        refine ⟨kf.from _, ⟨?_, fun k' hk' => ?_, fun v hv => ?_⟩, ⟨⟨_, hbx1.set _, ?_, trivial⟩, ?_⟩, ?_, fun D hD => kf.same D _ (b5 D hD) rfl⟩
        · omega
        · have h1 := (grownBy_setCell' w1 w.heap.size (.slice (some ⟨gg, 0, none⟩) (len + 1) cap')).block k' (by omega) (fun e => by injection e; omega)
          have h2 := hgrow.block k' (by omega) (fun e => by have := hge k' e.symm; omega)
          exact h1.trans (h2.trans (Below.heap_alloc W' _ k' (by omega)))
        · exact ((hv.alloc (.cells #[.int .i64 (k : Int), .int .i64 (x.1 : Int)] 75)).kept hgrow (hv.not_row hte2 b2)).other (by omega) _
        · have := HL.out
          rw [List.length_append, List.length_singleton, ← Nat.add_assoc, ← this]
          simpa [edcs, edc] using hrow
        · exact ((b3.alloc (.cells #[.int .i64 (k : Int), .int .i64 (x.1 : Int)] 75)).kept hgrow (b3.not_row hte3 b2)).other (by omega) _
        · exact b4.trans ((((Below.refl w.heap.size W').alloc (by omega) _).grown hgrow (by simp; omega) (fun k e => by have := hge k e; omega)).setCell (p := ⟨w.heap.size, 0, none⟩) (by show w.heap.size ≤ w.heap.size; omega) _)
      case done =>
        rintro D ys W' hD hys ⟨⟨⟨u, b1, b2, -⟩, b3⟩, b4, b5⟩ hKD
        have hcells : edcs (Gr.edk L k ++ ys.map fun x => (k, x.1)) = edcs (Gr.edk L (k + 1)) ∧ (Gr.edk L k).length + ys.length = (Gr.edk L (k + 1)).length := by
          have e : (ys.map fun x => (k, x.1)) = (Bs.ls 0 xs).map fun j => (k, j) := by
            have := congrArg (List.map fun j => (k, j)) hys
            rw [List.map_map] at this
            exact this
          have e2 : ys.length = (Bs.ls 0 xs).length := by
            have := congrArg List.length hys
            rw [List.length_map] at this
            exact this
          rw [Gr.edk_succ, HX.out.1, e, List.length_append, List.length_map, e2]
          exact ⟨rfl, rfl⟩
        rw [hcells.1, hcells.2] at b2
        gi_wp2
        refine ⟨⟨k + 1, D :: Ds, _, _, _, _, _, _, _, _, _, by omega, ⟨u, b1, b2, trivial⟩, b4, ⟨List.nodup_cons.2 ⟨fun h => by have := hDlt D h; omega, hDs.1⟩, fun D' hD' => ?_⟩, rfl⟩, ?_⟩
        · rcases List.mem_cons.1 hD' with rfl | h
          · exact ⟨by omega, hKD⟩
          · exact ⟨(hDs.2 D' h).1, b5 D' h⟩
        · simp [intOf]
          omega
      case stop =>
        rintro D c pre W' hD _ hF hK
        exact hF.elim
    · have HK := Lib.hid (show k = m by omega)
      have c0 := hbx1.cell
      clear hpl hpb
      gi_wp2
      go_wp2
      refine leaves_marks (w.heap.size + 1) (fun W => W.ownsRow (w.heap.size + 1) 75 2 u (Gr.edk L k).length (edcs (Gr.edk L k)) ∧ Below w.heap.size w W) (fun W D hD hT hd => ?_) (fun W hT => ?_) Ds W hDs.1 hDs.2 ⟨hown, hbW⟩
      · have hg := grownBy_putObj' W D (.deferred none)
        exact ⟨ownsRow_putObj hT.1 _ hd rfl, hT.2.grown hg hT.2.size (fun i e => by cases e; omega)⟩
      · refine ⟨u, by simp [results, Tryd.results88, go_sem], u, rfl, ?_, hT.2⟩
        have := SlV.of_own hT.1
        have e : Gr.edW L = Gr.edk L k := by unfold Gr.edW; rw [HK.out, HM.out]
        rw [e]
        refine ⟨this, fun p hp => ?_⟩
        rcases hT.1.2 with ⟨h1, -⟩ | ⟨g, cap, cur, h1, h2, -⟩
        · rw [h1] at hp
          cases hp
        · rw [h1] at hp
          injection hp with hp
          rw [← hp]
          show w.heap.size ≤ g
          omega
end Go.Proofs.YtkjmddgnfgbioaaDoor


namespace Go.Proofs.YtkjmddgnfgbioaaDoor
set_option linter.unusedVariables false
set_option linter.unusedSimpArgs false
set_option maxRecDepth 100000
open Go.RowKit

/-- a cell and a slot are the results -/
theorem results_cell_tmp {P : Go.Program} {fn : Func} {p u : Tmp} {ty : TypeId} (h : fn.results = #[.cell p ty, .tmp u]) (tmps : Array Value) (w : World) (g : Nat) (t : TypeId) (cs : Array Value) (fr : Nat × Nat) (d : TypeDesc)
    (hp : tmps.getD p undef = .pointer (some ⟨g, 0, none⟩)) (hg : w.heap[g]? = some (.cells cs t fr))
    (hu : P.underlying ty = some d) (hd : (match d with | .struct _ | .array _ _ => true | _ => false) = true) (hi : (P.info? ty).map (·.size) = some cs.size) :
    (results fn tmps).run P w = .ok (.tuple #[.agg cs, tmps.getD u undef]) w := by
  have hp' : tmps[p]?.getD undef = .pointer (some ⟨g, 0, none⟩) := by simpa using hp
  simp [results, h, hp', asAddr, run_loadVar_row w g t ty cs fr d hg hu hd hi]
theorem ret_blk2 {P : Go.Program} {fn : Func} {R : Ending → World → Prop} {a : Act} {w : World} {p u : Tmp} {ty : TypeId} {g : Nat} {t : TypeId} {cs : List Value} (hB : Blk w g t cs) (hr : fn.results = #[.cell p ty, .tmp u]) (hp : a.tmps.getD p undef = .pointer (some ⟨g, 0, none⟩)) {d : TypeDesc}
    (hu : P.underlying ty = some d) (hd : (match d with | .struct _ | .array _ _ => true | _ => false) = true) (hi : (P.info? ty).map (·.size) = some cs.length) (hdf : a.defers = []) (hR : R (.returned (.tuple #[.agg cs.toArray, a.tmps.getD u undef])) w) : bodyPost P fn R .ret a w :=
  bodyPost_ret (results_cell_tmp hr _ _ g t cs.toArray (0, 0) d hp hB hu hd (by simpa using hi)) hdf hR
/-- a graph, as it comes back -/
def IsG (N : Nat) (es : List Gr.Ed) (v : Value) (w : World) : Prop := ∃ u, v = .agg #[.int .i64 (N : Int), u] ∧ SlV w 2 u es.length (edcs es)
theorem IsG.below {N : Nat} {es : List Gr.Ed} {v : Value} {w w' : World} (h : IsG N es v w) (hb : Below w.heap.size w w') : IsG N es v w' := by
  obtain ⟨u, h1, h2⟩ := h
  exact ⟨u, h1, h2.below hb⟩
def FG (B : Nat) (N : Nat) (es : List Gr.Ed) : Fact (fun w w' => Below w.heap.size w w') := ⟨fun v w => ∃ u, v = .agg #[.int .i64 (N : Int), u] ∧ SlV w 2 u es.length (edcs es) ∧ New B u, fun _ _ _ ⟨u, h1, h2, h3⟩ k => ⟨u, h1, h2.below k, h3⟩⟩
def FSlE (B : Nat) (es : List Gr.Ed) : Fact (fun w w' => Below w.heap.size w w') := ⟨fun v w => SlV w 2 v es.length (edcs es) ∧ New B v, fun _ _ _ h k => ⟨h.1.below k, h.2⟩⟩

theorem SlV.form {w : World} {sz n : Nat} {v : Value} {xs : List Value} (h : SlV w sz v n xs) : ∃ A c, v = .slice A n c := by
  obtain ⟨A, c, e, -⟩ := h
  exact ⟨A, c, e⟩

/-- numbers are not turned when a block of no numbers is -/
theorem SlV.other {w w' : World} {sz n g : Nat} {v : Value} {xs : List Value} (h : SlV w sz v n xs) (k : Keeps (fun k => k = g) w w') (hg : ∀ p, ptr v = some p → xs ≠ [] → p.block ≠ g) : SlV w' sz v n xs := by
  obtain ⟨A, c, rfl, h1, h2, h3, b, o, h4, h5⟩ := h
  refine ⟨A, c, rfl, h1, h2, h3, b, o, fun hn => ⟨(h4 hn).1, Nat.lt_of_lt_of_le (h4 hn).2 k.size⟩, fun j u hu => ?_⟩
  have hn : xs ≠ [] := fun e => by rw [e] at hu; simp at hu
  obtain ⟨hA, hb⟩ := h4 hn
  exact (World.cell?_of_block (a := ⟨b, o + j, none⟩) (k.block b hb (hg _ (by rw [hA]; rfl) hn))).trans (h5 j u hu)
end Go.Proofs.YtkjmddgnfgbioaaDoor


namespace Go.Proofs.YtkjmddgnfgbioaaDoor
set_option linter.unusedVariables false
set_option linter.unusedSimpArgs false
set_option maxRecDepth 100000
open Go.RowKit

set_option maxRecDepth 100000 in
set_option maxHeartbeats 4000000 in
theorem closure_yes (N : Nat) (B : List (List Nat)) (w : World) (A : Option Addr) (l c : Nat) (hN : N ≤ 200) (hBl : B.length = N) (hB : ∀ s ∈ B, Bs.Gs N s) (hT : Tab w)
    (hbeh : ∀ w', Below w.heap.size w w' → Calls Tryd.prog 84 #[.agg #[.int .i64 (N : Int), .slice A l c]] w' fun e w'' => ∃ v, e = .returned (.tuple #[v, .int .i64 0]) ∧ SlW w'' v B ∧ Below w'.heap.size w' w'') :
    Calls Tryd.prog 47 #[.agg #[.int .i64 (N : Int), .slice A l c]] w fun e w' => ∃ g, e = .returned (.tuple #[g, .int .i64 0]) ∧ IsG N (Gr.edW B) g w' ∧ Below w.heap.size w w' := by
  have hba : Below w.heap.size w ((w.alloc (.cells #[.int .i64 (N : Int), .slice A l c] 72)).alloc (.cells #[.int .i64 0, .slice none 0 0] 72)) := below_alloc (below_alloc (Below.refl _ _) _) _
  have x0 := (Blk.new w 72 [.int .i64 (N : Int), .slice A l c]).alloc (.cells #[.int .i64 0, .slice none 0 0] 72)
  have y0 := Blk.new (w.alloc (.cells #[.int .i64 (N : Int), .slice A l c] 72)) 72 [.int .i64 0, .slice none 0 0]
  simp only [World.size_alloc] at y0
  obtain ⟨es, hes⟩ : ∃ es, es = Gr.edW B := ⟨_, rfl⟩
  rw [← hes]
  have HES := Lib.hid hes
  clear hes
  have HB := Lib.hid hB
  have HBL := Lib.hid hBl
  have HT := Lib.hid hT
  clear hB hBl hT
  go_enter Tryd.func47, Tryd.ntmps47
  go_upto_region 1 with (fail)
  generalize (w.alloc (.cells #[.int .i64 (N : Int), .slice A l c] 72)).alloc (.cells #[.int .i64 0, .slice none 0 0] 72) = W0 at x0 y0 hba ⊢
  have d0 : W0.cell? ⟨w.heap.size, 0, none⟩ = some (.int .i64 (N : Int)) := (x0.cell 0).trans rfl
  have d1 : W0.cell? ⟨w.heap.size, 1, none⟩ = some (.slice A l c) := (x0.cell 1).trans rfl
  go_wp2_with fail
  refine (hbeh W0 hba).mono ?_
  rintro e w1 ⟨v, rfl, hv, hb1⟩
  have x1 := x0.below hb1
  have y1 := y0.below hb1
  have c0 : w1.cell? ⟨w.heap.size, 0, none⟩ = some (.int .i64 (N : Int)) := (x1.cell 0).trans rfl
  have hb01 := below_next hb1 hba
  have hsz := y1.lt
  clear d0 d1 x0 y0 hbeh hb1 hba
  obtain ⟨A', n', c', rfl⟩ : ∃ A' n' c', v = .slice A' n' c' := by
    obtain ⟨os, ⟨A', c', e, -⟩, -⟩ := hv
    exact ⟨_, _, _, e⟩
  go_upto_region 4 with (fail)
  have hT1 : Tab w1 := fun j hj => (hb01.cell (p := ⟨0, j, none⟩) HT.out.lt).trans (HT.out j hj)
  have hed := fun w' (hb : Below w1.heap.size w1 w') => edges_any N B w' _ (hv.below hb) HB.out hN (by rw [HBL.out]; exact hN) (fun j hj => (hb.cell (p := ⟨0, j, none⟩) hT1.lt).trans (hT1 j hj))
  rw [← HES.out] at hed
  have keepS : ∀ w', Below w1.heap.size w1 w' → Below w1.heap.size w1 w' ∧ w'.cell? ⟨w.heap.size, 0, none⟩ = some (.int .i64 (N : Int)) := fun w' hb => ⟨hb, (hb.cell (p := ⟨w.heap.size, 0, none⟩) x1.lt).trans c0⟩
  have hS0 := keepS _ (below_drew (Below.refl _ _))
  have HH := Lib.hid (And.intro y1 (And.intro hb01 x1))
  clear hv hT1 c0 hb01 x1 y1
  obtain ⟨q, hq⟩ : ∃ q, q = w.heap.size := ⟨_, rfl⟩
  rw [← hq] at keepS hS0 hsz ⊢
  have HQ := Lib.hid hq
  clear hq
  refine wp_walk_tail 5 (by kernel_rfl) (by kernel_rfl) (fun w w' => Below w.heap.size w w') (fun w' => Below w1.heap.size w1 w' ∧ w'.cell? ⟨q, 0, none⟩ = some (.int .i64 (N : Int))) hS0 ?_
  simp only [List.length_cons, List.length_nil, Nat.reduceAdd, Nat.reduceSub, List.take_succ_cons, List.take_zero, List.drop_succ_cons, List.drop_zero]
  repeat (first | (refine settle_skip (fun _ => by rfl) ?_; (simp only [Act.put, List.setIfInBounds_toArray, List.set_cons_zero, List.set_cons_succ])) | (refine' settle_run (fun _ _ => Below.refl _ _) (fun _ => by rfl) ?_ ?_; rotate_left; (focus (intro ρ w hS hF; (try dsimp only at hS); go_split_ands; go_simp; try with_reducible rfl)); (simp only [Act.put, List.setIfInBounds_toArray, List.set_cons_zero, List.set_cons_succ])))
  (refine settle_known (FSlE w1.heap.size es) (by rfl) (fun _ => by rfl)  ?_ ?_; (focus (intro ρ w hS hF K hK; (simp only [Act.put, List.setIfInBounds_toArray, List.set_cons_zero, List.set_cons_succ] at hK); go_simp; (refine (hed _ hS.1).mono ?_; rintro e w' ⟨u, rfl, ⟨h1, h2⟩, hb'⟩; exact hK _ _ ⟨h1, h2.mono hS.1.size⟩ (keepS _ (below_next hb' hS.1)) hb'))); (simp only [Act.put, List.setIfInBounds_toArray, List.set_cons_zero, List.set_cons_succ]))
  (refine settle_known (FG w1.heap.size N es) (by rfl) (fun _ => by rfl)  ?_ ?_; (focus (intro ρ w hS hF K hK; (simp only [Act.put, List.setIfInBounds_toArray, List.set_cons_zero, List.set_cons_succ] at hK); go_simp; (have h18 : SlV w 2 (ρ 18) es.length (edcs es) ∧ New w1.heap.size (ρ 18) := hF.1 (by rfl); generalize ρ 18 = v18 at h18 hK ⊢; obtain ⟨A18, c18, rfl⟩ := h18.1.form; go_simp; exact hK _ _ ⟨_, rfl, h18⟩ hS (Below.refl _ _)))); (simp only [Act.put, List.setIfInBounds_toArray, List.set_cons_zero, List.set_cons_succ]))
  refine settle_nil ?_
  intro ρ wE hS hF
  obtain ⟨u, hu1, hu2, hu3⟩ := hF 19 (FG w1.heap.size N es) (by repeat (first | exact List.mem_cons_self | apply List.mem_cons_of_mem))
  clear hF hS0 keepS hed
  dsimp only
  rw [hu1]
  generalize ρ 18 = v18
  have yE := HH.out.1.below hS.1
  rw [← HQ.out] at yE
  obtain ⟨A18, c18, rfl⟩ := hu2.form
  refine wpl_put_blk yE [.int .i64 (N : Int), .slice A18 es.length c18] (by kernel_rfl) rfl (by intro v hv; simp at hv; rcases hv with rfl | rfl <;> rfl) rfl rfl rfl rfl ?_
  intro w6 hB6 hg6
  have kk : Keeps (fun k => k = q + 1) wE w6 := (Keeps.of_grown hg6).mono fun i hi => by injection hi
  have hwE : Below w.heap.size w wE := below_next hS.1 HH.out.2.1
  have hb6 : Below w.heap.size w w6 := hwE.trans (kk.below hwE.size (fun i hi => by have := HQ.out; omega))
  have hfin := hu2.other kk (fun p hp _ => by have := hu3 p hp; omega)
  have HE := Lib.hid (And.intro hfin hb6)
  clear hfin hb6 hwE kk hg6 yE hu2 hu3 hS
  go_wp2_with fail
  refine ret_blk2 hB6 rfl rfl Tryd.underlying72 rfl (by kernel_rfl) rfl ?_
  exact ⟨_, rfl, ⟨_, rfl, HE.out.1⟩, HE.out.2⟩
end Go.Proofs.YtkjmddgnfgbioaaDoor


namespace Go.Proofs.YtkjmddgnfgbioaaDoor.Gr
set_option linter.unusedVariables false
set_option linter.unusedSimpArgs false
set_option maxRecDepth 100000
open Bs
/-- the set of one node without what is behind the first ones in it -/
def cj (B : List (List Nat)) (s : List Nat) (pre : List Nat) : List Nat := pre.foldl (fun a m => op fless a (B.getD m [])) s
theorem cj_nil (B : List (List Nat)) (s : List Nat) : cj B s [] = s := rfl
theorem cj_snoc (B : List (List Nat)) (s : List Nat) (pre : List Nat) (m : Nat) : cj B s (pre ++ [m]) = op fless (cj B s pre) (B.getD m []) := by
  unfold cj
  rw [List.foldl_append]
  rfl
def core1 (B : List (List Nat)) (i : Nat) : List Nat := cj B (B.getD i []) (ls 0 (B.getD i []))
/-- the first k are done -/
def ck (B : List (List Nat)) (N k : Nat) : List (List Nat) := (List.range N).map fun i => if i < k then core1 B i else []
def coreW (B : List (List Nat)) : List (List Nat) := (List.range B.length).map (core1 B)
theorem ck_zero (B : List (List Nat)) (N : Nat) : ck B N 0 = List.replicate N [] := by
  unfold ck
  apply List.ext_getElem
  · simp
  · intro i h h'; simp
theorem ck_all (B : List (List Nat)) : ck B B.length B.length = coreW B := by
  unfold ck coreW
  refine List.map_congr_left fun i hi => ?_
  rw [if_pos (List.mem_range.1 hi)]
theorem ck_length (B : List (List Nat)) (N k : Nat) : (ck B N k).length = N := by simp [ck]
theorem ck_step (B : List (List Nat)) (N k : Nat) : (ck B N k).set k (core1 B k) = ck B N (k + 1) := by
  unfold ck
  rw [map_set]
  refine List.map_congr_left fun i _ => ?_
  by_cases e : i = k
  · rw [if_pos e, if_pos (by omega), e]
  · rw [if_neg e]
    by_cases h : i < k
    · rw [if_pos h, if_pos (by omega)]
    · rw [if_neg h, if_neg (by omega)]
theorem coreW_length (B : List (List Nat)) : (coreW B).length = B.length := by simp [coreW]
theorem cj_gs {N : Nat} {B : List (List Nat)} (h : ∀ s ∈ B, Gs N s) {s : List Nat} (hs : Gs N s) (pre : List Nat) : Gs N (cj B s pre) := by
  unfold cj
  induction pre generalizing s with
  | nil => exact hs
  | cons m l ih => exact ih (hs.less (getD_gs h m).ws)
theorem cj_bit {N : Nat} {B : List (List Nat)} (h : ∀ s ∈ B, Gs N s) (x : Nat) : ∀ (pre : List Nat) {s : List Nat}, Gs N s → (bit (cj B s pre) x = true ↔ bit s x = true ∧ ∀ m ∈ pre, bit (B.getD m []) x = false)
  | [], s, _ => by simp [cj]
  | m :: l, s, hs => by
    show bit (cj B (op fless s (B.getD m [])) l) x = true ↔ _
    rw [cj_bit h x l (hs.less (getD_gs h m).ws), bit_less hs.ws (getD_gs h m).ws, Bool.and_eq_true, Bool.not_eq_true']
    constructor
    · rintro ⟨⟨a, b⟩, c⟩
      exact ⟨a, fun m' hm => (List.mem_cons.1 hm).elim (fun e => e ▸ b) (c m')⟩
    · rintro ⟨a, b⟩
      exact ⟨⟨a, b m List.mem_cons_self⟩, fun m' hm => b m' (List.mem_cons_of_mem _ hm)⟩
theorem core1_gs {N : Nat} {B : List (List Nat)} (h : ∀ s ∈ B, Gs N s) (i : Nat) : Gs N (core1 B i) := cj_gs h (getD_gs h i) _
theorem coreW_gs {N : Nat} {B : List (List Nat)} (h : ∀ s ∈ B, Gs N s) : ∀ s ∈ coreW B, Gs N s := fun s hs => by
  obtain ⟨i, -, rfl⟩ := List.mem_map.1 hs
  exact core1_gs h i
theorem core1_bit {N : Nat} {B : List (List Nat)} (h : ∀ s ∈ B, Gs N s) (i x : Nat) : bit (core1 B i) x = true ↔ bit (B.getD i []) x = true ∧ ∀ m, bit (B.getD i []) m = true → bit (B.getD m []) x = false := by
  unfold core1
  rw [cj_bit h x _ (getD_gs h i)]
  refine and_congr Iff.rfl ⟨fun H m hm => H m ((mem_list (getD_gs h i).ws m).2 hm), fun H m hm => H m ((mem_list (getD_gs h i).ws m).1 hm)⟩
theorem coreW_getD (B : List (List Nat)) {i : Nat} (hi : i < B.length) : (coreW B).getD i [] = core1 B i := by
  unfold coreW
  rw [List.getD_eq_getElem?_getD, List.getElem?_map, List.getElem?_range hi]
  rfl
end Go.Proofs.YtkjmddgnfgbioaaDoor.Gr


namespace Go.Proofs.YtkjmddgnfgbioaaDoor
set_option linter.unusedVariables false
set_option linter.unusedSimpArgs false
set_option maxRecDepth 100000
open Go.RowKit Go.Shelf

def SwR (w : World) (g : Nat) (L : List (List Nat)) : Prop := ∃ vs : List Value, vs.length = L.length ∧ Blk w g 22 vs ∧ ∀ (i : Nat) (v : Value) (s : List Nat), vs[i]? = some v → L[i]? = some s → SlU w v s
theorem SwR.lt {w : World} {g : Nat} {L : List (List Nat)} (h : SwR w g L) : g < w.heap.size := by
  obtain ⟨vs, h1, h2, h3⟩ := h
  exact h2.lt
/-- no number lies in it -/
theorem SwR.no_num {w : World} {g : Nat} {L : List (List Nat)} (h : SwR w g L) {p : Addr} {k : IntKind} {x : Int} (hp : w.cell? p = some (.int k x)) : p.block ≠ g := by
  obtain ⟨vs, h1, h2, h3⟩ := h
  intro e
  have hc : p = ⟨g, p.off, none⟩ := by
    obtain ⟨b, o, s⟩ := p
    have := World.cell?_spot hp
    simp only at e this
    rw [e, this]
  rw [hc, h2.cell] at hp
  obtain ⟨s, hs⟩ : ∃ s, L[p.off]? = some s := ⟨_, List.getElem?_eq_getElem (by have := (List.getElem?_eq_some_iff.1 hp).1; omega)⟩
  obtain ⟨A, c, hv⟩ := slU_form (h3 _ _ _ hp hs)
  cases hv
theorem SwR.nums_of {w w' : World} {g : Nat} {L : List (List Nat)} (h : SwR w g L) (hk : Keeps (fun k => k = g) w w') : Nums w w' :=
  ⟨hk.size, fun p _ _ hp => (World.cell?_of_block (hk.block _ (World.block_lt_of_cell? w p hp) (h.no_num hp))).trans hp⟩
theorem SwR.keep {w w' : World} {g : Nat} {L : List (List Nat)} (h : SwR w g L) (hn : Nums w w') (hb : w'.heap[g]? = w.heap[g]?) : SwR w' g L := by
  obtain ⟨vs, h1, h2, h3⟩ := h
  exact ⟨vs, h1, hb.trans h2, fun i v s hv hs => (h3 i v s hv hs).nums hn⟩
theorem SwR.below {w w' : World} {g : Nat} {L : List (List Nat)} (h : SwR w g L) (hb : Below w.heap.size w w') : SwR w' g L := h.keep (Nums.of_below hb) (hb.block g h.lt)
theorem nums_own {W W' : World} {row : Option Nat} (hg : W.grownBy W' row) (hr : ∀ r, row = some r → ∃ o : Obj, W.heap[r]? = some o ∧ o.isCells = false) : Nums W W' := ⟨hg.size, fun _ _ _ hx => cell_kept hx hg hr⟩
theorem SwR.own {β : Type} {g : Nat} (L : β → List (List Nat)) : Go.Own (fun s W => SwR W g (L s)) := fun s W W' row h hg hr =>
  h.keep (nums_own hg hr) (hg.block g h.lt (fun e => by
    obtain ⟨o, ho, hc⟩ := hr g e.symm
    obtain ⟨vs, h1, h2, h3⟩ := h
    unfold Blk at h2
    rw [h2] at ho
    cases ho
    cases hc))
/-- one row is put anew -/
theorem SwR.put {w w' : World} {g i : Nat} {L : List (List Nat)} {s : List Nat} {u : Value} (h : SwR w g L) (hu : SlU w u s) {vs : List Value} (hv : Blk w g 22 vs) (hB : Blk w' g 22 (vs.set i u)) (hg : w.grownBy w' (some g)) : SwR w' g (L.set i s) := by
  have hn := h.nums_of (Keeps.mono (Keeps.of_grown hg) (fun k hk => by injection hk))
  obtain ⟨vs', h1, h2, h3⟩ := h
  have e : vs' = vs := by
    unfold Blk at hv h2
    rw [h2] at hv
    injection hv with hv
    injection hv with hv
    exact congrArg Array.toList hv
  subst e
  refine ⟨_, by rw [List.length_set, List.length_set]; exact h1, hB, fun j v t hj ht => ?_⟩
  rw [List.getElem?_set] at hj ht
  split at hj
  · rename_i e
    subst e
    rw [if_pos rfl] at ht
    split at hj
    · injection hj with hj
      subst hj
      rw [if_pos (by omega)] at ht
      injection ht with ht
      subst ht
      exact hu.nums hn
    · cases hj
  · rename_i e
    rw [if_neg e] at ht
    exact (h3 j v t hj ht).nums hn
theorem ownFrom_keeps {β : Type} {S : Nat → Prop} {B : Nat} {w₀ : World} (hB : w₀.heap.size ≤ B) : OwnFrom B (fun (_ : β) W => Keeps S w₀ W) := fun _ X Y row hs hg hr =>
  hs.step (Keeps.of_grown hg) fun i hi e => by have := (hr i e.symm).1; omega
theorem kpP_of_keeps {n₀ g : Nat} {W W' : World} (h : Keeps (fun k => k = g) W W') (hn : n₀ ≤ W.heap.size) : KpP n₀ g W W' := ⟨h.size, fun k hk hne => h.block k (by omega) hne⟩
theorem SwR.slW {w : World} {g : Nat} {L : List (List Nat)} (h : SwR w g L) (hL : L.length ≤ maxLen) : SlW w (.slice (some ⟨g, 0, none⟩) L.length L.length) L := by
  have hlt := h.lt
  obtain ⟨vs, h1, h2, h3⟩ := h
  refine ⟨vs, ⟨_, _, rfl, Nat.le_refl _, hL, by omega, g, 0, fun _ => ⟨rfl, hlt⟩, fun j u hu => by rw [Nat.zero_add, h2.cell]; exact hu⟩, h3⟩
end Go.Proofs.YtkjmddgnfgbioaaDoor


namespace Go.Proofs.YtkjmddgnfgbioaaDoor
set_option linter.unusedVariables false
set_option linter.unusedSimpArgs false
set_option maxRecDepth 100000
open Go Go.RowKit

section
variable {P : Program} {ops : Array Oper} {Q : Exit → Act → World → Prop} {l n : Nat}

theorem operIn_of {o : Oper} {a : Act} {w : World} {K : Act → World → Prop} (hd : ∀ c, o.op ≠ .defer c) (h : o.wp P a w K Q) : o.wpIn (Fence.wide.inRound l) n P a w K Q := by
  refine ⟨fun f _ => trivial, ?_⟩
  rw [Fence.inRound_round, Oper.semAt_some l _ _ hd]
  unfold Oper.wp at h
  generalize (execOp a.eval o).run P w = r at h ⊢
  cases r with
  | ok x w' =>
    cases x with
    | enter f args => exact ⟨fun h' => (nomatch h'), CallsIn.inRound l (callsIn_wide.2 h)⟩
    | row row args =>
      refine ⟨fun h' => (nomatch h'), fun c cs _ => ?_⟩
      obtain ⟨v, w', r, s⟩ := h c cs
      exact ⟨v, w', r, stepsIn_wide.2 s⟩
    | value v => exact h
    | skip => exact h
    | defer d => exact h
    | _ => exact h.elim
  | halt x w' => cases x <;> exact h

theorem opIn_of {i : Nat} {a : Act} {w : World} {K : Act → World → Prop} (hd : ∀ o, ops[i]? = some o → ∀ c, o.op ≠ .defer c) (hL : ¬ LetsOut Q) (h : wpOp P ops Q i K a w) : wpOpIn (Fence.wide.inRound l) n P ops Q i K a w := by
  unfold wpOp at h
  unfold wpOpIn
  rcases ho : ops[i]? with _ | o
  · rw [ho] at h
    exact h
  · simp only [ho] at h ⊢
    split
    · rename_i hw
      rw [if_pos hw] at h
      rcases h with h | ⟨_, h⟩
      · exact operIn_of (hd o ho) h
      · exact (hL h).elim
    · rename_i hw
      rw [if_neg hw] at h
      exact ⟨fun _ _ => trivial, h⟩

theorem anyIn_of (hd : ∀ (i : Nat) (o : Oper), ops[i]? = some o → ∀ c, o.op ≠ .defer c) (hL : ¬ LetsOut Q) : ∀ (fuel : Nat) (listed : Array Bool) (a : Act) (w : World), wpAny P .any ops Q fuel listed a w → wpAnyIn (Fence.wide.inRound l) n P .any ops Q fuel listed a w
  | 0, _, _, _, h => h
  | fuel + 1, listed, a, w, h => ⟨h.1, fun i hi => wpOpIn_mono (fun a w h' => anyIn_of hd hL fuel _ a w h') (opIn_of (hd i) hL (h.2 i hi))⟩

def noDefer (ops : Array Oper) : Bool := ops.all fun o => match o.op with | .defer _ => false | _ => true
theorem noDefer_spec (h : noDefer ops = true) : ∀ (i : Nat) (o : Oper), ops[i]? = some o → ∀ c, o.op ≠ .defer c := fun i o ho c hc => by
  obtain ⟨hi, rfl⟩ := Array.getElem?_eq_some_iff.1 ho
  have := (Array.all_eq_true.1 h) i hi
  rw [hc] at this
  cases this

variable {E : World → World → Prop} {S : World → Prop}
theorem wpIn_walk_tail {id : Nat} {a : Act} {w : World} {l : List Oper} {r : Nat} (k : Nat) (hm : P.follows .mixedOrders = true) (hB : (tailB l.toArray k && noDefer l.toArray) = true) (hL : ¬ LetsOut Q) (E : World → World → Prop) (S : World → Prop) (hS : S w.drew)
    (h : Walk P l.toArray S E (fun A Fs => ∀ ρ w', S w' → (∀ t F, (t, F) ∈ Fs → F.holds (ρ t) w') → wpList P l.toArray Q (l.drop k) (A ρ) w') (l.take k) (fun _ => a) []) : (Code.region id l.toArray true).wpIn (Fence.wide.inRound r) n P Q a w := by
  rw [Bool.and_eq_true] at hB
  obtain ⟨hB, hno⟩ := hB
  simp only [tailB, Bool.and_eq_true, decide_eq_true_eq] at hB
  obtain ⟨⟨⟨⟨hn, hlin⟩, hs⟩, hc⟩, hq⟩ := hB
  obtain ⟨full, hp, he, hZ⟩ := settle_plan (l.take k) [] ⟨(fun _ h => by cases h), (fun pre p post he => by simp at he)⟩ h.out
  have inv0 : HeadInv .any l.toArray k (Array.replicate l.toArray.size false) :=
    ⟨by simp, fun j oj _ hl => (by rw [getD_replicate_false] at hl; cases hl), fun t _ ht => getD_in (by simpa using ht) (getD_replicate_false _ _)⟩
  have := any_order_tail (P := P) (Q := Q) hn (by simpa using he) (linearN_of hlin) hs hc (fun listed hsz h1 h2 => by
    have hn' := hn
    rw [show listed = (Array.replicate k true) ++ (Array.replicate (l.toArray.size - k) false) from getD_ext (by simp only [Array.size_append, Array.size_replicate]; omega) fun i => by
      rw [Array.getD_eq_getD_getElem? (xs := _ ++ _), Array.getElem?_append]
      rcases Nat.lt_or_ge i k with h | h
      · rw [h1 i h]
        simp [h]
      · rw [h2 i h]
        simp only [Array.size_replicate, Nat.not_lt.2 h, if_false, Array.getElem?_replicate]
        split <;> rfl]
    exact hq) hp hZ k _ a w.drew (fun _ => undef) inv0 ⟨List.range k, by simp, fun i hi _ => List.mem_range.2 hi⟩ ⟨rfl, rfl, fun _ _ => rfl, fun i p t hi => ?_⟩ hS fun i p F d hi => ?_
  · refine wpIn_region_any hm (anyIn_of (noDefer_spec hno) hL _ _ _ _ ?_)
    rwa [show k + (l.toArray.size - k) = l.toArray.size by omega] at this
  · exfalso; rw [getD_replicate_false] at hi; cases hi
  · exfalso; rw [getD_replicate_false] at hi; cases hi
theorem wpIn_walk_last {id : Nat} {a : Act} {w : World} {l : List Oper} {r : Nat} (hm : P.follows .mixedOrders = true) (hB : (tailB l.toArray (l.length - 1) && noDefer l.toArray) = true) (hL : ¬ LetsOut Q) (E : World → World → Prop) (S : World → Prop) (hS : S w.drew)
    (h : Walk P l.toArray S E (fun A Fs => ∀ ρ w', S w' → (∀ t F, (t, F) ∈ Fs → F.holds (ρ t) w') → wpList P l.toArray Q (l.drop (l.length - 1)) (A ρ) w') (l.take (l.length - 1)) (fun _ => a) []) : (Code.region id l.toArray true).wpIn (Fence.wide.inRound r) n P Q a w :=
  wpIn_walk_tail (l.length - 1) hm hB hL E S hS h
theorem wpIn_walk {id : Nat} {a : Act} {w : World} {l : List Oper} {r : Nat} (hm : P.follows .mixedOrders = true) (hlin : (linearB l.toArray && noDefer l.toArray) = true) (hL : ¬ LetsOut Q) (E : World → World → Prop) (S : World → Prop) (hS : S w.drew)
    (h : Walk P l.toArray S E (fun A Fs => ∀ ρ w', S w' → (∀ t F, (t, F) ∈ Fs → F.holds (ρ t) w') → Q .normal (A ρ) w') l (fun _ => a) []) : (Code.region id l.toArray true).wpIn (Fence.wide.inRound r) n P Q a w := by
  rw [Bool.and_eq_true] at hlin
  obtain ⟨hlin, hno⟩ := hlin
  obtain ⟨full, hp, he, hZ⟩ := settle_plan l [] ⟨(fun _ h => by cases h), (fun pre p post he => by simp at he)⟩ h.out
  refine wpIn_region_any hm (anyIn_of (noDefer_spec hno) hL _ _ _ _ (any_order (by simpa using he) (linear_of hlin) hp hZ _ _ a _ (fun _ => undef) (by simp) (fun i j o hj => ?_) ⟨List.range l.toArray.size, by simp, fun i hi _ => List.mem_range.2 hi⟩ ⟨rfl, rfl, fun _ _ => rfl, fun i p t hi => ?_⟩ hS fun i p F d hi => ?_))
  · exfalso; revert hj; simp [Array.getD]
  · exfalso; revert hi; simp [Array.getD]
  · exfalso; revert hi; simp [Array.getD]
end
end Go.Proofs.YtkjmddgnfgbioaaDoor


namespace Go.Proofs.YtkjmddgnfgbioaaDoor
set_option linter.unusedVariables false
set_option linter.unusedSimpArgs false
set_option maxRecDepth 100000
open Go.RowKit Go.Shelf

attribute [local go_sem] Oper.semAt_some

def FSw (s : List Nat) : Fact (fun w w' => Below w.heap.size w w') := ⟨fun v w => SlU w v s, fun _ _ _ h k => h.below k⟩

theorem SlV.kept {w w' : World} {sz n : Nat} {v : Value} {xs : List Value} {row : Option Nat} (h : SlV w sz v n xs) (hg : w.grownBy w' row) (hr : ∀ r, row = some r → ∃ o : Obj, w.heap[r]? = some o ∧ o.isCells = false) : SlV w' sz v n xs := by
  obtain ⟨A, c, rfl, h1, h2, h3, b, o, h4, h5⟩ := h
  exact ⟨A, c, rfl, h1, h2, h3, b, o, fun hn => ⟨(h4 hn).1, Nat.lt_of_lt_of_le (h4 hn).2 hg.size⟩, fun j u hu => cell_kept (h5 j u hu) hg hr⟩

set_option maxRecDepth 100000 in
set_option maxHeartbeats 4000000 in
theorem core_yes (N : Nat) (B : List (List Nat)) (w : World) (A : Option Addr) (l c : Nat) (hN : N ≤ 200) (hBl : B.length = N) (hB : ∀ s ∈ B, Bs.Gs N s) (hT : Tab w)
    (hbeh : ∀ w', Below w.heap.size w w' → Calls Tryd.prog 84 #[.agg #[.int .i64 (N : Int), .slice A l c]] w' fun e w'' => ∃ v, e = .returned (.tuple #[v, .int .i64 0]) ∧ SlW w'' v B ∧ Below w'.heap.size w' w'') :
    Calls Tryd.prog 49 #[.agg #[.int .i64 (N : Int), .slice A l c]] w fun e w' => ∃ g, e = .returned (.tuple #[g, .int .i64 0]) ∧ IsG N (Gr.edW (Gr.coreW B)) g w' ∧ Below w.heap.size w w' := by
  obtain ⟨es, hes⟩ : ∃ es, es = Gr.edW (Gr.coreW B) := ⟨_, rfl⟩
  rw [← hes]
  have HES := Lib.hid hes
  clear hes
  refine (callsIn_wide (n := 4)).1 ?_
  refine callsIn_of_wp_marks Tryd.func49 rfl trivial ?_ rfl
  simp only [Tryd.ntmps49, List.size_toArray, List.length_cons, List.length_nil, Nat.reduceAdd, Nat.reduceSub, Array.replicate_succ, Array.replicate_zero, List.push_toArray, List.append_toArray, List.nil_append, List.cons_append]
  refine wpIn_wide.2 ?_
  have hba : Below w.heap.size w ((w.alloc (.cells #[.int .i64 (N : Int), .slice A l c] 72)).alloc (.cells #[.int .i64 0, .slice none 0 0] 72)) := below_alloc (below_alloc (Below.refl _ _) _) _
  have x0 := (Blk.new w 72 [.int .i64 (N : Int), .slice A l c]).alloc (.cells #[.int .i64 0, .slice none 0 0] 72)
  have y0 := Blk.new (w.alloc (.cells #[.int .i64 (N : Int), .slice A l c] 72)) 72 [.int .i64 0, .slice none 0 0]
  simp only [World.size_alloc] at y0
  have HB := Lib.hid hB
  have HBL := Lib.hid hBl
  have HT := Lib.hid hT
  clear hB hBl hT
  have n47' : 24 * N ≤ 281474976710656 := by omega
  have n63 : N ≤ 9223372036854775807 := by omega
  go_upto_region 1 with (fail)
  generalize (w.alloc (.cells #[.int .i64 (N : Int), .slice A l c] 72)).alloc (.cells #[.int .i64 0, .slice none 0 0] 72) = W0 at x0 y0 hba ⊢
  have d0 : W0.cell? ⟨w.heap.size, 0, none⟩ = some (.int .i64 (N : Int)) := (x0.cell 0).trans rfl
  have d1 : W0.cell? ⟨w.heap.size, 1, none⟩ = some (.slice A l c) := (x0.cell 1).trans rfl
  go_wp2_with fail
  refine (hbeh W0 hba).mono ?_
  rintro e w1 ⟨v, rfl, hv, hb1⟩
  have x1 := x0.below hb1
  have y1 := y0.below hb1
  have hb01 := below_next hb1 hba
  have hsz := y1.lt
  clear d0 d1 x0 y0 hbeh hb1 hba
  obtain ⟨A', c', rfl⟩ : ∃ A' c', v = .slice A' N c' := by
    obtain ⟨os, ⟨A', c', e, -⟩, -⟩ := hv
    rw [HBL.out] at e
    exact ⟨_, _, e⟩
  go_upto_region 4 with (fail)
  have p4 := Boxed.new w1 103 (.slice A' N c')
  have hb4 : Below w1.heap.size w1 (w1.alloc (.cells #[.slice A' N c'] 103)) := below_alloc (Below.refl _ _) _
  have hs4 : (w1.alloc (.cells #[.slice A' N c'] 103)).heap.size = w1.heap.size + 1 := by simp
  generalize w1.alloc (.cells #[.slice A' N c'] 103) = w2 at p4 hb4 hs4 ⊢
  have x2 := x1.below hb4
  have y2 := y1.below hb4
  have hv2 := hv.below hb4
  have c0 : w2.cell? ⟨w.heap.size, 0, none⟩ = some (.int .i64 (N : Int)) := (x2.cell 0).trans rfl
  have hb02 := below_next hb4 hb01
  obtain ⟨pB, hpB⟩ : ∃ p, p = w1.heap.size := ⟨_, rfl⟩
  rw [← hpB] at p4 hs4 ⊢
  have HP := Lib.hid hpB
  have hlt2 : w.heap.size + 1 < pB := by omega
  have HS4 := Lib.hid hs4
  clear x1 y1 hv hb4 hb01 hsz hpB hs4
  go_upto_region 5 with (at_make; refine wp_make_blk _ _ _ _ (.slice none 0 0) 1 24 N Tryd.underlying103 info_swords rfl (by decide) rfl rfl (by omega) (by omega) rfl rfl rfl rfl ?_; intro w3 hB3 hb3 hz3)
  have hR4 : SwR w3 w2.heap.size (Gr.ck B N 0) := by
    refine ⟨_, by rw [Gr.ck_length]; simp, hB3, fun i v s hv hs => ?_⟩
    rw [Gr.ck_zero] at hs
    have h1 := List.eq_of_mem_replicate (List.mem_of_getElem? hv)
    have h2 := List.eq_of_mem_replicate (List.mem_of_getElem? hs)
    subst h1 h2
    exact SlU.nil _
  have hR5 := hR4.below (below_alloc (Below.refl _ w3) (.cells #[.slice (some ⟨w2.heap.size, 0, none⟩) N N] 103))
  have p6 := Boxed.new w3 103 (.slice (some ⟨w2.heap.size, 0, none⟩) N N)
  have hbW : Below w2.heap.size w2 (w3.alloc (.cells #[.slice (some ⟨w2.heap.size, 0, none⟩) N N] 103)) := below_alloc hb3 _
  have hs5 : (w3.alloc (.cells #[.slice (some ⟨w2.heap.size, 0, none⟩) N N] 103)).heap.size = w2.heap.size + 2 := by simp [hz3]
  rw [hz3] at p6
  generalize (w3.alloc (.cells #[.slice (some ⟨w2.heap.size, 0, none⟩) N N] 103)) = W4 at hR5 p6 hbW hs5 ⊢
  have hs2 : w2.heap.size = pB + 1 := HS4.out
  have c4 : W4.cell? ⟨pB, 0, none⟩ = some (.slice A' N c') := (hbW.cell (p := ⟨pB, 0, none⟩) (by show pB < _; omega)).trans p4.cell
  obtain ⟨gC, hgC⟩ : ∃ g, g = w2.heap.size := ⟨_, rfl⟩
  simp only [← hgC] at hR5 p6 hbW hs5 hs2 ⊢
  have c4' := c4
  go_wp2_with fail
  refine (wpIn_wide (n := 4)).1 ?_
  have cB : w2.cell? ⟨pB, 0, none⟩ = some (.slice A' N c') := p4.cell
  clear hR4 hB3 hb3 hz3 p4 c4 c4' HS4
  have HGC := Lib.hid (And.intro hgC hs2)
  have hpg : pB < gC := by omega
  clear hgC hs2
  refine wpIn_loop (fun a W => ∃ (k : Nat) (Ds : List Nat) (u7 u8 u25 u26 u27 u28 u29 u30 u31 u32 u33 u34 u48 : Value), k ≤ N ∧ (SwR W gC (Gr.ck B N k) ∧ Boxed W (gC + 1) 103 (.slice (some ⟨gC, 0, none⟩) N N)) ∧ Below gC w2 W ∧ (Ds.Nodup ∧ ∀ D ∈ Ds, gC + 2 ≤ D ∧ W.heap[D]? = some (.deferred (some []))) ∧ a = { tmps := #[.agg #[.int .i64 (N : Int), .slice A l c], .pointer (some ⟨w.heap.size, 0, none⟩), .pointer (some ⟨w.heap.size + 1, 0, none⟩), .int .i64 0, .pointer (some ⟨pB, 0, none⟩), .int .i64 0, .pointer (some ⟨gC + 1, 0, none⟩), u7, u8, undef, .tuple #[.slice A' N c', .int .i64 0], .agg #[.int .i64 (N : Int), .slice A l c], .tuple #[.slice A' N c', .int .i64 0], .slice A' N c', .int .i64 0, .int .i64 0, .bool false, undef, undef, .pointer (some ⟨w.heap.size, 0, none⟩), .int .i64 (N : Int), .slice (some ⟨gC, 0, none⟩) N N, .slice A' N c', .int .i64 (N : Int), .int .i64 (k : Int), u25, u26, u27, u28, u29, u30, u31, u32, u33, u34, undef, undef, undef, undef, undef, undef, undef, undef, undef, undef, undef, undef, undef, u48, undef, undef, undef, undef, undef], defers := Ds.map markOf }) (fun a _ => N - (intOf (a.tmps.getD 24 undef)).toNat) ?_ ?_
  · exact ⟨0, [], undef, undef, undef, undef, undef, undef, undef, undef, undef, undef, undef, undef, undef, Nat.zero_le _, ⟨hR5, p6⟩, hbW, ⟨List.nodup_nil, fun D hD => by cases hD⟩, rfl⟩
  · rintro a W ⟨k, Ds, u7, u8, u25, u26, u27, u28, u29, u30, u31, u32, u33, u34, u48, hk, ⟨hR, hpC⟩, hbW, hDs, rfl⟩
    clear hR5 p6 hs5
    dsimp only
    have hlC := hpC.lt
    by_cases hlt : k < N
    · have hv2' := hv2
      obtain ⟨bs, ⟨A1, c1, e1, -, -, hbl, hbc⟩, hbs⟩ := hv2
      injection e1 with e1 e2 e3
      subst e1 e3
      obtain ⟨xs, hxs⟩ : ∃ s, B[k]? = some s := ⟨_, List.getElem?_eq_getElem (by have := HBL.out; omega)⟩
      have hxD : B.getD k [] = xs := by rw [List.getD_eq_getElem?_getD, hxs, Option.getD_some]
      have hgx := HB.out xs (List.mem_of_getElem? hxs)
      obtain ⟨vk, hvk⟩ : ∃ v, bs[k]? = some v := ⟨_, List.getElem?_eq_getElem (by have := HBL.out; omega)⟩
      have sx := hbs k vk xs hvk hxs
      obtain ⟨aA, ac, rfl⟩ := slU_form sx
      obtain ⟨g, o, hAg, hgl, hcell⟩ := hbc.at_ (fun e => by rw [e] at hvk; simp at hvk)
      subst hAg
      have hgl' : g < gC := by rw [HGC.out.1]; exact hgl
      clear e2
      have ck : W.cell? ⟨g, o + k, none⟩ = some (.slice aA xs.length ac) := (hbW.cell (p := ⟨g, o + k, none⟩) hgl').trans (hcell k _ hvk)
      have bI := Boxed.new W 3 (.int .i64 (k : Int))
      have hbI : Below W.heap.size W (W.alloc (.cells #[.int .i64 (k : Int)] 3)) := below_alloc (Below.refl _ _) _
      have hzI : (W.alloc (.cells #[.int .i64 (k : Int)] 3)).heap.size = W.heap.size + 1 := by simp
      have hpI := hpC.alloc (.cells #[.int .i64 (k : Int)] 3)
      have hRI := hR.below hbI
      have hRI' := hRI
      obtain ⟨vs, hvl, hvB, hvS⟩ := hRI
      have hvk' : k < vs.length := by rw [hvl, Gr.ck_length]; exact hlt
      have hcC : (W.alloc (.cells #[.int .i64 (k : Int)] 3)).cell? ⟨gC, k, none⟩ = some vs[k] := (hvB.cell k).trans (List.getElem?_eq_getElem hvk')
      have hfC := hvB.frozen k
      have hcp := hpI.cell
      have hcn := bI.cell
      have c2 : (W.alloc (.cells #[.int .i64 (k : Int)] 3)).cell? ⟨g, o + k, none⟩ = some (.slice aA xs.length ac) := (hbI.cell (p := ⟨g, o + k, none⟩) (by show g < _; have := hbW.size; omega)).trans ck
      have HV := Lib.hid (And.intro hvl (And.intro hvB (And.intro hxD (And.intro hxs (And.intro hbl hzI)))))
      clear hvl hvB hxD hxs hbl hzI hvS
      gi_wp2_with fail
      have hS1 : SwR ((W.alloc (.cells #[.int .i64 (k : Int)] 3)).setCell ⟨gC, k, none⟩ (.slice aA xs.length ac)) gC ((Gr.ck B N k).set k xs) := by
        have hk1 : Below w2.heap.size w2 (W.alloc (.cells #[.int .i64 (k : Int)] 3)) := by rw [← HGC.out.1]; exact hbW.trans (hbI.mono (by omega))
        exact hRI'.put (sx.below hk1) HV.out.2.1 (HV.out.2.1.set_ k _) (grown_setCell _ gC k _)
      have hg1 := grown_setCell (W.alloc (.cells #[.int .i64 (k : Int)] 3)) gC k (.slice aA xs.length ac)
      have hp1 := hpI.kept hg1 (fun e => by injection e with e; omega)
      have hn1 := bI.kept hg1 (fun e => by injection e with e; omega)
      have hb1 : Below gC w2 ((W.alloc (.cells #[.int .i64 (k : Int)] 3)).setCell ⟨gC, k, none⟩ (.slice aA xs.length ac)) := (hbW.trans (hbI.mono (by omega))).trans (below_of_grown hg1 (by have := HV.out.2.2.2.2.2; omega) (Nat.le_refl _))
      have hz1 : ((W.alloc (.cells #[.int .i64 (k : Int)] 3)).setCell ⟨gC, k, none⟩ (.slice aA xs.length ac)).heap.size = W.heap.size + 1 := by simp [World.setCell]
      have hDs1 : ∀ D ∈ Ds, ((W.alloc (.cells #[.int .i64 (k : Int)] 3)).setCell ⟨gC, k, none⟩ (.slice aA xs.length ac)).heap[D]? = some (.deferred (some [])) := fun D hD => by
        have h0 := hDs.2 D hD
        have hlD := (Array.getElem?_eq_some_iff.1 h0.2).1
        exact (hg1.block D (by have := hbI.size; omega) (fun e => by injection e with e; omega)).trans ((hbI.block D hlD).trans h0.2)
      generalize ((W.alloc (.cells #[.int .i64 (k : Int)] 3)).setCell ⟨gC, k, none⟩ (.slice aA xs.length ac)) = W1 at hS1 hp1 hn1 hb1 hz1 hDs1 ⊢
      have hDlt : ∀ D ∈ Ds, D < W.heap.size := fun D hD => (Array.getElem?_eq_some_iff.1 (hDs.2 D hD).2).1
      have HD := Lib.hid hDs
      clear hR hpC hbW hDs ck bI hbI hpI hRI' hcC hfC hcp hcn c2 hg1
      refine ⟨trivial, (all_gen 2 _ _ _ _).mono ?_⟩
      rintro e w' ⟨rfl, rfl⟩
      have bQ := Boxed.new W1 91 (.slice aA xs.length ac)
      have hbQ : Below W1.heap.size W1 (W1.alloc (.cells #[.slice aA xs.length ac] 91)) := below_alloc (Below.refl _ _) _
      have hp2 := hp1.alloc (.cells #[.slice aA xs.length ac] 91)
      have hn2 := hn1.alloc (.cells #[.slice aA xs.length ac] 91)
      have hS2 := hS1.below hbQ
      have hb2 : Below gC w2 (W1.alloc (.cells #[.slice aA xs.length ac] 91)) := hb1.trans (hbQ.mono (by omega))
      have hz2 : (W1.alloc (.cells #[.slice aA xs.length ac] 91)).heap.size = W.heap.size + 2 := by simp [hz1]
      have hDs2 : ∀ D ∈ Ds, (W1.alloc (.cells #[.slice aA xs.length ac] 91)).heap[D]? = some (.deferred (some [])) := fun D hD => (hbQ.block D (by have := hDlt D hD; omega)).trans (hDs1 D hD)
      rw [hz1] at bQ
      have HZ := Lib.hid (And.intro hz1 hz2)
      clear hz2 hS1 hp1 hn1 hb1 hDs1 hbQ
      gi_wp2_with fail
      clear hz1
      generalize (W1.alloc (.cells #[.slice aA xs.length ac] 91)) = W2 at bQ hp2 hn2 hS2 hb2 HZ hDs2 ⊢
      have hsW : gC + 1 < W.heap.size := hlC
      have hz2 := HZ.out.2
      have HGo := HGC.out
      have keyN : ∀ W' wr, Below W2.heap.size W2 W' → KpP (W.heap.size + 2) gC W' wr → Nums w2 wr := fun W' wr hW hk => ⟨by have := hk.1; have := hW.size; have := hb2.size; omega, fun p i x hx => by
        have hp := World.block_lt_of_cell? w2 p hx
        exact (hk.cell (by omega) (by omega)).trans ((hW.cell (by omega)).trans ((hb2.cell (by omega)).trans hx))⟩
      have stA := all_gen_stops 2 (W.heap.size + 1) ac aA xs sx.2 (by have := hgx.length; omega) (KpP (W.heap.size + 2) gC) (KpP.refl _ _) (fun h k => h.trans k) W2
        (fun W' wr hW hk => (hk.cell (a := ⟨W.heap.size + 1, 0, none⟩) (by show W.heap.size + 1 < _; omega) (by show W.heap.size + 1 ≠ gC; omega)).trans ((hW.cell (p := ⟨W.heap.size + 1, 0, none⟩) (by show W.heap.size + 1 < _; omega)).trans bQ.cell))
        (fun W' wr hW hk => ⟨_, by
          obtain ⟨⟨A', c', e, -, -, -, h4⟩, -⟩ := sx.nums (keyN W' wr hW hk)
          injection e with e1 e2 e3
          subst e1
          exact h4⟩)
        (fun W' wr hW hk => ((HT.out.later HT.out.lt hb02).nums (keyN W' wr hW hk)))
      have hll := Gr.ls_len hgx
      have HX := Lib.hid (And.intro keyN (And.intro sx (And.intro hgx (And.intro hbs (And.intro hbc hv2')))))
      clear keyN sx bQ hgx hbs hbc hv2' HGo
      have hpC' : gC + 1 < W2.heap.size := by omega
      refine wpIn_rangeFunc_ownH rfl (by omega) (gf := 99) (lb := #[.pointer (some ⟨W.heap.size + 1, 0, none⟩)]) rfl trivial (enters_of Tryd.func99 (by kernel_rfl) rfl)
        stA (fun h k => h.trans k) (kpP_b (by omega)) (Below.refl _ _) (fun _ => rfl)
        (fun pre W' => ((Boxed W' (gC + 1) 103 (.slice (some ⟨gC, 0, none⟩) N N) ∧ Boxed W' W.heap.size 3 (.int .i64 (k : Int))) ∧ SwR W' gC ((Gr.ck B N k).set k (Gr.cj B xs (pre.map (·.1))))) ∧ (Keeps (fun i => i = gC) W2 W' ∧ ∀ D ∈ Ds, W'.heap[D]? = some (.deferred (some []))))
        (fun _ _ _ => False)
        (OwnFrom.and (OwnFrom.and (OwnFrom.and (Own.from (boxed_own _ _ _) _) (Own.from (boxed_own _ _ _) _)) (Own.from (SwR.own (fun pre : List { x : Nat // x ∈ Bs.ls 0 xs } => (Gr.ck B N k).set k (Gr.cj B xs (pre.map (·.1))))) _)) (OwnFrom.and (ownFrom_keeps (Nat.le_refl _)) (fun s X Y row hs hg hr D hD => (hg.block D (Array.getElem?_eq_some_iff.1 (hs D hD)).1 (fun e => by have := (hr D e.symm).1; have := hDlt D hD; omega)).trans (hs D hD))))
        (fun _ _ _ _ _ hs _ _ => hs)
        ⟨⟨⟨hp2, hn2⟩, hS2⟩, Keeps.refl _ _, hDs2⟩
        (fun x a' W' => a' = { tmps := #[.agg #[.int .i64 (N : Int), .slice A l c], .pointer (some ⟨w.heap.size, 0, none⟩), .pointer (some ⟨w.heap.size + 1, 0, none⟩), .int .i64 0, .pointer (some ⟨pB, 0, none⟩), .int .i64 0, .pointer (some ⟨gC + 1, 0, none⟩), .pointer (some ⟨W.heap.size, 0, none⟩), .slice aA xs.length ac, .int .i64 (x.1 : Int), .tuple #[.slice (some ⟨g, o, none⟩) N c', .int .i64 0], .agg #[.int .i64 (N : Int), .slice A l c], .tuple #[.slice (some ⟨g, o, none⟩) N c', .int .i64 0], .slice (some ⟨g, o, none⟩) N c', .int .i64 0, .int .i64 0, .bool false, undef, undef, .pointer (some ⟨w.heap.size, 0, none⟩), .int .i64 (N : Int), .slice (some ⟨gC, 0, none⟩) N N, .slice (some ⟨g, o, none⟩) N c', .int .i64 (N : Int), .int .i64 (k : Int), .bool true, .int .i64 (k : Int), .pointer (some ⟨g, o + k, none⟩), .slice aA xs.length ac, .slice (some ⟨gC, 0, none⟩) N N, .int .i64 (k : Int), .slice aA xs.length ac, .pointer (some ⟨gC, k, none⟩), .slice aA xs.length ac, .func (.func 99) #[] #[.pointer (some ⟨W.heap.size + 1, 0, none⟩)], .int .i64 (x.1 : Int), undef, undef, undef, undef, undef, undef, undef, undef, undef, undef, undef, undef, u48, undef, undef, undef, undef, undef], defers := [] })
        (fun x a' _ X Y row hs hg hr => hs)
        ?assign ?body ?done ?stop
      case assign =>
        rintro l pre x W' K hI hK
        gi_wp2
        exact hK _ _ (KeepsFrom.refl _ _) (KpP.refl _ _ _) hI rfl
      case body =>
        rintro l0 pre x a' W' hl ⟨r, hr⟩ ⟨⟨⟨b1, b2⟩, b3⟩, b4, b5⟩ rfl hlt'
        gi_wp2_with fail
        obtain ⟨x, hxm⟩ := x
        have hxN : x < N := HX.out.2.2.1.lt x ((Bs.mem_list HX.out.2.1.2 x).1 hxm)
        have e1 := b1.cell
        have e2 := b2.cell
        have b3' := b3
        obtain ⟨vs', hvl', hvB', hvS'⟩ := b3
        have hckl : ((Gr.ck B N k).set k (Gr.cj B xs (pre.map (·.1)))).length = N := by rw [List.length_set, Gr.ck_length]
        obtain ⟨u0, hu0⟩ : ∃ u, vs'[k]? = some u := ⟨_, List.getElem?_eq_getElem (by omega)⟩
        have su0 : SlU W' u0 (Gr.cj B xs (pre.map (·.1))) := hvS' k u0 _ hu0 (by rw [List.getElem?_set_self (by rw [Gr.ck_length]; exact hlt)])
        have ec : W'.cell? ⟨gC, k, none⟩ = some u0 := (hvB'.cell k).trans hu0
        obtain ⟨ys, hys⟩ : ∃ s, B[x]? = some s := ⟨_, List.getElem?_eq_getElem (by have := HBL.out; omega)⟩
        have hyD : B.getD x [] = ys := by rw [List.getD_eq_getElem?_getD, hys, Option.getD_some]
        obtain ⟨vy, hvy⟩ : ∃ v, bs[x]? = some v := ⟨_, List.getElem?_eq_getElem (by have := HBL.out; have := HV.out.2.2.2.2.1; omega)⟩
        have hNW : Nums w2 W' := HX.out.1 W2 W' (Below.refl _ _) (kpP_of_keeps b4 (by omega))
        have sy := (HX.out.2.2.2.1 x vy ys hvy hys).nums hNW
        have hbD : Below gC w2 W' := hb2.trans (b4.below (by omega) (fun i hi => by omega))
        have ey : W'.cell? ⟨g, o + x, none⟩ = some vy := (hbD.cell (p := ⟨g, o + x, none⟩) hgl').trans (hcell x _ hvy)
        have eb : W'.cell? ⟨pB, 0, none⟩ = some (.slice (some ⟨g, o, none⟩) N c') := (hbD.cell (p := ⟨pB, 0, none⟩) hpg).trans cB
        obtain ⟨A0, c9, rfl⟩ := slU_form su0
        obtain ⟨Ay, cy, rfl⟩ := slU_form sy
        have hg0 := (Gr.cj_gs HB.out HX.out.2.2.1 (pre.map (·.1))).length
        have hgy := (HB.out ys (List.mem_of_getElem? hys)).length
        have hle := fun w' (hb : Below W'.heap.size W' w') => less_any w' _ _ _ ys (su0.below hb) (sy.below hb) (by omega) (by omega)
        have keepS : ∀ w', Below W'.heap.size W' w' → (Below W'.heap.size W' w' ∧ w'.cell? ⟨gC + 1, 0, none⟩ = some (.slice (some ⟨gC, 0, none⟩) N N) ∧ w'.cell? ⟨W.heap.size, 0, none⟩ = some (.int .i64 (k : Int)) ∧ w'.cell? ⟨gC, k, none⟩ = some (.slice A0 (Gr.cj B xs (pre.map (·.1))).length c9) ∧ w'.cell? ⟨g, o + x, none⟩ = some (.slice Ay ys.length cy) ∧ w'.cell? ⟨pB, 0, none⟩ = some (.slice (some ⟨g, o, none⟩) N c')) := fun w' hb =>
          ⟨hb, (hb.cell (World.block_lt_of_cell? W' _ e1)).trans e1, (hb.cell (World.block_lt_of_cell? W' _ e2)).trans e2, (hb.cell (World.block_lt_of_cell? W' _ ec)).trans ec, (hb.cell (World.block_lt_of_cell? W' _ ey)).trans ey, (hb.cell (World.block_lt_of_cell? W' _ eb)).trans eb⟩
        have hS0 := keepS _ (below_drew (Below.refl _ _))
        have hst := Gr.cj_snoc B xs (pre.map (·.1)) x
        rw [hyD] at hst
        have HS := Lib.hid (And.intro hu0 (And.intro hvl' (And.intro hckl hst)))
        obtain ⟨sj, hsj⟩ : ∃ s, s = Gr.cj B xs (pre.map (·.1)) := ⟨_, rfl⟩
        rw [← hsj] at hle keepS hS0
        have HSJ := Lib.hid hsj
        clear hu0 hvl' hckl hst hvS' su0 sy hys hyD hvy hNW ec ey eb e1 e2 hbD hg0 hgy hsj
        change Code.wpIn (Fence.wide.inRound l0) _ _ _ _ _ _
        refine wpIn_walk_last (by kernel_rfl) (by kernel_rfl) (by rintro ⟨_, _, h⟩; exact h) (fun w w' => Below w.heap.size w w') (fun w' => (Below W'.heap.size W' w' ∧ w'.cell? ⟨gC + 1, 0, none⟩ = some (.slice (some ⟨gC, 0, none⟩) N N) ∧ w'.cell? ⟨W.heap.size, 0, none⟩ = some (.int .i64 (k : Int)) ∧ w'.cell? ⟨gC, k, none⟩ = some (.slice A0 sj.length c9) ∧ w'.cell? ⟨g, o + x, none⟩ = some (.slice Ay ys.length cy) ∧ w'.cell? ⟨pB, 0, none⟩ = some (.slice (some ⟨g, o, none⟩) N c'))) hS0 ?_
        simp only [List.length_cons, List.length_nil, Nat.reduceAdd, Nat.reduceSub, List.take_succ_cons, List.take_zero, List.drop_succ_cons, List.drop_zero]
        repeat (first | (refine settle_skip (fun _ => by rfl) ?_; (simp only [Act.put, List.setIfInBounds_toArray, List.set_cons_zero, List.set_cons_succ])) | (refine' settle_run (fun _ _ => Below.refl _ _) (fun _ => by rfl) ?_ ?_; rotate_left; (focus (intro ρ w hS hF; (try dsimp only at hS); go_split_ands; go_simp; try with_reducible rfl)); (simp only [Act.put, List.setIfInBounds_toArray, List.set_cons_zero, List.set_cons_succ])))
        (refine settle_known (FSw (Bs.op Bs.fless sj ys)) (by rfl) (fun _ => by rfl)  ?_ ?_; (focus (intro ρ w hS hF K hK; (simp only [Act.put, List.setIfInBounds_toArray, List.set_cons_zero, List.set_cons_succ] at hK); go_simp; (refine (hle _ hS.1).mono ?_; rintro e w6 ⟨v, rfl, hF', hb'⟩; exact hK _ _ hF' (keepS _ (below_next hb' hS.1)) hb'))); (simp only [Act.put, List.setIfInBounds_toArray, List.set_cons_zero, List.set_cons_succ]))
        repeat (first | (refine settle_skip (fun _ => by rfl) ?_; (simp only [Act.put, List.setIfInBounds_toArray, List.set_cons_zero, List.set_cons_succ])) | (refine' settle_run (fun _ _ => Below.refl _ _) (fun _ => by rfl) ?_ ?_; rotate_left; (focus (intro ρ w hS hF; (try dsimp only at hS); go_split_ands; go_simp; try with_reducible rfl)); (simp only [Act.put, List.setIfInBounds_toArray, List.set_cons_zero, List.set_cons_succ])))
        refine settle_nil ?_
        intro ρ w5 hS hF
        have hU : SlU w5 (ρ 46) (Bs.op Bs.fless sj ys) := hF 46 (FSw (Bs.op Bs.fless sj ys)) (by repeat (first | exact List.mem_cons_self | apply List.mem_cons_of_mem))
        have hb5 := hS.1
        clear hF hS keepS hS0 hle
        dsimp only
        generalize ρ 46 = U at hU ⊢
        obtain ⟨Ua, Uc, rfl⟩ := slU_form hU
        have hB5 := hvB'.below hb5
        refine wpl_set_blk hB5 k (.slice Ua (Bs.op Bs.fless sj ys).length Uc) (by kernel_rfl) (by rw [HS.out.2.1, HS.out.2.2.1]; exact hlt) rfl rfl rfl rfl rfl rfl ?_
        intro w6 hB6 hg6
        have hR6 := (b3'.below hb5).put hU hB5 hB6 hg6
        rw [HSJ.out] at hR6
        rw [List.set_set, ← HS.out.2.2.2] at hR6
        have hgb := grown_of_below hb5 none
        have f1 := (b1.kept hgb (by simp)).kept hg6 (fun e => by injection e with e; omega)
        have f2 := (b2.kept hgb (by simp)).kept hg6 (fun e => by injection e with e; omega)
        have k1 : Keeps (fun i => i = gC) W' w6 := ((Keeps.of_below hb5 (fun i => i = gC)).step (Keeps.of_grown hg6) fun i _ e => by injection e)
        have k2 := b4.step k1 fun i _ h => h
        have hW1 := b4.size
        have kf : ∀ B, gC < B → KeepsFrom B W' w6 := fun B hB => (KeepsFrom.of_grownBy hgb (fun j e => by cases e)).trans (KeepsFrom.of_grownBy hg6 (fun j e => by injection e with e; omega))
        have hD6 : ∀ D ∈ Ds, w6.heap[D]? = some (.deferred (some [])) := fun D hD => by
          have h0 := b5 D hD
          have h1 := HD.out.2 D hD
          exact (k1.block D (Array.getElem?_eq_some_iff.1 h0).1 (by omega)).trans h0
        have HR := Lib.hid (And.intro hR6 (And.intro f1 (And.intro f2 (And.intro k1 (And.intro k2 (And.intro kf hD6))))))
        clear hR6 f1 f2 k1 k2 kf hD6 hB6 hB5 hb5 hgb
        go_wp2
        refine ⟨HR.out.2.2.2.2.2.1 _ (by omega), kpP_of_keeps HR.out.2.2.2.1 (by omega), ⟨⟨HR.out.2.1, HR.out.2.2.1⟩, ?_⟩, HR.out.2.2.2.2.1, HR.out.2.2.2.2.2.2⟩
        have := HR.out.1
        simpa using this
      case done =>
        rintro D ys W' hD hys ⟨⟨⟨b1, b2⟩, b3⟩, b4, b5⟩ hKD
        have hcj : (Gr.ck B N k).set k (Gr.cj B xs (ys.map (·.1))) = Gr.ck B N (k + 1) := by
          have hxD := HV.out.2.2.1
          rw [← Gr.ck_step]
          congr 1
          unfold Gr.core1
          rw [hxD]
          congr 1
        rw [hcj] at b3
        have hbD : Below gC w2 W' := hb2.trans (b4.below (by omega) (fun i hi => by omega))
        have HDD := HD.out
        gi_wp2
        refine ⟨⟨k + 1, D :: Ds, _, _, _, _, _, _, _, _, _, _, _, _, _, by omega, ⟨b3, b1⟩, hbD, ⟨List.nodup_cons.2 ⟨fun h => by have := hDlt D h; omega, HDD.1⟩, fun D' hD' => ?_⟩, rfl⟩, ?_⟩
        · rcases List.mem_cons.1 hD' with rfl | h
          · exact ⟨by omega, hKD⟩
          · exact ⟨(HDD.2 D' h).1, b5 D' h⟩
        · simp [intOf]
          omega
      case stop =>
        rintro D c pre W' hD _ hF hK
        exact hF.elim
    · obtain rfl : k = N := by omega
      have hcw : Gr.ck B k k = Gr.coreW B := by
        have := Gr.ck_all B
        rw [HBL.out] at this
        exact this
      rw [hcw] at hR
      have hcl : (Gr.coreW B).length = k := by rw [Gr.coreW_length, HBL.out]
      have hsw : SlW W (.slice (some ⟨gC, 0, none⟩) k k) (Gr.coreW B) := by
        have := hR.slW (by rw [hcl]; unfold maxLen; omega)
        rw [hcl] at this
        exact this
      have hbw : Below w.heap.size w W := hb02.trans (hbW.mono (by have := hb02.size; have := HGC.out.1; omega))
      have hTW : Tab W := HT.out.later HT.out.lt hbw
      have hed := fun w' (hb : Below W.heap.size W w') => edges_any k (Gr.coreW B) w' _ (hsw.below hb) (Gr.coreW_gs HB.out) hN (by rw [hcl]; exact hN) (hTW.later hTW.lt hb)
      rw [← HES.out] at hed
      have hQ0 : W.cell? ⟨w.heap.size, 0, none⟩ = some (.int .i64 (k : Int)) := (hbW.cell (p := ⟨w.heap.size, 0, none⟩) (by show w.heap.size < gC; omega)).trans c0
      have hpc := hpC.cell
      have yW : Blk W (w.heap.size + 1) 72 [.int .i64 0, .slice none 0 0] := (hbW.block _ (by omega)).trans y2
      have keepS : ∀ w', Below W.heap.size W w' → (Below W.heap.size W w' ∧ w'.cell? ⟨w.heap.size, 0, none⟩ = some (.int .i64 (k : Int)) ∧ w'.cell? ⟨gC + 1, 0, none⟩ = some (.slice (some ⟨gC, 0, none⟩) k k)) := fun w' hb => ⟨hb, (hb.cell (World.block_lt_of_cell? W _ hQ0)).trans hQ0, (hb.cell (World.block_lt_of_cell? W _ hpc)).trans hpc⟩
      have hS0 := keepS _ (below_drew (Below.refl _ _))
      have HH := Lib.hid (And.intro yW (And.intro hbw (And.intro hDs hbW)))
      obtain ⟨q, hq⟩ : ∃ q, q = w.heap.size := ⟨_, rfl⟩
      have hlq : q + 1 < gC := by omega
      have HQ := Lib.hid hq
      clear hR hcw hcl hsw hTW hQ0 hpc hDs yW hbW hbw hpC hv2 c0 cB x2 y2 hb02 hlt
      rw [← hq] at keepS hS0 ⊢
      clear hq hlt2
      gi_wp2_with fail
      go_wp2_with fail
      refine wp_walk_tail 5 (by kernel_rfl) (by kernel_rfl) (fun w w' => Below w.heap.size w w') (fun w' => (Below W.heap.size W w' ∧ w'.cell? ⟨q, 0, none⟩ = some (.int .i64 (k : Int)) ∧ w'.cell? ⟨gC + 1, 0, none⟩ = some (.slice (some ⟨gC, 0, none⟩) k k))) hS0 ?_
      simp only [List.length_cons, List.length_nil, Nat.reduceAdd, Nat.reduceSub, List.take_succ_cons, List.take_zero, List.drop_succ_cons, List.drop_zero]
      repeat (first | (refine settle_skip (fun _ => by rfl) ?_; (simp only [Act.put, List.setIfInBounds_toArray, List.set_cons_zero, List.set_cons_succ])) | (refine' settle_run (fun _ _ => Below.refl _ _) (fun _ => by rfl) ?_ ?_; rotate_left; (focus (intro ρ w hS hF; (try dsimp only at hS); go_split_ands; go_simp; try with_reducible rfl)); (simp only [Act.put, List.setIfInBounds_toArray, List.set_cons_zero, List.set_cons_succ])))
      (refine settle_known (FSlE W.heap.size es) (by rfl) (fun _ => by rfl)  ?_ ?_; (focus (intro ρ w hS hF K hK; (simp only [Act.put, List.setIfInBounds_toArray, List.set_cons_zero, List.set_cons_succ] at hK); go_simp; (refine (hed _ hS.1).mono ?_; rintro e w' ⟨u, rfl, ⟨h1, h2⟩, hb'⟩; exact hK _ _ ⟨h1, h2.mono hS.1.size⟩ (keepS _ (below_next hb' hS.1)) hb'))); (simp only [Act.put, List.setIfInBounds_toArray, List.set_cons_zero, List.set_cons_succ]))
      (refine settle_known (FG W.heap.size k es) (by rfl) (fun _ => by rfl)  ?_ ?_; (focus (intro ρ w hS hF K hK; (simp only [Act.put, List.setIfInBounds_toArray, List.set_cons_zero, List.set_cons_succ] at hK); go_simp; (have h18 : SlV w 2 (ρ 52) es.length (edcs es) ∧ New W.heap.size (ρ 52) := hF.1 (by rfl); generalize ρ 52 = v18 at h18 hK ⊢; obtain ⟨A18, c18, rfl⟩ := h18.1.form; go_simp; exact hK _ _ ⟨_, rfl, h18⟩ hS (Below.refl _ _)))); (simp only [Act.put, List.setIfInBounds_toArray, List.set_cons_zero, List.set_cons_succ]))
      refine settle_nil ?_
      intro ρ wE hS hF
      obtain ⟨u, hu1, hu2, hu3⟩ := hF 53 (FG W.heap.size k es) (by repeat (first | exact List.mem_cons_self | apply List.mem_cons_of_mem))
      clear hF hS0 keepS hed
      dsimp only
      rw [hu1]
      generalize ρ 52 = v18
      have yE := HH.out.1.below hS.1
      rw [← HQ.out] at yE
      obtain ⟨A18, c18, rfl⟩ := hu2.form
      refine wpl_put_blk yE [.int .i64 (k : Int), .slice A18 es.length c18] (by kernel_rfl) rfl (by intro v hv; simp at hv; rcases hv with rfl | rfl <;> rfl) rfl rfl rfl rfl ?_
      intro w6 hB6 hg6
      have kk : Keeps (fun k => k = q + 1) wE w6 := (Keeps.of_grown hg6).mono fun i hi => by injection hi
      have hwE : Below w.heap.size w wE := below_next hS.1 HH.out.2.1
      have hb6 : Below w.heap.size w w6 := hwE.trans (kk.below hwE.size (fun i hi => by have := HQ.out; omega))
      have hfin := hu2.other kk (fun p hp _ => by have := hu3 p hp; omega)
      have hD6 : ∀ D ∈ Ds, gC + 2 ≤ D ∧ w6.heap[D]? = some (.deferred (some [])) := fun D hD => by
        have h0 := HH.out.2.2.1.2 D hD
        have hl0 := (Array.getElem?_eq_some_iff.1 h0.2).1
        exact ⟨h0.1, (kk.block D (by have := hS.1.size; omega) (by omega)).trans ((hS.1.block D hl0).trans h0.2)⟩
      have HE := Lib.hid (And.intro hfin (And.intro hb6 (And.intro hB6 hD6)))
      clear hfin hb6 hwE kk hg6 yE hu2 hu3 hS hB6 hD6
      go_wp2_with fail
      refine leaves_marks (gC + 2) (fun W => Blk W (q + 1) 72 [.int .i64 (k : Int), .slice A18 es.length c18] ∧ SlV W 2 (.slice A18 es.length c18) es.length (edcs es) ∧ Below w.heap.size w W) (fun W D hD hT hd => ?_) (fun W hT => ?_) Ds w6 HH.out.2.2.1.1 HE.out.2.2.2 ⟨HE.out.2.2.1, HE.out.1, HE.out.2.1⟩
      · have hg := grownBy_putObj' W D (.deferred none)
        have hlD := (Array.getElem?_eq_some_iff.1 hd).1
        exact ⟨(hg.block _ hT.1.lt (fun e => by injection e with e; omega)).trans hT.1, hT.2.1.kept hg (fun r e => by injection e with e; subst e; exact ⟨_, hd, rfl⟩), hT.2.2.grown hg hT.2.2.size (fun i e => by injection e with e; have := HQ.out; have := HGC.out; omega)⟩
      · exact ⟨_, results_cell_tmp rfl _ _ (q + 1) _ _ (0, 0) _ rfl hT.1 Tryd.underlying72 rfl (by kernel_rfl), _, rfl, ⟨_, rfl, hT.2.1⟩, hT.2.2⟩
end Go.Proofs.YtkjmddgnfgbioaaDoor


namespace Go.Proofs.YtkjmddgnfgbioaaDoor
set_option linter.unusedVariables false
set_option linter.unusedSimpArgs false
set_option maxRecDepth 100000
open Go.RowKit

set_option maxHeartbeats 4000000 in
theorem closure_no (R : Int) (hR : R ≠ 0) (w : World) (A : Option Addr) (l c : Nat) (n : Int)
    (hs : ∀ w', Below w.heap.size w w' → Calls Tryd.prog 84 #[.agg #[.int .i64 n, .slice A l c]] w' fun e w'' => ∃ v, e = .returned (.tuple #[v, .int .i64 R]) ∧ v = .slice none 0 0 ∧ Below w'.heap.size w' w'') :
    Calls Tryd.prog 47 #[.agg #[.int .i64 n, .slice A l c]] w fun e w' => e = .returned (.tuple #[.agg #[.int .i64 0, .slice none 0 0], .int .i64 R]) ∧ Below w.heap.size w w' := by
  have hba : Below w.heap.size w ((w.alloc (.cells #[.int .i64 n, .slice A l c] 72)).alloc (.cells #[.int .i64 0, .slice none 0 0] 72)) := below_alloc (below_alloc (Below.refl _ _) _) _
  have x0 := (Blk.new w 72 [.int .i64 n, .slice A l c]).alloc (.cells #[.int .i64 0, .slice none 0 0] 72)
  have y0 := Blk.new (w.alloc (.cells #[.int .i64 n, .slice A l c] 72)) 72 [.int .i64 0, .slice none 0 0]
  simp only [World.size_alloc] at y0
  have g0 : (R != 0) = true := by simpa using hR
  have HR := Lib.hid hR
  clear hR
  go_enter Tryd.func47, Tryd.ntmps47
  go_upto_region 1 with (fail)
  generalize (w.alloc (.cells #[.int .i64 n, .slice A l c] 72)).alloc (.cells #[.int .i64 0, .slice none 0 0] 72) = W0 at x0 y0 hba ⊢
  have d0 : W0.cell? ⟨w.heap.size, 0, none⟩ = some (.int .i64 n) := (x0.cell 0).trans rfl
  have d1 : W0.cell? ⟨w.heap.size, 1, none⟩ = some (.slice A l c) := (x0.cell 1).trans rfl
  go_wp2_with fail
  refine (hs W0 hba).mono ?_
  rintro e w1 ⟨v, rfl, rfl, hb1⟩
  have y1 := y0.below hb1
  have hb01 := below_next hb1 hba
  clear d0 d1 x0 y0 hs hb1 hba
  go_wp2_with (refine wpl_put_blk y1 [.int .i64 0, .slice none 0 0] (by kernel_rfl) rfl (by intro v hv; simp at hv; rcases hv with rfl | rfl <;> rfl) rfl rfl rfl rfl ?_; intro w6 hB6 hg6)
  have hb6 : Below w.heap.size w w6 := hb01.trans (below_of_grown hg6 hb01.size (by omega))
  refine ret_blk2 hB6 rfl rfl Tryd.underlying72 rfl (by kernel_rfl) rfl ?_
  exact ⟨rfl, hb6⟩

set_option maxHeartbeats 4000000 in
theorem core_no (R : Int) (hR : R ≠ 0) (w : World) (A : Option Addr) (l c : Nat) (n : Int)
    (hs : ∀ w', Below w.heap.size w w' → Calls Tryd.prog 84 #[.agg #[.int .i64 n, .slice A l c]] w' fun e w'' => ∃ v, e = .returned (.tuple #[v, .int .i64 R]) ∧ v = .slice none 0 0 ∧ Below w'.heap.size w' w'') :
    Calls Tryd.prog 49 #[.agg #[.int .i64 n, .slice A l c]] w fun e w' => e = .returned (.tuple #[.agg #[.int .i64 0, .slice none 0 0], .int .i64 R]) ∧ Below w.heap.size w w' := by
  have hba : Below w.heap.size w ((w.alloc (.cells #[.int .i64 n, .slice A l c] 72)).alloc (.cells #[.int .i64 0, .slice none 0 0] 72)) := below_alloc (below_alloc (Below.refl _ _) _) _
  have x0 := (Blk.new w 72 [.int .i64 n, .slice A l c]).alloc (.cells #[.int .i64 0, .slice none 0 0] 72)
  have y0 := Blk.new (w.alloc (.cells #[.int .i64 n, .slice A l c] 72)) 72 [.int .i64 0, .slice none 0 0]
  simp only [World.size_alloc] at y0
  have g0 : (R != 0) = true := by simpa using hR
  have HR := Lib.hid hR
  clear hR
  go_enter Tryd.func49, Tryd.ntmps49
  go_upto_region 1 with (fail)
  generalize (w.alloc (.cells #[.int .i64 n, .slice A l c] 72)).alloc (.cells #[.int .i64 0, .slice none 0 0] 72) = W0 at x0 y0 hba ⊢
  have d0 : W0.cell? ⟨w.heap.size, 0, none⟩ = some (.int .i64 n) := (x0.cell 0).trans rfl
  have d1 : W0.cell? ⟨w.heap.size, 1, none⟩ = some (.slice A l c) := (x0.cell 1).trans rfl
  go_wp2_with fail
  refine (hs W0 hba).mono ?_
  rintro e w1 ⟨v, rfl, rfl, hb1⟩
  have y1 := (y0.below hb1).alloc (.cells #[.slice none 0 0] 103)
  have hb01 := below_alloc (below_next hb1 hba) (.cells #[.slice none 0 0] 103)
  clear d0 d1 x0 y0 hs hb1 hba
  go_wp2_with (refine wpl_put_blk y1 [.int .i64 0, .slice none 0 0] (by kernel_rfl) rfl (by intro v hv; simp at hv; rcases hv with rfl | rfl <;> rfl) rfl rfl rfl rfl ?_; intro w6 hB6 hg6)
  have hb6 : Below w.heap.size w w6 := hb01.trans (below_of_grown hg6 hb01.size (by omega))
  refine ret_blk2 hB6 rfl rfl Tryd.underlying72 rfl (by kernel_rfl) rfl ?_
  exact ⟨rfl, hb6⟩

theorem behind_calls (n : Int) (es : List Gr.Er) (w : World) (A : Option Addr) (c : Nat) (hA : SlV w 2 (.slice A es.length c) es.length (ercs es)) (hle : es.length ≤ 1099511627776) (hT : Tab w) :
    ∀ w', Below w.heap.size w w' → Calls Tryd.prog 84 #[.agg #[.int .i64 n, .slice A es.length c]] w' fun e w'' => ∃ v, e = .returned (.tuple #[v, .int .i64 (Gr.wrong n es)]) ∧ (Gr.wrong n es ≠ 0 → v = .slice none 0 0) ∧ (Gr.wrong n es = 0 → SlW w'' v (Gr.behW n.toNat (Gr.nat es))) ∧ Below w'.heap.size w' w'' :=
  fun w' hb => behind_any n es w' A c (hA.below hb) hle (hT.later hT.lt hb)

theorem closure_any (n : Int) (es : List Gr.Er) (w : World) (A : Option Addr) (c : Nat) (hA : SlV w 2 (.slice A es.length c) es.length (ercs es)) (hle : es.length ≤ 1099511627776) (hT : Tab w) :
    Calls Tryd.prog 47 #[.agg #[.int .i64 n, .slice A es.length c]] w fun e w' => ∃ g, e = .returned (.tuple #[g, .int .i64 (Gr.wrong n es)]) ∧ (Gr.wrong n es ≠ 0 → g = .agg #[.int .i64 0, .slice none 0 0]) ∧ (Gr.wrong n es = 0 → IsG n.toNat (Gr.edW (Gr.behW n.toNat (Gr.nat es))) g w') ∧ Below w.heap.size w w' := by
  have hs := behind_calls n es w A c hA hle hT
  by_cases h0 : Gr.wrong n es = 0
  · obtain ⟨hok, N, rfl, hN, hes, hln, hl⟩ := Gr.wrong_zero h0
    rw [Int.toNat_natCast] at hs ⊢
    refine (closure_yes N (Gr.behW N (Gr.nat es)) w A es.length c hN (Gr.behW_length _ _) (Gr.behW_gs fun e he => (hes e he).2) hT fun w' hb => (hs w' hb).mono ?_).mono ?_
    · rintro e w'' ⟨v, rfl, -, h2, h3⟩
      exact ⟨v, by rw [h0], h2 h0, h3⟩
    · rintro e w' ⟨g, rfl, h1, h2⟩
      exact ⟨g, by rw [h0], fun h => absurd h0 h, fun _ => h1, h2⟩
  · refine (closure_no (Gr.wrong n es) h0 w A es.length c n fun w' hb => (hs w' hb).mono ?_).mono ?_
    · rintro e w'' ⟨v, rfl, h1, -, h3⟩
      exact ⟨v, rfl, h1 h0, h3⟩
    · rintro e w' ⟨rfl, h2⟩
      exact ⟨_, rfl, fun _ => rfl, fun h => absurd h h0, h2⟩
theorem core_any (n : Int) (es : List Gr.Er) (w : World) (A : Option Addr) (c : Nat) (hA : SlV w 2 (.slice A es.length c) es.length (ercs es)) (hle : es.length ≤ 1099511627776) (hT : Tab w) :
    Calls Tryd.prog 49 #[.agg #[.int .i64 n, .slice A es.length c]] w fun e w' => ∃ g, e = .returned (.tuple #[g, .int .i64 (Gr.wrong n es)]) ∧ (Gr.wrong n es ≠ 0 → g = .agg #[.int .i64 0, .slice none 0 0]) ∧ (Gr.wrong n es = 0 → IsG n.toNat (Gr.edW (Gr.coreW (Gr.behW n.toNat (Gr.nat es)))) g w') ∧ Below w.heap.size w w' := by
  have hs := behind_calls n es w A c hA hle hT
  by_cases h0 : Gr.wrong n es = 0
  · obtain ⟨hok, N, rfl, hN, hes, hln, hl⟩ := Gr.wrong_zero h0
    rw [Int.toNat_natCast] at hs ⊢
    refine (core_yes N (Gr.behW N (Gr.nat es)) w A es.length c hN (Gr.behW_length _ _) (Gr.behW_gs fun e he => (hes e he).2) hT fun w' hb => (hs w' hb).mono ?_).mono ?_
    · rintro e w'' ⟨v, rfl, -, h2, h3⟩
      exact ⟨v, by rw [h0], h2 h0, h3⟩
    · rintro e w' ⟨g, rfl, h1, h2⟩
      exact ⟨g, by rw [h0], fun h => absurd h0 h, fun _ => h1, h2⟩
  · refine (core_no (Gr.wrong n es) h0 w A es.length c n fun w' hb => (hs w' hb).mono ?_).mono ?_
    · rintro e w'' ⟨v, rfl, h1, -, h3⟩
      exact ⟨v, rfl, h1 h0, h3⟩
    · rintro e w' ⟨rfl, h2⟩
      exact ⟨_, rfl, fun _ => rfl, fun h => absurd h h0, h2⟩
end Go.Proofs.YtkjmddgnfgbioaaDoor


namespace Go.Proofs.YtkjmddgnfgbioaaDoor.Gr
set_option linter.unusedVariables false
set_option linter.unusedSimpArgs false
set_option maxRecDepth 100000
open Bs
def aEs : List Er := [(2, 0), (0, 1), (2, 1)]
theorem a_take : take 3 (nat aEs) = [2, 0, 1] := by decide +kernel
theorem a_wrong : wrong 3 aEs = 0 := by decide +kernel
theorem a_loop : wrong 1 [(0, 0)] = 3 := by decide +kernel
theorem a_beh : behW 3 (nat aEs) = [[2], [], [3]] := by decide +kernel
theorem a_core : (edW (coreW (behW 3 (nat aEs)))).length = 2 := by
  rw [a_beh]
  decide +kernel
end Go.Proofs.YtkjmddgnfgbioaaDoor.Gr


namespace Go.Proofs.YtkjmddgnfgbioaaDoor
set_option linter.unusedVariables false
set_option linter.unusedSimpArgs false
set_option maxRecDepth 100000
open Go.RowKit

set_option maxHeartbeats 4000000 in
theorem alive2_any (w : World) (hT : Tab w) : Calls Tryd.prog 42 #[] w fun e w' => e = .returned (.bool true) ∧ Below w.heap.size w w' := by
  have hb0 : Below w.heap.size w ((w.alloc (.cells #[.int .i64 2, .int .i64 0, .int .i64 0, .int .i64 1, .int .i64 2, .int .i64 1] 75)).alloc (.cells #[.int .i64 3, .slice (some ⟨w.heap.size, 0, none⟩) 3 3] 72)) := below_alloc (below_alloc (Below.refl _ _) _) _
  have hA : SlV ((w.alloc (.cells #[.int .i64 2, .int .i64 0, .int .i64 0, .int .i64 1, .int .i64 2, .int .i64 1] 75)).alloc (.cells #[.int .i64 3, .slice (some ⟨w.heap.size, 0, none⟩) 3 3] 72)) 2 (.slice (some ⟨w.heap.size, 0, none⟩) 3 3) 3 (ercs Gr.aEs) := (SlV.lit w (ercs Gr.aEs) 75 2 3 rfl (by decide)).below (below_alloc (Below.refl _ _) _)
  have y0 := Blk.new (w.alloc (.cells #[.int .i64 2, .int .i64 0, .int .i64 0, .int .i64 1, .int .i64 2, .int .i64 1] 75)) 72 [.int .i64 3, .slice (some ⟨w.heap.size, 0, none⟩) 3 3]
  simp only [World.size_alloc] at y0
  go_enter Tryd.func42, Tryd.ntmps42
  go_upto_region 2 with (fail)
  generalize ((w.alloc (.cells #[.int .i64 2, .int .i64 0, .int .i64 0, .int .i64 1, .int .i64 2, .int .i64 1] 75)).alloc (.cells #[.int .i64 3, .slice (some ⟨w.heap.size, 0, none⟩) 3 3] 72)) = W0 at hb0 hA y0 ⊢
  have HT := Lib.hid (hT.later hT.lt hb0)
  clear hT
  have hlt := y0.lt
  have c0 : W0.cell? ⟨w.heap.size + 1, 0, none⟩ = some (.int .i64 3) := (y0.cell 0).trans rfl
  have c1 : W0.cell? ⟨w.heap.size + 1, 1, none⟩ = some (.slice (some ⟨w.heap.size, 0, none⟩) 3 3) := (y0.cell 1).trans rfl
  go_wp2_with fail
  refine (sort_any 3 Gr.aEs W0 _ 3 hA (by decide) HT.out).mono ?_
  rintro e w1 ⟨v1, rfl, -, h1, hb1⟩
  rw [Gr.a_wrong] at h1 ⊢
  replace h1 := h1 rfl
  rw [show (3 : Int).toNat = 3 from rfl, Gr.a_take] at h1
  obtain ⟨A1, n1, rfl, -, -⟩ := own_slice h1
  have s1 := own_slV h1
  have A1' := hA.below hb1
  have T1 := HT.out.later HT.out.lt hb1
  have y1 := y0.below hb1
  have c10 : w1.cell? ⟨w.heap.size + 1, 0, none⟩ = some (.int .i64 3) := (y1.cell 0).trans rfl
  have c11 : w1.cell? ⟨w.heap.size + 1, 1, none⟩ = some (.slice (some ⟨w.heap.size, 0, none⟩) 3 3) := (y1.cell 1).trans rfl
  have hb01 := below_next hb1 hb0
  clear c0 c1 hA y0 HT hb0 hb1 h1
  go_wp2_with fail
  refine (behind_any 3 Gr.aEs w1 _ 3 A1' (by decide) T1).mono ?_
  rintro e w2 ⟨v2, rfl, -, h2, hb2⟩
  rw [Gr.a_wrong] at h2 ⊢
  replace h2 := h2 rfl
  rw [show (3 : Int).toNat = 3 from rfl, Gr.a_beh] at h2
  have h2' := h2
  obtain ⟨os, ⟨A2, n2, rfl, -, -, hol, hoc⟩, hos⟩ := h2'
  have s2 := s1.below hb2
  have A2' := A1'.below hb2
  have T2 := T1.later T1.lt hb2
  have y2 := y1.below hb2
  have c20 : w2.cell? ⟨w.heap.size + 1, 0, none⟩ = some (.int .i64 3) := (y2.cell 0).trans rfl
  have c21 : w2.cell? ⟨w.heap.size + 1, 1, none⟩ = some (.slice (some ⟨w.heap.size, 0, none⟩) 3 3) := (y2.cell 1).trans rfl
  have hb02 := below_next hb2 hb01
  clear c10 c11 A1' T1 y1 hb01 hb2 s1
  go_wp2_with fail
  refine (core_any 3 Gr.aEs w2 _ 3 A2' (by decide) T2).mono ?_
  rintro e w3 ⟨v3, rfl, -, h3, hb3⟩
  rw [Gr.a_wrong] at h3 ⊢
  replace h3 := h3 rfl
  rw [show (3 : Int).toNat = 3 from rfl] at h3
  obtain ⟨u3, rfl, h3⟩ := h3
  rw [Gr.a_core] at h3
  obtain ⟨A3, n3, rfl⟩ := h3.form
  have s3 := s2.below hb3
  have T3 := T2.later T2.lt hb3
  have hb03 := below_next hb3 hb02
  have hP : Blk (w3.alloc (.cells #[.int .i64 3, .slice A3 2 n3] 72)) w3.heap.size 72 [.int .i64 3, .slice A3 2 n3] := Blk.new _ _ _
  have hbP : Below w3.heap.size w3 (w3.alloc (.cells #[.int .i64 3, .slice A3 2 n3] 72)) := below_alloc (Below.refl _ _) _
  clear c20 c21 A2' T2 y2 hb02 s2 h3
  go_upto_region 5 with (fail)
  generalize (w3.alloc (.cells #[.int .i64 3, .slice A3 2 n3] 72)) = W5 at hP hbP ⊢
  have s5 := s3.below hbP
  have hb05 := below_next hbP hb03
  have L6 : SlV (W5.alloc (.cells #[.int .i64 2, .int .i64 0, .int .i64 1] 3)) 1 (.slice (some ⟨W5.heap.size, 0, none⟩) 3 3) 3 (ilist [2, 0, 1]) := SlV.lit W5 (ilist [2, 0, 1]) 3 1 3 rfl (by decide)
  have hb6 : Below W5.heap.size W5 (W5.alloc (.cells #[.int .i64 2, .int .i64 0, .int .i64 1] 3)) := below_alloc (Below.refl _ _) _
  have s6 := s5.below hb6
  obtain ⟨v2, hv2⟩ : ∃ v, os[2]? = some v := ⟨_, List.getElem?_eq_getElem (by rw [hol]; decide)⟩
  have su := hos 2 v2 [3] hv2 rfl
  obtain ⟨g, o, rfl, hgl, hcell⟩ := hoc.at_ (fun e => by rw [e] at hv2; simp at hv2)
  obtain ⟨Au, cu, rfl⟩ := slU_form su
  have c2 := hcell 2 _ hv2
  have hb25 : Below w2.heap.size w2 W5 := below_next hbP hb3
  have HX := Lib.hid (And.intro su (And.intro hb25 (And.intro hb05 (T3.later T3.lt hbP))))
  clear s3 s5 hbP hb03 hv2 su hos hcell hoc h2 hol hb3 T3 hb05
  go_wp2_with fail
  refine (equal_i64 _ _ [2, 0, 1] [2, 0, 1] _ s6 L6).mono ?_
  rintro e w7 ⟨rfl, m, rfl⟩
  have hb7 := below_drewN hb6 m
  generalize ((W5.alloc (.cells #[.int .i64 2, .int .i64 0, .int .i64 1] 3)).drewN m) = W7 at hb7 ⊢
  have hb27 := below_next hb7 HX.out.2.1
  have c27 : W7.cell? ⟨g, o + 2, none⟩ = some (.slice Au [3].length cu) := (hb27.cell (p := ⟨g, o + 2, none⟩) hgl).trans c2
  have su7 := HX.out.1.below hb27
  have P7 := hP.below hb7
  have hb07 := below_next hb7 HX.out.2.2.1
  have e0 : W7.cell? ⟨w3.heap.size, 1, none⟩ = some (.slice A3 2 n3) := (P7.cell 1).trans rfl
  clear hb6 L6 s6 hP c2
  go_wp2_with fail
  refine (size_any W7 _ [3] su7 (by decide)).mono ?_
  rintro e w8 ⟨rfl, rfl⟩
  go_wp2_with fail
  have hbN : Below W7.heap.size W7 (W7.alloc (.cells #[.int .i64 0, .int .i64 0] 75)) := below_alloc (Below.refl _ _) _
  have L9 : SlV (W7.alloc (.cells #[.int .i64 0, .int .i64 0] 75)) 2 (.slice (some ⟨W7.heap.size, 0, none⟩) 1 1) 1 (ercs [(0, 0)]) := SlV.lit W7 (ercs [(0, 0)]) 75 2 1 rfl (by decide)
  refine (wrong_any 1 [(0, 0)] _ _ 1 L9 (by decide) (HX.out.2.2.2.later HX.out.2.2.2.lt (below_next hbN hb7))).mono ?_
  rintro e w9 ⟨rfl, hb9⟩
  rw [Gr.a_loop]
  have hfin := below_next hb9 (below_next hbN hb07)
  go_wp2_with fail
  go_ret
  exact ⟨rfl, hfin⟩
end Go.Proofs.YtkjmddgnfgbioaaDoor


namespace Go.Proofs.YtkjmddgnfgbioaaDoor
set_option linter.unusedVariables false
set_option linter.unusedSimpArgs false
set_option maxRecDepth 100000
open Go.RowKit Go.Sort

def srt (zs : List Int) : List Int := zs.mergeSort fun x y => decide (x ≤ y)
theorem srt_length (zs : List Int) : (srt zs).length = zs.length := (List.mergeSort_perm zs _).length_eq
theorem srt_perm {a b : List Int} (h : a.Perm b) : srt a = srt b := Go.mergeSort_of_perm_i h

theorem sort_own (v : Value) (zs : List Int) (w : World) (B : Nat) (h : w.ownsRow B 3 1 v zs.length (ints .i64 zs)) (hz : zs.length < 4611686018427387904) :
    Calls Tryd.prog 46 #[v] w fun e w' => e = .returned (.tuple #[]) ∧ w'.ownsRow B 3 1 v zs.length (ints .i64 (srt zs)) ∧ w.grownBy w' v.ownBlock := by
  rcases h.2 with ⟨rfl, h0⟩ | ⟨g, cap, cur, rfl, hB, hg, hle, hm, hsz, ht⟩
  · have hz0 : zs.length = 0 := h0
    rw [hz0]
    refine (Tryd.slices_Sort_int_none none 0 w).mono ?_
    rintro e w' ⟨rfl, rfl⟩
    have : zs = [] := List.eq_nil_of_length_eq_zero hz0
    subst this
    exact ⟨rfl, by simpa [srt] using h, World.grownBy.refl _ _⟩
  · have ht' : cur.toList.take zs.length = zs.map (Value.int .i64) := by simpa [ints] using ht
    have hgl : g < w.heap.size := (Array.getElem?_eq_some_iff.1 hg).1
    refine (Tryd.slices_Sort_int g 0 cap zs w (holds_of_blockI hg ht') hgl hz).mono ?_
    rintro e w' ⟨rfl, n, os, rfl⟩
    refine ⟨rfl, ?_, grownBy_sortedI _⟩
    have := ownsRow_sortedI (base := B) (n := n) (os := os) (ss := zs) (ts := srt zs) (srt_length zs) hB hg hle hm (by simpa using hsz)
    unfold srt at this ⊢
    simpa [ints] using this
end Go.Proofs.YtkjmddgnfgbioaaDoor


namespace Go.Proofs.YtkjmddgnfgbioaaDoor.Gr
set_option linter.unusedVariables false
set_option linter.unusedSimpArgs false
set_option maxRecDepth 100000

/-- where each stands, by one more; 0: nowhere -/
def at_ (l : List Int) : Int → Int := l.zipIdx.foldl (fun f p => fun x => if x = p.1 then (p.2 : Int) + 1 else f x) (fun _ => 0)
theorem at_nil : at_ [] = fun _ => 0 := rfl
theorem at_snoc (l : List Int) (a : Int) : at_ (l ++ [a]) = fun x => if x = a then (l.length : Int) + 1 else at_ l x := by
  unfold at_
  rw [List.zipIdx_append, List.foldl_append]
  simp
theorem at_pos (l : List Int) (x : Int) : 0 ≤ at_ l x ∧ at_ l x ≤ l.length := by
  suffices h : ∀ k, k ≤ l.length → 0 ≤ at_ (l.take k) x ∧ at_ (l.take k) x ≤ k by
    have := h l.length (Nat.le_refl _)
    rwa [List.take_length] at this
  intro k
  induction k with
  | zero => intro _; rw [List.take_zero, at_nil]; simp
  | succ k ih =>
    intro hk
    obtain ⟨h1, h2⟩ := ih (by omega)
    rw [List.take_succ_eq_append_getElem (by omega), at_snoc]
    have hl : (l.take k).length = k := by rw [List.length_take]; omega
    dsimp only
    rw [hl]
    split <;> omega
theorem at_get {l : List Int} (hn : l.Nodup) : ∀ k, k ≤ l.length → ∀ (i : Nat) (x : Int), l[i]? = some x → at_ (l.take k) x = if i < k then (i : Int) + 1 else 0
  | 0, _, i, x, _ => by rw [List.take_zero, at_nil]; simp
  | k + 1, hk, i, x, hx => by
    have hl : (l.take k).length = k := by rw [List.length_take]; omega
    rw [List.take_succ_eq_append_getElem (by omega), at_snoc]
    dsimp only
    rw [hl]
    obtain ⟨hi, rfl⟩ := List.getElem?_eq_some_iff.1 hx
    by_cases e : i = k
    · subst e
      rw [if_pos rfl, if_pos (by omega)]
    · rw [if_neg (fun h => e ((List.getElem_inj hn).1 h)), at_get hn k (by omega) i _ hx]
      by_cases h : i < k
      · rw [if_pos h, if_pos (by omega)]
      · rw [if_neg h, if_neg (by omega)]
/-- is one of an edge's nodes nowhere, or do they stand the wrong way round? -/
def bad1 (l : List Int) (e : Er) : Bool := at_ l e.1 == 0 || (at_ l e.2 == 0 || decide (at_ l e.2 ≤ at_ l e.1))
def leads (l : List Int) (es : List Er) : Bool := es.all fun e => !bad1 l e

theorem take_perm {N : Nat} {es : List Ed} (hl : (take N es).length = N) : (take N es).Perm (List.range N) := by
  have hg := good_take N es
  refine (List.perm_ext_iff_of_nodup hg.1 List.nodup_range).2 fun m => ?_
  rw [List.mem_range]
  exact ⟨hg.2 m, hg.full hl m⟩
/-- THE LAW: what is sorted leads on -/
theorem sorted_leads {n : Int} {es : List Er} (h : wrong n es = 0) : leads ((take n.toNat (nat es)).map Int.ofNat) es = true ∧ (take n.toNat (nat es)).length = n.toNat := by
  unfold wrong at h
  split at h
  · rename_i hok
    split at h
    · cases h
    · rename_i hlen
      have hg := good_take n.toNat (nat es)
      have hl : (take n.toNat (nat es)).length = n.toNat := Nat.le_antisymm hg.length (by omega)
      refine ⟨?_, hl⟩
      obtain ⟨h0, h2, hes⟩ := okG_iff.1 hok
      unfold leads
      rw [List.all_eq_true]
      intro e he
      obtain ⟨e1, e2, e3, e4⟩ := hes e he
      obtain ⟨L, hL⟩ : ∃ L, L = take n.toNat (nat es) := ⟨_, rfl⟩
      rw [← hL] at hg hl ⊢
      have hnd : (L.map Int.ofNat).Nodup := by
        rw [List.nodup_iff_pairwise_ne, List.pairwise_map]
        exact hg.1.imp fun h h' => h (by injection h')
      have hat : ∀ (i m : Nat), L[i]? = some m → at_ (L.map Int.ofNat) (m : Int) = (i : Int) + 1 := fun i m hm => by
        have := at_get hnd (L.map Int.ofNat).length (Nat.le_refl _) i (m : Int) (by rw [List.getElem?_map, hm]; rfl)
        rw [List.take_length] at this
        rw [this, if_pos]
        rw [List.length_map]
        exact (List.getElem?_eq_some_iff.1 hm).1
      obtain ⟨j, hj⟩ := List.getElem?_of_mem (hg.full hl e.2.toNat (by omega))
      have hmem : (e.1.toNat, e.2.toNat) ∈ nat es := List.mem_map.2 ⟨e, he, rfl⟩
      obtain ⟨i, hij, hi⟩ := hg.up (.one hmem) j hj
      have a1 := hat i _ hi
      have a2 := hat j _ hj
      rw [Int.toNat_of_nonneg e1] at a1
      rw [Int.toNat_of_nonneg e2] at a2
      unfold bad1
      rw [a1, a2]
      simp
      omega
  · cases h
/-- THE LAW: what goes round does not lead on, in no order -/
theorem round_leads {n : Int} {es : List Er} (h : wrong n es = 3) (l : List Int) : leads l es = false := by
  unfold wrong at h
  split at h
  · rename_i hok
    split at h
    · rename_i hlen
      rcases hld : leads l es with _ | _
      · rfl
      · exfalso
        unfold leads at hld
        rw [List.all_eq_true] at hld
        obtain ⟨h0, h2, hes⟩ := okG_iff.1 hok
        have hst := nxt_none (take_stop n.toNat (nat es))
        -- one that is least of those left out
        have key : ∀ k m : Nat, m < n.toNat → m ∉ take n.toNat (nat es) → (at_ l (m : Int)).toNat ≤ k → False := by
          intro k
          induction k with
          | zero =>
            intro m hm hnot hk
            have hr := hst m hm
            have : ¬ (rdy (nat es) (take n.toNat (nat es)) m = true) := by rw [hr]; simp
            rw [rdy_iff] at this
            refine this ⟨hnot, fun e he e2 => ?_⟩
            exfalso
            obtain ⟨x, hx, rfl⟩ := List.mem_map.1 he
            have hx2 := hes x hx
            have hb := hld x hx
            unfold bad1 at hb
            have e3 : ((x.2.toNat : Nat) : Int) = x.2 := Int.toNat_of_nonneg hx2.2.1
            dsimp only at e2
            rw [← e2, e3] at hk
            have hp := at_pos l x.2
            have : at_ l x.2 = 0 := by omega
            rw [this] at hb
            simp at hb
          | succ k ih =>
            intro m hm hnot hk
            have hr := hst m hm
            have : ¬ (rdy (nat es) (take n.toNat (nat es)) m = true) := by rw [hr]; simp
            rw [rdy_iff] at this
            refine this ⟨hnot, fun e he e2 => ?_⟩
            obtain ⟨x, hx, rfl⟩ := List.mem_map.1 he
            have hx2 := hes x hx
            have hb := hld x hx
            unfold bad1 at hb
            have e3 : ((x.2.toNat : Nat) : Int) = x.2 := Int.toNat_of_nonneg hx2.2.1
            have e4 : ((x.1.toNat : Nat) : Int) = x.1 := Int.toNat_of_nonneg hx2.1
            dsimp only at e2 ⊢
            rw [← e2, e3] at hk
            apply Classical.byContradiction
            intro hnot1
            have hp1 := at_pos l x.1
            simp at hb
            refine ih x.1.toNat (by omega) hnot1 ?_
            rw [e4]
            omega
        -- there is one
        have hg := good_take n.toNat (nat es)
        have : ∃ m, m < n.toNat ∧ m ∉ take n.toNat (nat es) := by
          apply Classical.byContradiction
          intro hno
          have hsub : ∀ m ∈ List.range n.toNat, m ∈ take n.toNat (nat es) := fun m hm => by
            apply Classical.byContradiction
            exact fun h => hno ⟨m, List.mem_range.1 hm, h⟩
          have := List.nodup_range.length_le_of_subset hsub
          rw [List.length_range] at this
          omega
        obtain ⟨m, hm, hnot⟩ := this
        exact key _ m hm hnot (Nat.le_refl _)
    · cases h
  · cases h
theorem wrong_is (n : Int) (es : List Er) : wrong n es = 0 ∨ wrong n es = 2 ∨ wrong n es = 3 := by
  unfold wrong
  split
  · split
    · exact .inr (.inr rfl)
    · exact .inl rfl
  · exact .inr (.inl rfl)
end Go.Proofs.YtkjmddgnfgbioaaDoor.Gr


namespace Go.Proofs.YtkjmddgnfgbioaaDoor
set_option linter.unusedVariables false
set_option linter.unusedSimpArgs false
set_option maxRecDepth 100000
open Go.RowKit

theorem edcs_get (l : List (Nat × Nat)) (i : Nat) (p : Nat × Nat) (h : l[i]? = some p) : (edcs l)[i * 2]? = some (.int .i64 (p.1 : Int)) ∧ (edcs l)[i * 2 + 1]? = some (.int .i64 (p.2 : Int)) :=
  ⟨flat_get edc 2 (fun _ => rfl) l i 0 p h (by omega), flat_get edc 2 (fun _ => rfl) l i 1 p h (by omega)⟩
end Go.Proofs.YtkjmddgnfgbioaaDoor


namespace Go.Proofs.YtkjmddgnfgbioaaDoor
set_option linter.unusedVariables false
set_option linter.unusedSimpArgs false
set_option maxRecDepth 100000
open Go.ChangeShapes Go.WideShapes Go.ChangeAt Go.RowKit Go.Deep

/-- every field is an int of one cell, and they lie one behind the other -/
def intFields (P : Program) (fs : Array Field) : Bool :=
  (List.range fs.size).all fun j => match fs[j]? with
    | some f => f.offset == j && P.cellsOf f.type == 1 && (match P.underlying f.type with | some (.int .i64) => true | _ => false)
    | none => false

theorem intFields_at {P : Program} {fs : Array Field} (h : intFields P fs = true) {j : Nat} (hj : j < fs.size) : ∃ f, fs[j]? = some f ∧ f.offset = j ∧ P.cellsOf f.type = 1 ∧ P.underlying f.type = some (.int .i64) := by
  have := List.all_eq_true.1 h j (by simpa using hj)
  rw [Array.getElem?_eq_getElem hj] at this
  simp only [Bool.and_eq_true, beq_iff_eq] at this
  refine ⟨fs[j], Array.getElem?_eq_getElem hj, this.1.1, this.1.2, ?_⟩
  have h3 := this.2
  split at h3
  · assumption
  · cases h3

def irow (r : List Int) : List Value := ints .i64 r

section
variable {H : Type} {enc : TypeId × Value → H} {P : Program} {w : World}

/-- one struct's cells are integers -/
theorem struct_ints {e : TypeId} {fs : Array Field} {n fuel : Nat} {cs : List Value} {x : DataW H × List MemPlace} (he : P.underlying e = some (.struct fs)) (hn : fs.size = n) (hC : P.cellsOf e = n) (hf : intFields P fs = true)
    (h : DataW.trod enc P w 0 (fun _ => true) true fuel e cs = some x) : ∃ r : List Int, r.length = n ∧ cs = irow r ∧ Wfs .i64 r := by
  obtain ⟨xs, m, _, _, hl, hxl, hfs⟩ := DataW.trod_struct he h
  rw [hC] at hl
  have each : ∀ j, j < n → ∃ k : Int, cs[j]? = some (.int .i64 k) ∧ (Lit.int .i64 k).wf = true := by
    intro j hj
    obtain ⟨f, hfj, ho, hc, hu⟩ := intFields_at hf (j := j) (by omega)
    have h1 := hfs j f hfj
    rw [ho, hc] at h1
    have hxj : xs[j]? = some xs[j] := List.getElem?_eq_getElem (by omega)
    rw [hxj] at h1
    obtain ⟨k, hk, _, hw⟩ := DataW.trod_int hu h1
    refine ⟨k, ?_, hw⟩
    have := congrArg (fun l => l[0]?) hk
    simp only [List.getElem?_cons_zero] at this
    rw [← this, List.getElem?_take, if_pos (by decide), List.getElem?_drop, Nat.add_zero]
  refine ⟨(List.range n).map fun j => intOf (cs.getD j undef), by simp, ?_, ?_⟩
  · apply List.ext_getElem?
    intro j
    by_cases hj : j < n
    · obtain ⟨k, hk, _⟩ := each j hj
      rw [hk]
      simp [irow, ints, hj, hk, List.getD, intOf]
    · rw [List.getElem?_eq_none (by omega), List.getElem?_eq_none (by simp [irow, ints]; omega)]
  · intro y hy
    obtain ⟨j, hj, rfl⟩ := List.mem_map.1 hy
    obtain ⟨k, hk, hw⟩ := each j (by simpa using hj)
    simp only [List.getD, hk, Option.getD_some, intOf]
    exact hw

/-- an argument that is a slice of structs of n integers -/
theorem open_rows {t e : TypeId} {fs : Array Field} {n : Nat} {v : Value} {d : DataW H} {ps : List MemPlace} (ht : P.underlying t = some (.slice e)) (he : P.underlying e = some (.struct fs)) (hn : fs.size = n) (hn0 : 0 < n) (hC : P.cellsOf e = n) (hf : intFields P fs = true)
    (hv : ∃ a len cap, v = .slice a len cap) (h : DataW.Trod enc P w 0 (fun _ => true) true t v d ps) (hlt : ∀ x ∈ ps, x.block < w.heap.size) :
    ∃ rs : List (List Int), (∀ r ∈ rs, r.length = n ∧ Wfs .i64 r) ∧ SlV w n v rs.length (rs.flatMap irow) ∧ ((d = .nil ∧ rs = []) ∨ ∃ (el sp : List (DataW H)), d = .slice el sp ∧ el.length = rs.length) := by
  obtain ⟨a0, len, cap, rfl⟩ := hv
  obtain ⟨fuel, hfu⟩ := h
  rcases open_slice ht hfu with ⟨hcs, hx⟩ | ⟨a, len', cap', m, k, D, Pl, hcs, _, hl, hm, hmm, hx, hi⟩
  · simp [Value.cells] at hcs
    obtain ⟨rfl, rfl, rfl⟩ := hcs
    simp only [Prod.mk.injEq] at hx
    exact ⟨[], by simp, SlV.nil _ _, .inl ⟨hx.1, rfl⟩⟩
  · simp [Value.cells] at hcs
    obtain ⟨rfl, rfl, rfl⟩ := hcs
    simp only [Prod.mk.injEq] at hx
    simp only [if_true] at hmm
    rw [hC] at hi hx
    have each : ∀ i, i < len → ∃ r : List Int, (r.length = n ∧ Wfs .i64 r) ∧ w.cells? 0 (a.add (i * n)) n = some (irow r) := by
      intro i hil
      obtain ⟨cs', hc, htr⟩ := hi i (by omega)
      obtain ⟨r, hr, hcr, hw⟩ := struct_ints he hn hC hf htr
      exact ⟨r, ⟨hr, hw⟩, by rw [hc, hcr]⟩
    obtain ⟨f, hff⟩ := choose_lt each
    have hlen : ∀ r ∈ (List.range len).map f, r.length = n ∧ Wfs .i64 r := by
      intro r hr
      obtain ⟨i, hi', rfl⟩ := List.mem_map.1 hr
      exact (hff i (by simpa using hi')).1
    have hflat : (((List.range len).map f).flatMap irow).length = len * n := by
      have : ∀ l : List (List Int), (∀ r ∈ l, r.length = n) → (l.flatMap irow).length = l.length * n := by
        intro l
        induction l with
        | nil => simp
        | cons r l ih =>
          intro hl'
          rw [List.flatMap_cons, List.length_append, ih (fun x hx => hl' x (by simp [hx])), List.length_cons, Nat.add_mul]
          have := hl' r (by simp)
          simp [irow, ints, this]
          omega
      rw [this _ fun r hr => (hlen r hr).1]
      simp
    refine ⟨(List.range len).map f, hlen, ⟨some a, cap, by simp, by simpa using hl, hm, by simpa using hflat, ?_⟩, .inr ⟨_, _, hx.1, by simp⟩⟩
    by_cases h0 : len = 0
    · subst h0
      exact Cells.nil _ _ _
    · obtain ⟨b, off, spot⟩ := a
      have hcell : ∀ i, i < len → ∀ j u, (irow (f i))[j]? = some u → w.cell? ((⟨b, off, spot⟩ : Addr).add (i * n + j)) = some u := by
        intro i hil j u hu
        have hj : j < n := by
          have := (List.getElem?_eq_some_iff.1 hu).1
          have h1 := (hff i hil).1.1
          simp [irow, ints, h1] at this
          exact this
        obtain ⟨_, _, hat⟩ := World.cells?_some (hff i hil).2
        have := hat j hj
        rw [Go.Deep.add_add] at this
        rw [this, hu]
      have hspot : spot = none := by
        have hr := (hff 0 (by omega)).1.1
        have hex : ∃ u, (irow (f 0))[0]? = some u := ⟨_, List.getElem?_eq_getElem (by simp [irow, ints]; omega)⟩
        obtain ⟨u, hu⟩ := hex
        have := hcell 0 (by omega) 0 u hu
        simpa [Addr.add] using World.cell?_spot this
      subst hspot
      refine ⟨b, off, fun _ => ⟨rfl, hlt (.cell b off) (by
        rw [hx.2]
        refine List.mem_append_left _ (MemPlace.mem_row.2 ⟨0, ?_, by simp⟩)
        exact Nat.mul_pos (by omega) hn0)⟩, fun j u hu => ?_⟩
      have hjl : j < len * n := by
        have := (List.getElem?_eq_some_iff.1 hu).1
        omega
      have hq : j / n < len := Nat.div_lt_of_lt_mul (by rw [Nat.mul_comm]; exact hjl)
      have hr : j % n < n := Nat.mod_lt _ hn0
      have hj : j = j / n * n + j % n := by have := Nat.div_add_mod j n; rw [Nat.mul_comm] at this; omega
      have hget : ((List.range len).map f)[j / n]? = some (f (j / n)) := by simp [hq]
      have key : ∀ (l : List (List Int)), (∀ r ∈ l, r.length = n) → ∀ (q s : Nat) (r : List Int), l[q]? = some r → s < n → (l.flatMap irow)[q * n + s]? = (irow r)[s]? := by
        intro l
        induction l with
        | nil => intro _ q s r h'; simp at h'
        | cons r0 l ih =>
          intro hl' q s r h' hs
          have h00 : (irow r0).length = n := by simp [irow, ints, hl' r0 (by simp)]
          rw [List.flatMap_cons]
          rcases q with _ | q
          · simp at h'
            subst h'
            rw [Nat.zero_mul, Nat.zero_add, List.getElem?_append_left (by omega)]
          · have e : (q + 1) * n + s = (irow r0).length + (q * n + s) := by rw [h00, Nat.add_mul]; omega
            rw [e, List.getElem?_append_right (by omega), Nat.add_sub_cancel_left]
            exact ih (fun x hx => hl' x (by simp [hx])) q s r (by simpa using h') hs
      rw [hj, key _ (fun r hr => (hlen r hr).1) _ _ _ hget hr] at hu
      have := hcell _ hq _ _ hu
      rw [← hj, Addr.add_lit] at this
      exact this
end
end Go.Proofs.YtkjmddgnfgbioaaDoor


namespace Go.Proofs.YtkjmddgnfgbioaaDoor
set_option linter.unusedVariables false
set_option linter.unusedSimpArgs false
set_option maxRecDepth 100000
open Go

def fieldsOf (P : Program) (t : TypeId) : Array Field := match P.underlying t with | some (.struct fs) => fs | _ => #[]
end Go.Proofs.YtkjmddgnfgbioaaDoor


namespace Go.Proofs.YtkjmddgnfgbioaaDoor.Sp
set_option linter.unusedVariables false
set_option linter.unusedSimpArgs false
set_option maxRecDepth 100000

inductive T where
  | nil
  | one (c : Int) (wr : Bool) (lb : Int)
  | two (par : Bool) (l r : T)

abbrev Acc := Int × Bool × Int

def T.leaves : T → List Acc
  | .nil => []
  | .one c b l => [(c, b, l)]
  | .two _ l r => l.leaves ++ r.leaves
def T.size (t : T) : Nat := t.leaves.length
def T.span : T → Nat
  | .nil => 0
  | .one _ _ _ => 1
  | .two par l r => if par then max l.span r.span else l.span + r.span
def T.width : T → Nat
  | .nil => 0
  | .one _ _ _ => 1
  | .two par l r => if par then l.width + r.width else max l.width r.width

theorem T.size_two (p : Bool) (l r : T) : (T.two p l r).size = l.size + r.size := by simp [T.size, T.leaves]
def T.cnt : T → Nat
  | .nil => 1
  | .one _ _ _ => 1
  | .two _ l r => 1 + l.cnt + r.cnt
theorem T.size_le_cnt (t : T) : t.size ≤ t.cnt := by
  induction t with
  | nil => exact Nat.zero_le _
  | one _ _ _ => exact Nat.le_refl _
  | two p l r ihl ihr => rw [T.size_two, T.cnt]; omega
theorem T.span_le (t : T) : t.span ≤ t.size := by
  induction t with
  | nil => exact Nat.le_refl _
  | one _ _ _ => exact Nat.le_refl _
  | two p l r ihl ihr =>
    rw [T.size_two]
    cases p <;> simp only [T.span] <;> simp <;> omega
theorem T.width_le (t : T) : t.width ≤ t.size := by
  induction t with
  | nil => exact Nat.le_refl _
  | one _ _ _ => exact Nat.le_refl _
  | two p l r ihl ihr =>
    rw [T.size_two]
    cases p <;> simp only [T.width] <;> simp <;> omega
theorem T.area (t : T) : t.size ≤ t.span * t.width := by
  induction t with
  | nil => exact Nat.le_refl _
  | one _ _ _ => exact Nat.le_refl _
  | two p l r ihl ihr =>
    rw [T.size_two]
    cases p
    · simp only [T.span, T.width, Bool.false_eq_true, if_false, Nat.add_mul]
      exact Nat.add_le_add (Nat.le_trans ihl (Nat.mul_le_mul_left _ (Nat.le_max_left _ _))) (Nat.le_trans ihr (Nat.mul_le_mul_left _ (Nat.le_max_right _ _)))
    · simp only [T.span, T.width, if_true, Nat.mul_add]
      exact Nat.add_le_add (Nat.le_trans ihl (Nat.mul_le_mul_right _ (Nat.le_max_left _ _))) (Nat.le_trans ihr (Nat.mul_le_mul_right _ (Nat.le_max_right _ _)))
theorem T.zero (t : T) : (t.size = 0 ↔ t.span = 0) ∧ (t.size = 0 ↔ t.width = 0) := by
  have h1 := t.span_le
  have h2 := t.width_le
  have h3 := t.area
  refine ⟨⟨fun h => by omega, fun h => ?_⟩, ⟨fun h => by omega, fun h => ?_⟩⟩
  · rw [h, Nat.zero_mul] at h3; omega
  · rw [h, Nat.mul_zero] at h3; omega
end Go.Proofs.YtkjmddgnfgbioaaDoor.Sp


namespace Go.Proofs.YtkjmddgnfgbioaaDoor
set_option linter.unusedVariables false
set_option linter.unusedSimpArgs false
set_option maxRecDepth 100000
open Go.ChangeShapes Go.WideShapes Go.ChangeAt Go.RowKit
set_option maxRecDepth 100000

def tcells (k c : Int) (b : Bool) (l : Int) (A : Option Addr) (n cap : Nat) : List Value := [.int .i64 k, .int .i64 c, .bool b, .int .i64 l, .slice A n cap]

inductive TmR (B : Nat) (w : World) : List Value → Sp.T → Prop
  | nil (k c : Int) (b : Bool) (l : Int) (A : Option Addr) (n cap : Nat) : n ≤ cap → cap ≤ maxLen → k ≠ 1 → ¬ ((k = 2 ∨ k = 3) ∧ 2 ≤ n) → TmR B w (tcells k c b l A n cap) .nil
  | one (c : Int) (b : Bool) (l : Int) (A : Option Addr) (n cap : Nat) : n ≤ cap → cap ≤ maxLen → TmR B w (tcells 1 c b l A n cap) (.one c b l)
  | two (par : Bool) (c : Int) (b : Bool) (l : Int) (g o n cap : Nat) (cs0 cs1 : List Value) (t0 t1 : Sp.T) : n ≤ cap → cap ≤ maxLen → 2 ≤ n → g < B →
      (∀ j u, cs0[j]? = some u → w.cell? ⟨g, o + j, none⟩ = some u) → (∀ j u, cs1[j]? = some u → w.cell? ⟨g, o + 5 + j, none⟩ = some u) → TmR B w cs0 t0 → TmR B w cs1 t1 →
      TmR B w (tcells (if par then 3 else 2) c b l (some ⟨g, o, none⟩) n cap) (.two par t0 t1)

theorem TmR.form {B : Nat} {w : World} {cs : List Value} {t : Sp.T} (h : TmR B w cs t) : ∃ k c b l A n cap, cs = tcells k c b l A n cap ∧ n ≤ cap ∧ cap ≤ maxLen := by
  cases h with
  | nil k c b l A n cap h1 h2 => exact ⟨_, _, _, _, _, _, _, rfl, h1, h2⟩
  | one c b l A n cap h1 h2 => exact ⟨_, _, _, _, _, _, _, rfl, h1, h2⟩
  | two par c b l g o n cap cs0 cs1 t0 t1 h1 h2 => exact ⟨_, _, _, _, _, _, _, rfl, h1, h2⟩

theorem TmR.keep {B B' : Nat} {w w' : World} {cs : List Value} {t : Sp.T} (h : TmR B w cs t) (hB : B ≤ B') (hk : ∀ p : Addr, p.block < B → w'.cell? p = w.cell? p) : TmR B' w' cs t := by
  induction h with
  | nil k c b l A n cap h1 h2 h3 h4 => exact .nil k c b l A n cap h1 h2 h3 h4
  | one c b l A n cap h1 h2 => exact .one c b l A n cap h1 h2
  | two par c b l g o n cap cs0 cs1 t0 t1 h1 h2 h3 h4 h5 h6 _ _ i0 i1 =>
    exact .two par c b l g o n cap cs0 cs1 t0 t1 h1 h2 h3 (Nat.lt_of_lt_of_le h4 hB) (fun j u hu => (hk ⟨g, o + j, none⟩ h4).trans (h5 j u hu)) (fun j u hu => (hk ⟨g, o + 5 + j, none⟩ h4).trans (h6 j u hu)) i0 i1
theorem TmR.later {B : Nat} {w w' : World} {cs : List Value} {t : Sp.T} (h : TmR B w cs t) (hb : Below B w w') : TmR B w' cs t := h.keep (Nat.le_refl _) (fun _ hp => hb.cell hp)
theorem TmR.alloc {B : Nat} {w : World} {cs : List Value} {t : Sp.T} (h : TmR B w cs t) (hB : B ≤ w.heap.size) (o : Obj) : TmR B (w.alloc o) cs t := h.later ((Below.refl _ _).alloc hB o)

/-! ### an argument -/
theorem bulk_mem {H : Type} {d : DataW H} : ∀ {l : List (DataW H)}, d ∈ l → Rows.uptoBulk d ≤ Rows.uptoBulkAll l
  | x :: l, h => by
    rw [Rows.uptoBulkAll]
    rcases List.mem_cons.1 h with rfl | h
    · omega
    · have := bulk_mem h; omega
theorem bulk_two {H : Type} (x y : DataW H) (l : List (DataW H)) : Rows.uptoBulk x + Rows.uptoBulk y ≤ Rows.uptoBulkAll (x :: y :: l) := by
  rw [Rows.uptoBulkAll, Rows.uptoBulkAll]; omega


theorem open_term {H : Type} {enc : TypeId × Value → H} {w : World} : ∀ (fuel : Nat) (cs : List Value) (x : DataW H × List MemPlace), DataW.trod enc Tryd.prog w 0 (fun _ => true) true fuel 59 cs = some x → (∀ p ∈ x.2, p.block < w.heap.size) →
    ∃ t : Sp.T, TmR w.heap.size w cs t ∧ t.cnt ≤ Rows.uptoBulk x.1 := by
  intro fuel
  induction fuel using Nat.strongRecOn with
  | _ fuel ih =>
    intro cs x h hlt
    have hT : Tryd.prog.underlying 59 = some (.struct (fieldsOf Tryd.prog 59)) := by kernel_rfl
    have hA : Tryd.prog.underlying 56 = some (.struct (fieldsOf Tryd.prog 56)) := by kernel_rfl
    obtain ⟨xs, m, rfl, rfl, hl, hxl, hfs⟩ := DataW.trod_struct hT h
    have e0 : (fieldsOf Tryd.prog 59)[0]?.map (fun f => (f.type, f.offset)) = some (3, 0) := by kernel_rfl
    have e1 : (fieldsOf Tryd.prog 59)[1]?.map (fun f => (f.type, f.offset)) = some (56, 1) := by kernel_rfl
    have e2 : (fieldsOf Tryd.prog 59)[2]?.map (fun f => (f.type, f.offset)) = some (57, 4) := by kernel_rfl
    have hsz : (fieldsOf Tryd.prog 59).size = 3 := by kernel_rfl
    obtain ⟨f0, g0, q0⟩ := Option.map_eq_some_iff.1 e0
    obtain ⟨f1, g1, q1⟩ := Option.map_eq_some_iff.1 e1
    obtain ⟨f2, g2, q2⟩ := Option.map_eq_some_iff.1 e2
    injection q0 with q0 q0'
    injection q1 with q1 q1'
    injection q2 with q2 q2'
    have h0 := hfs 0 f0 g0
    have h1 := hfs 1 f1 g1
    have h2 := hfs 2 f2 g2
    have c0 : Tryd.prog.cellsOf 3 = 1 := by kernel_rfl
    have c1 : Tryd.prog.cellsOf 56 = 3 := by kernel_rfl
    have c2 : Tryd.prog.cellsOf 57 = 1 := by kernel_rfl
    have cT : Tryd.prog.cellsOf 59 = 5 := by kernel_rfl
    have cB : Tryd.prog.cellsOf 4 = 1 := by kernel_rfl
    rw [q0, q0', c0] at h0
    rw [q1, q1', c1] at h1
    rw [q2, q2', c2] at h2
    rw [cT] at hl
    rw [hsz] at hxl
    match xs, hxl, cs, hl with
    | [x0, x1, x2], _, [v0, v1, v2, v3, v4], _ =>
      simp only [List.drop_succ_cons, List.drop_zero, List.take_succ_cons, List.take_zero, List.getElem?_cons_zero, List.getElem?_cons_succ] at h0 h1 h2
      obtain ⟨k, hk, -, -⟩ := DataW.trod_int Tryd.underlying3 h0
      obtain ⟨ys, m1, rfl, -, hl1, hyl, hys⟩ := DataW.trod_struct hA h1
      have d0 : (fieldsOf Tryd.prog 56)[0]?.map (fun f => (f.type, f.offset)) = some (3, 0) := by kernel_rfl
      have d1 : (fieldsOf Tryd.prog 56)[1]?.map (fun f => (f.type, f.offset)) = some (4, 1) := by kernel_rfl
      have d2 : (fieldsOf Tryd.prog 56)[2]?.map (fun f => (f.type, f.offset)) = some (3, 2) := by kernel_rfl
      have hsy : (fieldsOf Tryd.prog 56).size = 3 := by kernel_rfl
      obtain ⟨u0, w0, p0⟩ := Option.map_eq_some_iff.1 d0
      obtain ⟨u1, w1, p1⟩ := Option.map_eq_some_iff.1 d1
      obtain ⟨u2, w2, p2⟩ := Option.map_eq_some_iff.1 d2
      injection p0 with p0 p0'
      injection p1 with p1 p1'
      injection p2 with p2 p2'
      have y0 := hys 0 u0 w0
      have y1 := hys 1 u1 w1
      have y2 := hys 2 u2 w2
      rw [p0, p0', c0] at y0
      rw [p1, p1', cB] at y1
      rw [p2, p2', c0] at y2
      rw [hsy] at hyl
      match ys, hyl with
      | [z0, z1, z2], _ =>
        simp only [List.drop_succ_cons, List.drop_zero, List.take_succ_cons, List.take_zero, List.getElem?_cons_zero, List.getElem?_cons_succ] at y0 y1 y2
        obtain ⟨c, hc, -, -⟩ := DataW.trod_int Tryd.underlying3 y0
        obtain ⟨b, hb, -⟩ := DataW.trod_bool Tryd.underlying4 y1
        obtain ⟨l, hl', -, -⟩ := DataW.trod_int Tryd.underlying3 y2
        simp only [List.cons.injEq, and_true] at hk hc hb hl'
        subst hk hc hb hl'
        have bulk1 : Rows.uptoBulk (DataW.agg (H := H) [x0.1, x1.1, x2.1]) = Rows.uptoBulk x0.1 + (Rows.uptoBulk x1.1 + Rows.uptoBulk x2.1) + 1 := by
          simp [Rows.uptoBulk, Rows.uptoBulkAll]
        have pos : ∀ d : DataW H, 1 ≤ Rows.uptoBulk d := fun d => by
          cases d with
          | lit x => cases x <;> simp [Rows.uptoBulk]
          | _ => simp [Rows.uptoBulk]
        rcases DataW.trod_slice Tryd.underlying57 h2 with ⟨hcs, hx⟩ | ⟨a, len, cap, el, rest, n, hn, hcs, hx, -, hle, hm, hlen, hel, hsp, -⟩
        · simp only [List.cons.injEq, and_true] at hcs
          subst hcs
          by_cases hk1 : k = 1
          · subst hk1
            exact ⟨.one c b l, .one c b l none 0 0 (Nat.le_refl _) (Nat.zero_le _), by have := pos x0.1; simp [Sp.T.cnt, bulk1]⟩
          · exact ⟨.nil, .nil k c b l none 0 0 (Nat.le_refl _) (Nat.zero_le _) hk1 (by omega), by simp [Sp.T.cnt, bulk1]⟩
        · simp only [List.cons.injEq, and_true] at hcs
          subst hcs
          by_cases hk1 : k = 1
          · subst hk1
            exact ⟨.one c b l, .one c b l _ len cap hle hm, by have := pos x0.1; simp [Sp.T.cnt, bulk1]⟩
          · by_cases hk2 : (k = 2 ∨ k = 3) ∧ 2 ≤ len
            · obtain ⟨hk2, h2l⟩ := hk2
              have kid : ∀ i, i < len → ∃ (y : DataW H × List MemPlace) (cs' : List Value) (t : Sp.T), el[i]? = some y ∧ cs'.length = 5 ∧ (∀ j u, cs'[j]? = some u → w.cell? ((a.add (i * 5)).add j) = some u) ∧ TmR w.heap.size w cs' t ∧ t.cnt ≤ Rows.uptoBulk y.1 := by
                intro i hi
                have h3 := hel i hi
                rw [cT, List.getElem?_eq_getElem (by omega)] at h3
                obtain ⟨cs', hc', htr⟩ := Option.bind_eq_some_iff.1 h3
                obtain ⟨hb0, hl5, hat⟩ := World.cells?_some hc'
                obtain ⟨t, ht1, ht2⟩ := ih n (by omega) cs' _ htr (fun p hp => hlt p (by
                  rw [hx]
                  simp only [List.flatMap_cons, List.flatMap_nil, List.mem_append, List.append_nil]
                  exact .inr (.inr (.inr (List.mem_flatMap.2 ⟨el[i], List.mem_append_left _ (List.getElem_mem _), hp⟩)))))
                refine ⟨el[i], cs', t, List.getElem?_eq_getElem (by omega), hl5, fun j u hu => ?_, ht1, ht2⟩
                have hj : j < 5 := by have := (List.getElem?_eq_some_iff.1 hu).1; omega
                rw [hat j hj, hu]
              obtain ⟨ya, csa, ta, ea, la, ca, ra, ba⟩ := kid 0 (by omega)
              obtain ⟨yb, csb, tb, eb, lb, cb, rb, bb⟩ := kid 1 (by omega)
              obtain ⟨g, o, sp⟩ := a
              have hsp0 : sp = none := by
                have := ca 0 _ (List.getElem?_eq_getElem (by omega))
                simpa [Addr.add] using World.cell?_spot this
              subst hsp0
              have ca' : ∀ j u, csa[j]? = some u → w.cell? ⟨g, o + j, none⟩ = some u := fun j u hu => by
                have := ca j u hu
                rw [Addr.add_lit, Addr.add_lit] at this
                simpa using this
              have cb' : ∀ j u, csb[j]? = some u → w.cell? ⟨g, o + 5 + j, none⟩ = some u := fun j u hu => by
                have := cb j u hu
                rw [Addr.add_lit, Addr.add_lit] at this
                simpa using this
              have hg : g < w.heap.size := World.block_lt_of_cell? w _ (ca' 0 _ (List.getElem?_eq_getElem (by omega)))
              have hbulk : ta.cnt + tb.cnt ≤ Rows.uptoBulk x2.1 := by
                rw [hx]
                match el, hlen, ea, eb with
                | e0 :: e1 :: el', _, ea, eb =>
                  simp only [List.getElem?_cons_zero, List.getElem?_cons_succ, Option.some.injEq] at ea eb
                  subst ea eb
                  have := bulk_two e0.1 e1.1 (el'.map (·.1))
                  simp only [List.map_cons, Rows.uptoBulk]
                  omega
              rcases hk2 with rfl | rfl
              · exact ⟨.two false ta tb, .two false c b l g o len cap csa csb ta tb hle hm h2l hg ca' cb' ra rb, by show _ ≤ Rows.uptoBulk (DataW.agg (H := H) [x0.1, x1.1, x2.1]); rw [Sp.T.cnt, bulk1]; omega⟩
              · exact ⟨.two true ta tb, .two true c b l g o len cap csa csb ta tb hle hm h2l hg ca' cb' ra rb, by show _ ≤ Rows.uptoBulk (DataW.agg (H := H) [x0.1, x1.1, x2.1]); rw [Sp.T.cnt, bulk1]; omega⟩
            · exact ⟨.nil, .nil k c b l _ len cap hle hm hk1 hk2, by simp [Sp.T.cnt, bulk1]⟩
end Go.Proofs.YtkjmddgnfgbioaaDoor


namespace Go.Proofs.YtkjmddgnfgbioaaDoor
set_option linter.unusedVariables false
set_option linter.unusedSimpArgs false
set_option maxRecDepth 100000
open Go.RowKit

theorem kids_cells {w : World} {g : Nat} {t : TypeId} {xs ys : List Value} (h : Blk w g t (xs ++ ys)) (hx : xs.length = 5) : (∀ j u, xs[j]? = some u → w.cell? ⟨g, 0 + j, none⟩ = some u) ∧ (∀ j u, ys[j]? = some u → w.cell? ⟨g, 0 + 5 + j, none⟩ = some u) := by
  refine ⟨fun j u hu => ?_, fun j u hu => ?_⟩
  · have hj := (List.getElem?_eq_some_iff.1 hu).1
    rw [h.cell, List.getElem?_append_left (by omega), Nat.zero_add]
    exact hu
  · rw [h.cell, List.getElem?_append_right (by omega), ← hu]
    congr 1
    omega

/-- a term of two, made by the call -/
theorem TmR.made {B : Nat} {w : World} {g : Nat} {xs ys : List Value} {t0 t1 : Sp.T} {tt : TypeId} (par : Bool) (h : Blk w g tt (xs ++ ys)) (hx : xs.length = 5) (hg : g < B) (r0 : TmR B w xs t0) (r1 : TmR B w ys t1) :
    TmR B w (tcells (if par then 3 else 2) 0 false 0 (some ⟨g, 0, none⟩) 2 2) (.two par t0 t1) :=
  .two par 0 false 0 g 0 2 2 xs ys t0 t1 (Nat.le_refl _) (by unfold maxLen; omega) (Nat.le_refl _) hg (kids_cells h hx).1 (kids_cells h hx).2 r0 r1

theorem two_allocs (w : World) (c0 c1 : List Value) (t0 t1 : TypeId) : Blk ((w.alloc (.cells c0.toArray t0)).alloc (.cells c1.toArray t1)) w.heap.size t0 c0 ∧ Blk ((w.alloc (.cells c0.toArray t0)).alloc (.cells c1.toArray t1)) (w.heap.size + 1) t1 c1 ∧ ((w.alloc (.cells c0.toArray t0)).alloc (.cells c1.toArray t1)).heap.size = w.heap.size + 1 + 1 ∧ Keeps (fun _ => False) w ((w.alloc (.cells c0.toArray t0)).alloc (.cells c1.toArray t1)) := by
  have h0 := Blk.new w t0 c0
  have h1 := Blk.new (w.alloc (.cells c0.toArray t0)) t1 c1
  rw [show (w.alloc (.cells c0.toArray t0)).heap.size = w.heap.size + 1 by simp] at h1
  exact ⟨h0.alloc _, h1, by simp, ((Keeps.refl _ w).alloc _).alloc _⟩
theorem four_allocs (w : World) (c0 c1 c2 c3 : List Value) (t0 t1 t2 t3 : TypeId) : Blk ((((w.alloc (.cells c0.toArray t0)).alloc (.cells c1.toArray t1)).alloc (.cells c2.toArray t2)).alloc (.cells c3.toArray t3)) w.heap.size t0 c0 ∧ Blk ((((w.alloc (.cells c0.toArray t0)).alloc (.cells c1.toArray t1)).alloc (.cells c2.toArray t2)).alloc (.cells c3.toArray t3)) (w.heap.size + 1) t1 c1 ∧
    Blk ((((w.alloc (.cells c0.toArray t0)).alloc (.cells c1.toArray t1)).alloc (.cells c2.toArray t2)).alloc (.cells c3.toArray t3)) (w.heap.size + 1 + 1) t2 c2 ∧ Blk ((((w.alloc (.cells c0.toArray t0)).alloc (.cells c1.toArray t1)).alloc (.cells c2.toArray t2)).alloc (.cells c3.toArray t3)) (w.heap.size + 1 + 1 + 1) t3 c3 ∧
    ((((w.alloc (.cells c0.toArray t0)).alloc (.cells c1.toArray t1)).alloc (.cells c2.toArray t2)).alloc (.cells c3.toArray t3)).heap.size = w.heap.size + 1 + 1 + 1 + 1 ∧ Keeps (fun _ => False) w ((((w.alloc (.cells c0.toArray t0)).alloc (.cells c1.toArray t1)).alloc (.cells c2.toArray t2)).alloc (.cells c3.toArray t3)) := by
  obtain ⟨h0, h1, hz, hk⟩ := two_allocs w c0 c1 t0 t1
  obtain ⟨h2, h3, hz2, hk2⟩ := two_allocs ((w.alloc (.cells c0.toArray t0)).alloc (.cells c1.toArray t1)) c2 c3 t2 t3
  rw [hz] at h2 h3 hz2
  exact ⟨(h0.alloc _).alloc _, (h1.alloc _).alloc _, h2, h3, hz2, hk.trans hk2⟩

/-- what is known of a term that lies in a box, while the world goes on -/
structure Boxed (w1 : World) (q : Nat) (k c : Int) (b : Bool) (l : Int) (A : Option Addr) (n cap : Nat) (t : Sp.T) : Prop where
  look : ∀ w', Below w1.heap.size w1 w' → (w'.cell? ⟨q, 0, none⟩ = some (.int .i64 k) ∧ w'.cell? ⟨q, 1, none⟩ = some (.int .i64 c) ∧ w'.cell? ⟨q, 2, none⟩ = some (.bool b) ∧ w'.cell? ⟨q, 3, none⟩ = some (.int .i64 l) ∧ w'.cell? ⟨q, 4, none⟩ = some (.slice A n cap)) ∧
    TmR w'.heap.size w' [.int .i64 k, .int .i64 c, .bool b, .int .i64 l, .slice A n cap] t
theorem Boxed.of {w1 : World} {q : Nat} {k c : Int} {b : Bool} {l : Int} {A : Option Addr} {n cap : Nat} {t : Sp.T} {B : Nat} (hB : Blk w1 q 59 [.int .i64 k, .int .i64 c, .bool b, .int .i64 l, .slice A n cap]) (hT : TmR B w1 [.int .i64 k, .int .i64 c, .bool b, .int .i64 l, .slice A n cap] t) (hb : B ≤ w1.heap.size) : Boxed w1 q k c b l A n cap t :=
  ⟨fun w' h => ⟨⟨by rw [(hB.below h).cell]; rfl, by rw [(hB.below h).cell]; rfl, by rw [(hB.below h).cell]; rfl, by rw [(hB.below h).cell]; rfl, by rw [(hB.below h).cell]; rfl⟩, (hT.later (h.mono hb)).keep (Nat.le_trans hb h.size) (fun _ _ => rfl)⟩⟩

theorem tm_up {B B' : Nat} {w : World} {cs : List Value} {t : Sp.T} (h : TmR B w cs t) (hB : B ≤ B') : TmR B' w cs t := h.keep hB (fun _ _ => rfl)

theorem three_allocs (w : World) (c0 c1 c2 : List Value) (t0 t1 t2 : TypeId) : Blk (((w.alloc (.cells c0.toArray t0)).alloc (.cells c1.toArray t1)).alloc (.cells c2.toArray t2)) w.heap.size t0 c0 ∧ Blk (((w.alloc (.cells c0.toArray t0)).alloc (.cells c1.toArray t1)).alloc (.cells c2.toArray t2)) (w.heap.size + 1) t1 c1 ∧
    Blk (((w.alloc (.cells c0.toArray t0)).alloc (.cells c1.toArray t1)).alloc (.cells c2.toArray t2)) (w.heap.size + 1 + 1) t2 c2 ∧ (((w.alloc (.cells c0.toArray t0)).alloc (.cells c1.toArray t1)).alloc (.cells c2.toArray t2)).heap.size = w.heap.size + 1 + 1 + 1 ∧ Keeps (fun _ => False) w (((w.alloc (.cells c0.toArray t0)).alloc (.cells c1.toArray t1)).alloc (.cells c2.toArray t2)) := by
  obtain ⟨h0, h1, hz, hk⟩ := two_allocs w c0 c1 t0 t1
  have h2 := Blk.new ((w.alloc (.cells c0.toArray t0)).alloc (.cells c1.toArray t1)) t2 c2
  rw [hz] at h2
  exact ⟨h0.alloc _, h1.alloc _, h2, by simp, hk.alloc _⟩

theorem SlV.of_blk {w : World} {g sz n : Nat} {e : TypeId} {cs : List Value} (h : Blk w g e cs) (hl : cs.length = n * sz) (hn : n ≤ 1000000000) : SlV w sz (.slice (some ⟨g, 0, none⟩) n n) n cs :=
  ⟨_, _, rfl, Nat.le_refl _, by unfold maxLen; omega, hl, g, 0, fun _ => ⟨rfl, h.lt⟩, fun j u hu => by rw [Nat.zero_add, h.cell]; exact hu⟩

end Go.Proofs.YtkjmddgnfgbioaaDoor


namespace Go.Proofs.YtkjmddgnfgbioaaDoor
set_option linter.unusedVariables false
set_option linter.unusedSimpArgs false
set_option maxRecDepth 100000
open Go.RowKit Go.Maps

theorem keyed_i64 : Keyed Tryd.prog 3 := int_keyed Tryd.underlying3
theorem zero_i64 (w : World) : (zeroValue 3).run Tryd.prog w = .ok (.int .i64 0) w := by kernel_rfl

structure MapI (w : World) (g n : Nat) (f : Int → Int) : Prop where
  is : ∃ D : DataW Unit, w.ownsMap Tryd.prog 3 (plainElem Tryd.prog 3) g n D ∧ IsMap D ∧ ∀ k, (Lit.int .i64 k).wf = true → D.atKey (.int .i64 k) (.lit (.int .i64 0)) = .lit (.int .i64 (f k))

theorem MapI.made (w : World) : MapI (w.alloc (.map #[] 0)) w.heap.size 0 (fun _ => 0) := ⟨_, World.ownsMap_made _ _ _ _, isMap_empty, fun _ _ => rfl⟩
theorem MapI.lt {w : World} {g n : Nat} {f : Int → Int} (h : MapI w g n f) : g < w.heap.size := by obtain ⟨D, h1, -⟩ := h.is; exact h1.lt
theorem MapI.keep {w w' : World} {g n : Nat} {f : Int → Int} (h : MapI w g n f) (hg : w'.heap[g]? = w.heap[g]?) : MapI w' g n f := by
  obtain ⟨D, ⟨es, clock, hb, F, hs, hD⟩, h2, h3⟩ := h.is
  exact ⟨D, ⟨es, clock, hg.trans hb, F, hs, hD⟩, h2, h3⟩
theorem MapI.below {w w' : World} {g n B : Nat} {f : Int → Int} (h : MapI w g n f) (hb : Below B w w') (hB : g < B) : MapI w' g n f := h.keep (hb.block g hB)
theorem MapI.next {w w' : World} {g n : Nat} {f : Int → Int} (h : MapI w g n f) (hb : Below w.heap.size w w') : MapI w' g n f := h.below hb h.lt
theorem MapI.look {w : World} {g n : Nat} {f : Int → Int} (h : MapI w g n f) {k : Int} (hk : (Lit.int .i64 k).wf = true) : (Instr.lookup 73 (.map (some g)) (.int .i64 k) false).run Tryd.prog w = .ok (.int .i64 (f k)) w := by
  obtain ⟨D, h1, h2, h3⟩ := h.is
  obtain ⟨c, hrun, hat, -⟩ := h1.lookup_int keyed_i64 Tryd.underlying73 Tryd.underlying3 (zero_i64 _) (keyOf_int_mk Tryd.underlying3 hk)
  rw [h3 k hk] at hat
  injection hat with hat
  injection hat with _ hat
  rw [hat]
  exact hrun

theorem wp_mapset {P : Program} (hP : P = Tryd.prog) (w : World) {ops : Array Oper} {rest : List Oper} {o : Oper} {a : Act} {Q : Exit → Act → World → Prop}
    (hg : o.guard = none) (m x v : Operand) (hop : o.op = Op.mapUpdate 73 m x v) (g n : Nat) (f : Int → Int) (hm : a.eval m = .map (some g)) (h : MapI w g n f) (hn : n < maxLen)
    (k u : Int) (hx : a.eval x = .int .i64 k) (hv : a.eval v = .int .i64 u) (hk : (Lit.int .i64 k).wf = true) (hu : (Lit.int .i64 u).wf = true)
    (hK : ∀ w', MapI w' g (n + 1) (fun j => if j = k then u else f j) → w.grownBy w' (some g) → wpList P ops Q rest (a.put o.dst undef) w') :
    wpList P ops Q (o :: rest) a w := by
  subst hP
  obtain ⟨D, h1, h2, h3⟩ := h.is
  refine wpList_mapUpdate_own w hg m x v _ hop _ _ keyed_i64 Tryd.underlying73 _ g n D hm h1 hn _ _ _ hx hv (keyOf_int_mk Tryd.underlying3 hk) _ [] (plainElem_int Tryd.underlying3 hu) ?_
  intro w' hown hgr
  refine hK w' ⟨_, hown, h2.put _ _, fun j hj => ?_⟩ hgr
  by_cases e : j = k
  · subst e
    rw [if_pos rfl, atKey_put_same h2 (by first | trivial | exact ⟨_, _, rfl⟩ | (constructor))]
  · rw [if_neg e, atKey_put_other (by intro h; injection h with _ h; exact e h)]
    exact h3 j hj
end Go.Proofs.YtkjmddgnfgbioaaDoor
