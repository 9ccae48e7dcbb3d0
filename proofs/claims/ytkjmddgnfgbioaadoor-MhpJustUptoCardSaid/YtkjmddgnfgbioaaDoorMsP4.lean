/-
  What the laws hang on: that the package is alive.
-/
import Derived.Test.YtkjmddgnfgbioaaDoorMsP3
import Derived.Test.YtkjmddgnfgbioaaDoorMsP1
import Derived.OrdersIn
import Derived.CallsIn
import Derived.RangeFuncCalls
import Derived.TacticsIn
import Derived.Test.YtkjmddgnfgbioaaDoorMsP2
import Derived.Lib.AppendZeros
import Derived.Laws.StructEq

namespace Go.Proofs.YtkjmddgnfgbioaaDoor.Bs
set_option linter.unusedVariables false
set_option linter.unusedSimpArgs false
set_option maxRecDepth 100000

/-- has n -/
def bit (s : List Nat) (n : Nat) : Bool := (at_ s (n / 64)).testBit (n % 64)
theorem mem_ls : ∀ (s : List Nat) (k n : Nat), Ws s → (n ∈ ls k s ↔ 64 * k ≤ n ∧ (at_ s (n / 64 - k)).testBit (n % 64) = true)
  | [], k, n, _ => by simp [ls, at_nil]
  | x :: r, k, n, h => by
    have hx := h x List.mem_cons_self
    have hr : Ws r := fun y hy => h y (List.mem_cons_of_mem _ hy)
    rw [ls, List.mem_append, mem_ls r (k + 1) n hr, List.mem_map]
    constructor
    · rintro (⟨j, hj, rfl⟩ | ⟨h1, h2⟩)
      · have hj64 := bl_lt64 hx hj
        have hb := (mem_bl x x (Nat.le_refl _) hx j).1 hj
        refine ⟨by omega, ?_⟩
        rw [show (64 * k + j) / 64 - k = 0 by omega, show (64 * k + j) % 64 = j by omega]
        exact hb
      · refine ⟨by omega, ?_⟩
        obtain ⟨m, hm⟩ : ∃ m, n / 64 - k = m + 1 := ⟨n / 64 - k - 1, by omega⟩
        rw [hm]
        rw [show n / 64 - (k + 1) = m by omega] at h2
        exact h2
    · rintro ⟨h1, h2⟩
      by_cases hk : n / 64 - k = 0
      · left
        rw [hk] at h2
        refine ⟨n % 64, (mem_bl x x (Nat.le_refl _) hx _).2 h2, by omega⟩
      · right
        obtain ⟨m, hm⟩ : ∃ m, n / 64 - k = m + 1 := ⟨n / 64 - k - 1, by omega⟩
        rw [hm] at h2
        refine ⟨by omega, ?_⟩
        rw [show n / 64 - (k + 1) = m by omega]
        exact h2
theorem mem_list {s : List Nat} (h : Ws s) (n : Nat) : n ∈ ls 0 s ↔ bit s n = true := by
  rw [mem_ls s 0 n h]
  unfold bit
  simp
theorem ls_rise : ∀ (s : List Nat) (k : Nat), Ws s → (ls k s).Pairwise (· < ·)
  | [], k, _ => List.Pairwise.nil
  | x :: r, k, h => by
    have hx := h x List.mem_cons_self
    have hr : Ws r := fun y hy => h y (List.mem_cons_of_mem _ hy)
    rw [ls, List.pairwise_append]
    refine ⟨?_, ls_rise r (k + 1) hr, fun a ha b hb => ?_⟩
    · rw [List.pairwise_map]
      exact (bl_rise x x (Nat.le_refl _) hx).imp (fun h => by omega)
    · obtain ⟨j, hj, rfl⟩ := List.mem_map.1 ha
      have := bl_lt64 hx hj
      have := ((mem_ls r (k + 1) b hr).1 hb).1
      omega
theorem bit_put (s : List Nat) (n m : Nat) : bit (put s n) m = (bit s m || m == n) := by
  unfold bit
  rw [at_put]
  split
  · rename_i h
    rw [Nat.testBit_or, Nat.testBit_two_pow]
    congr 1
    rw [Bool.eq_iff_iff]
    simp
    omega
  · rename_i h
    have : (m == n) = false := by simp; intro e; rw [e] at h; exact h rfl
    rw [this, Bool.or_false]
theorem ws_put {s : List Nat} (h : Ws s) (n : Nat) : Ws (put s n) := fun x hx => by
  have h64 : 2 ^ (n % 64) < 18446744073709551616 := Nat.pow_lt_pow_right (by decide) (show n % 64 < 64 from Nat.mod_lt _ (by decide))
  unfold put at hx
  rcases List.mem_or_eq_of_mem_set hx with hx | rfl
  · rcases List.mem_append.1 hx with hx | hx
    · exact h x hx
    · rw [(List.mem_replicate.1 hx).2]; decide
  · exact Nat.or_lt_two_pow (n := 64) (h.at_ _) h64
theorem tr_iff (l : List Nat) : Tr l ↔ l = [] ∨ at_ l (l.length - 1) ≠ 0 := by
  rcases List.eq_nil_or_concat l with rfl | ⟨a, x, rfl⟩
  · exact ⟨fun _ => .inl rfl, fun _ => rfl⟩
  · rw [List.concat_eq_append]
    have e : at_ (a ++ [x]) ((a ++ [x]).length - 1) = x := by
      unfold at_
      rw [List.length_append, List.length_singleton, Nat.add_sub_cancel, List.getD_eq_getElem?_getD, List.getElem?_append_right (Nat.le_refl _), Nat.sub_self]
      rfl
    rw [e]
    constructor
    · intro h
      right
      rintro rfl
      unfold Tr at h
      rw [trim_snoc_zero] at h
      have := trim_length a
      rw [h, List.length_append] at this
      simp at this
      omega
    · rintro (h | h)
      · simp at h
      · exact trim_snoc a x h
theorem tr_put {s : List Nat} (h : Tr s) (n : Nat) : Tr (put s n) := by
  rw [tr_iff]
  right
  rw [put_length, at_put]
  have hp : at_ s (n / 64) ||| 2 ^ (n % 64) ≠ 0 := fun e => by
    have := congrArg (fun x => Nat.testBit x (n % 64)) e
    simp at this
  split
  · rename_i e
    rw [← e]
    exact hp
  · rename_i e
    rcases (tr_iff s).1 h with rfl | h
    · simp at e
    · rw [show max s.length (n / 64 + 1) = s.length by omega]
      exact h
theorem of_facts : ∀ l : List Int, Ws (of_ l) ∧ Tr (of_ l) ∧ ∀ n, bit (of_ l) n = true ↔ ∃ x ∈ l, 0 ≤ x ∧ x ≤ 65535 ∧ x.toNat = n := by
  have key : ∀ (l : List Int) (s : List Nat), Ws s → Tr s → Ws (l.foldl add s) ∧ Tr (l.foldl add s) ∧ ∀ n, bit (l.foldl add s) n = true ↔ (bit s n = true ∨ ∃ x ∈ l, 0 ≤ x ∧ x ≤ 65535 ∧ x.toNat = n) := by
    intro l
    induction l with
    | nil => exact fun s h1 h2 => ⟨h1, h2, fun n => by simp⟩
    | cons x l ih =>
      intro s h1 h2
      have g : Ws (add s x) ∧ Tr (add s x) ∧ ∀ n, bit (add s x) n = true ↔ (bit s n = true ∨ (0 ≤ x ∧ x ≤ 65535 ∧ x.toNat = n)) := by
        unfold add
        split
        · rename_i h
          exact ⟨h1, h2, fun n => ⟨.inl, fun h' => h'.elim id (fun h' => by omega)⟩⟩
        · rename_i h
          refine ⟨ws_put h1 _, tr_put h2 _, fun n => ?_⟩
          rw [bit_put, Bool.or_eq_true, beq_iff_eq]
          exact or_congr Iff.rfl ⟨fun e => ⟨by omega, by omega, e.symm⟩, fun e => e.2.2.symm⟩
      obtain ⟨g1, g2, g3⟩ := g
      obtain ⟨i1, i2, i3⟩ := ih (add s x) g1 g2
      refine ⟨i1, i2, fun n => ?_⟩
      show bit (l.foldl add (add s x)) n = true ↔ _
      rw [i3, g3, or_assoc]
      refine or_congr Iff.rfl ⟨?_, ?_⟩
      · rintro (h | ⟨y, hy, h⟩)
        · exact ⟨x, List.mem_cons_self, h⟩
        · exact ⟨y, List.mem_cons_of_mem _ hy, h⟩
      · rintro ⟨y, hy, h⟩
        rcases List.mem_cons.1 hy with rfl | hy
        · exact .inl h
        · exact .inr ⟨y, hy, h⟩
  intro l
  obtain ⟨h1, h2, h3⟩ := key l [] ws_nil rfl
  exact ⟨h1, h2, fun n => by
    show bit (l.foldl add []) n = true ↔ _
    rw [h3]
    have : bit [] n = false := by simp [bit, at_nil]
    rw [this]
    simp⟩
end Go.Proofs.YtkjmddgnfgbioaaDoor.Bs


namespace Go.Proofs.YtkjmddgnfgbioaaDoor.Bs
set_option linter.unusedVariables false
set_option linter.unusedSimpArgs false
set_option maxRecDepth 100000

/-- what is in the list came in -/
theorem back_in (l : List Int) (n : Nat) (h : n ∈ ls 0 (of_ l)) : has (n : Int) l = true := by
  obtain ⟨h1, -, h3⟩ := of_facts l
  obtain ⟨x, hx, h0, -, he⟩ := (h3 n).1 ((mem_list h1 n).1 h)
  exact List.any_eq_true.2 ⟨x, hx, by simp; omega⟩
theorem back_same (l : List Int) : of_ ((ls 0 (of_ l)).map fun (x : Nat) => (x : Int)) = of_ l := by
  obtain ⟨h1, h2, h3⟩ := of_facts l
  obtain ⟨k1, k2, k3⟩ := of_facts ((ls 0 (of_ l)).map fun (x : Nat) => (x : Int))
  refine tr_ext k2 h2 fun i => word_ext fun j => ?_
  by_cases hj : j < 64
  · have e : ∀ s, (at_ s i).testBit j = bit s (64 * i + j) := fun s => by
      unfold bit
      rw [show (64 * i + j) / 64 = i by omega, show (64 * i + j) % 64 = j by omega]
    rw [e, e, Bool.eq_iff_iff, k3]
    constructor
    · rintro ⟨x, hx, h0, hb, he⟩
      obtain ⟨m, hm, rfl⟩ := List.mem_map.1 hx
      rw [← he]
      exact (mem_list h1 _).1 (by simpa using hm)
    · intro hb
      refine ⟨((64 * i + j : Nat) : Int), List.mem_map.2 ⟨_, (mem_list h1 _).2 hb, rfl⟩, by omega, ?_, by omega⟩
      obtain ⟨y, -, h0, h65, he⟩ := (h3 _).1 hb
      omega
  · have big : ∀ s, Ws s → (at_ s i).testBit j = false := fun s hs => Nat.testBit_lt_two_pow (Nat.lt_of_lt_of_le (show at_ s i < 2 ^ 64 from hs.at_ i) (Nat.pow_le_pow_right (by decide) (by omega)))
    rw [big _ k1, big _ h1]
end Go.Proofs.YtkjmddgnfgbioaaDoor.Bs


namespace Go.Proofs.YtkjmddgnfgbioaaDoor
set_option linter.unusedVariables false
set_option linter.unusedSimpArgs false
set_option maxRecDepth 100000
open Go.RowKit

/-- a set of labels -/
def SetV (w : World) (v : Value) (S : Nat → Prop) : Prop := ∃ xs, SlU w v xs ∧ xs.length ≤ 1024 ∧ ∀ j, Bs.bit xs j = true ↔ S j
theorem SetV.below {w w' : World} {v : Value} {S : Nat → Prop} (h : SetV w v S) (hb : Below w.heap.size w w') : SetV w' v S := by
  obtain ⟨xs, h1, h2, h3⟩ := h
  exact ⟨xs, h1.below hb, h2, h3⟩
theorem SetV.iff {w : World} {v : Value} {S S' : Nat → Prop} (h : SetV w v S) (hs : ∀ x, S x ↔ S' x) : SetV w v S' := by
  obtain ⟨xs, h1, h2, h3⟩ := h
  exact ⟨xs, h1, h2, fun j => (h3 j).trans (hs j)⟩
theorem SetV.nil (w : World) : SetV w (.slice none 0 0) St.none_ := ⟨[], SlU.nil w, by simp, fun j => by simp [Bs.bit, Bs.at_, St.none_]⟩
theorem SetV.lt {w : World} {v : Value} {S : Nat → Prop} (h : SetV w v S) : ∃ A n c, v = .slice A n c := by
  obtain ⟨xs, h1, -⟩ := h
  obtain ⟨A, c, rfl⟩ := slU_form h1
  exact ⟨_, _, _, rfl⟩

theorem Bs.put_short {s : List Nat} {n : Nat} (h : s.length ≤ 1024) (hn : n ≤ 65535) : (Bs.put s n).length ≤ 1024 := by
  rw [Bs.put_length]
  omega
theorem add_set (w : World) (v : Value) (S : Nat → Prop) (n : Nat) (h : SetV w v S) (hn : n ≤ 65535) :
    Calls Tryd.prog 64 #[v, .int .i64 (n : Int)] w fun e w' => ∃ u, e = .returned u ∧ SetV w' u (fun x => S x ∨ x = n) ∧ Below w.heap.size w w' := by
  obtain ⟨xs, h1, h2, h3⟩ := h
  refine (add_yes w v xs n h1 hn (by omega)).mono ?_
  rintro e w' ⟨u, rfl, hu, hb⟩
  refine ⟨u, rfl, ⟨_, hu, Bs.put_short h2 hn, fun j => ?_⟩, hb⟩
  rw [Bs.bit_put]
  simp [h3 j]
theorem or_set (w : World) (v v' : Value) (S S' : Nat → Prop) (h : SetV w v S) (h' : SetV w v' S') :
    Calls Tryd.prog 60 #[v, v'] w fun e w' => ∃ u, e = .returned u ∧ SetV w' u (St.both S S') ∧ Below w.heap.size w w' := by
  obtain ⟨xs, h1, h2, h3⟩ := h
  obtain ⟨ys, k1, k2, k3⟩ := h'
  refine (sor_any w v v' xs ys h1 k1 (by omega) (by omega)).mono ?_
  rintro e w' ⟨u, rfl, hu, hb⟩
  refine ⟨u, rfl, ⟨_, hu, Bs.op_le h2 k2, fun j => ?_⟩, hb⟩
  unfold Bs.bit
  rw [Bs.aor, Nat.testBit_or, Bool.or_eq_true]
  exact or_congr (h3 j) (k3 j)

theorem span_any (w : World) (f m : Nat) (hm : f + m ≤ 65536) :
    Calls Tryd.prog 102 #[.int .i64 (f : Int), .int .i64 (m : Int)] w fun e w' => ∃ u, e = .returned u ∧ SetV w' u (St.span f m) ∧ Below w.heap.size w w' := by
  go_enter Tryd.func102, Tryd.ntmps102
  go_wp2
  go_loopw [5, 8] (fun s i wr => ∃ k : Nat, k ≤ m ∧ i = .int .i64 (k : Int) ∧ SetV wr s (St.span f k) ∧ Below w.heap.size w wr) (fun s i _ => m - (intOf i).toNat)
  case atStart => exact ⟨0, Nat.zero_le _, rfl, (SetV.nil w).iff fun x => ⟨fun h => h.elim, fun h => by unfold St.span at h; exfalso; omega⟩, Below.refl _ _⟩
  case round =>
    obtain ⟨k, hk, rfl, hs, hb⟩ := hrel
    by_cases hlt : k < m
    · go_wp2_with fail
      rw [← Int.natCast_add]
      refine (add_set _ _ _ _ hs (by omega)).mono ?_
      rintro e w2 ⟨u, rfl, hu, hb2⟩
      have hb3 := below_next hb2 hb
      go_wp2
      go_roundw
      case rel => exact ⟨k + 1, by omega, by go_num, hu.iff fun x => by unfold St.span; omega, hb3⟩
      case measure => simp [intOf]; omega
    · have HK := Lib.hid (show k = m by omega)
      go_wp2
      go_ret
      exact ⟨_, rfl, by rw [← HK.out]; exact hs, hb⟩
end Go.Proofs.YtkjmddgnfgbioaaDoor


namespace Go.Proofs.YtkjmddgnfgbioaaDoor
set_option linter.unusedVariables false
set_option linter.unusedSimpArgs false
set_option maxRecDepth 100000
open Go.RowKit Go.Shelf

attribute [local go_sem] Oper.semAt_some

theorem all1_gen (m l qb cap : Nat) (A : Option Addr) (xs : List Nat) (hws : Bs.Ws xs) (hreach : xs.length ≤ 17592186044416) (J Jx : List Nat → World → Prop) (Kp : World → World → Prop) (hKr : ∀ w, Kp w w) (hKt : ∀ {a b c : World}, Kp a b → Kp b c → Kp a c)
    (hY : ∀ pre x W, x ∈ Bs.ls 0 xs → J pre W → pre.length < (Bs.ls 0 xs).length → YieldAt Fence.wide m Tryd.prog l #[.int .i64 ((x : Nat) : Int)] W fun e W' =>
      (e = .returned (.bool true) ∧ J (pre ++ [x]) W' ∧ Kp W W') ∨ (e = .returned (.bool false) ∧ Jx (pre ++ [x]) W'))
    (W : World) (hcb : ∀ wr, Kp W wr → wr.cell? ⟨qb, 0, none⟩ = some (.slice A xs.length cap)) (hcc : ∀ wr, Kp W wr → ∃ B, Cells wr B A (nats xs)) (hTT : ∀ wr, Kp W wr → Tab wr) (h0 : J [] W) :
    CallsIn Fence.wide (m + 1) Tryd.prog 99 #[.func (.yield l) #[] #[], .pointer (some ⟨qb, 0, none⟩)] W fun e W' => (∃ v, e = .returned v) ∧
      ((J (Bs.ls 0 xs) W') ∨ (∃ pre, Jx pre W')) := by
  refine callsIn_of_wp Tryd.func99 rfl trivial ?_ rfl
  simp only [Tryd.ntmps99, List.size_toArray, List.length_cons, List.length_nil, Nat.reduceAdd, Nat.reduceSub, Array.replicate_succ, Array.replicate_zero, List.push_toArray, List.append_toArray, List.nil_append, List.cons_append]
  have hqb := hcb W (hKr W)
  gi_wp2
  gi_loopw [7] (fun i wr => ∃ k : Nat, k ≤ xs.length ∧ i = .int .i64 (k : Int) ∧ J (Bs.ls 0 (xs.take k)) wr ∧ Kp W wr) (fun i _ => xs.length - (intOf i).toNat)
  case atStart => exact ⟨0, Nat.zero_le _, rfl, h0, hKr _⟩
  case round =>
    clear hqb h0
    obtain ⟨k, hk, rfl, hJ, hK⟩ := hrel
    by_cases hlt : k < xs.length
    · obtain ⟨x, hx⟩ : ∃ x, xs[k]? = some x := ⟨_, List.getElem?_eq_getElem hlt⟩
      obtain ⟨B0, hc0⟩ := hcc wr hK
      obtain ⟨b, o, rfl, hb, hcx⟩ := hc0.nat hx
      clear hb hc0
      have HX := Lib.hid hx
      clear hx
      gi_wp2
      have hxw : x < 18446744073709551616 := hws x (List.mem_of_getElem? HX.out)
      have hsn : Bs.ls 0 (xs.take (k + 1)) = Bs.ls 0 (xs.take k) ++ (Bs.bl x).map (64 * k + ·) := by
        obtain ⟨h', hx'⟩ := List.getElem?_eq_some_iff.1 HX.out
        rw [List.take_succ_eq_append_getElem h', hx', Bs.ls_snoc, List.length_take, Nat.min_eq_left (by omega)]
      have hcount : ∀ m ≤ ((Bs.bl x).map (64 * k + ·)).length, m < ((Bs.bl x).map (64 * k + ·)).length → (Bs.ls 0 (xs.take k)).length + m < (Bs.ls 0 xs).length := fun m _ hm => by
        have e : xs = xs.take (k + 1) ++ xs.drop (k + 1) := (List.take_append_drop _ _).symm
        have : (Bs.ls 0 xs).length = (Bs.ls 0 (xs.take (k + 1))).length + (Bs.ls (0 + (xs.take (k + 1)).length) (xs.drop (k + 1))).length := by
          conv => lhs; rw [e, Bs.ls_append]
          rw [List.length_append]
        rw [this, hsn, List.length_append]
        omega
      have hmem : ∀ z ∈ (Bs.bl x).map (64 * k + ·), z ∈ Bs.ls 0 xs := fun z hz => by
        have e : xs = xs.take (k + 1) ++ xs.drop (k + 1) := (List.take_append_drop _ _).symm
        rw [e, Bs.ls_append]
        exact List.mem_append_left _ (by rw [hsn]; exact List.mem_append_right _ hz)
      have HSN := Lib.hid (And.intro hsn (And.intro hcount hmem))
      clear hsn hcount hmem hcb hcc
      obtain ⟨wo, rfl⟩ : ∃ wo : World, wo = wr := ⟨_, rfl⟩
      gi_loopw [4] (fun i wr => ∃ (v : Nat) (dn : List Nat), i = .int .u64 (v : Int) ∧ v < 18446744073709551616 ∧ dn ++ (Bs.bl v).map (64 * k + ·) = (Bs.bl x).map (64 * k + ·) ∧ J (Bs.ls 0 (xs.take k) ++ dn) wr ∧ Kp W wr) (fun i _ => (intOf i).toNat)
      case atStart => exact ⟨x, [], rfl, hxw, rfl, by rw [List.append_nil]; exact hJ, hK⟩
      case round =>
        clear hJ hK hxw
        obtain ⟨v, dn, rfl, hv, hd, hJ, hK⟩ := hrel
        have HD := Lib.hid hd
        clear hd
        rcases hz : ((v : Int) != 0) with _ | _
        · have HV := Lib.hid (show v = 0 by simpa using hz)
          gi_wp2
          go_roundw
          case rel => exact ⟨k + 1, by omega, by go_num, by
            have h := HD.out
            rw [HV.out, Bs.bl_zero, List.map_nil, List.append_nil] at h
            rw [HSN.out.1, ← h]
            exact hJ, hK⟩
          case measure => simp [intOf]; omega
        · have hv0 : v ≠ 0 := by simpa using hz
          have HV := Lib.hid hv0
          clear hv0
          gi_wp2_with fail
          refine ⟨trivial, (callsIn_wide.2 (tz_any _ v hv HV.out (hTT _ hK))).mono ?_⟩
          rintro e w1 ⟨rfl, rfl⟩
          obtain ⟨-, -, hc64, -⟩ := Bs.low HV.out hv
          have hbl := Bs.bl_pos HV.out
          have hclr := and_pred v hv HV.out
          have hcl := Bs.clear_low HV.out
          have hd := HD.out
          rw [hbl, List.map_cons] at hd
          have hlen : dn.length < ((Bs.bl x).map (64 * k + ·)).length := by rw [← hd, List.length_append, List.length_cons]; omega
          obtain ⟨fn, tmps, assign, body, hy, hR⟩ := hY _ (64 * k + Lib.ctz 64 v) w1 (HSN.out.2.2 _ (by rw [← hd]; simp)) hJ (by rw [List.length_append]; exact HSN.out.2.1 _ (Nat.le_of_lt hlen) hlen)
          obtain ⟨c, hc⟩ : ∃ c, c = Lib.ctz 64 v := ⟨_, rfl⟩
          rw [← hc] at hc64 hd hy hR ⊢
          rw [show ((64 * k + c : Nat) : Int) = 64 * (k : Int) + (c : Int) by omega] at hy
          have HC := Lib.hid (And.intro hclr (And.intro hcl hd))
          clear hbl hclr hcl hd hlen hc HD
          gi_wp2
          refine hR.mono ?_
          rintro e W3 (⟨rfl, hJ3, hk3⟩ | ⟨rfl, hJx3⟩)
          · gi_wp2
            go_roundw
            case rel => exact ⟨v &&& (v - 1), dn ++ [64 * k + c], by rw [HC.out.1], Bs.clear_lt hv, by rw [List.append_assoc]; exact HC.out.2.2, by rw [← List.append_assoc]; exact hJ3, hKt hK hk3⟩
            case measure => simp only [intOf, HC.out.1]; have := HC.out.2.1; simp; omega
          · gi_wp2
            refine bodyPost_ret (results_none rfl _ _ _) rfl ?_
            exact ⟨⟨_, rfl⟩, .inr ⟨_, hJx3⟩⟩
    · have HK := Lib.hid (show k = xs.length by omega)
      gi_wp2
      go_end0
      exact ⟨⟨_, rfl⟩, .inl (by have := hJ; rw [HK.out, List.take_length] at this; exact this)⟩

/-- the loop's body is told that what comes is in the set -/
theorem all_gen_stops (m qb cap : Nat) (A : Option Addr) (xs : List Nat) (hws : Bs.Ws xs) (hreach : xs.length ≤ 17592186044416) (Kp : World → World → Prop) (hKr : ∀ w, Kp w w) (hKt : ∀ {a b c : World}, Kp a b → Kp b c → Kp a c) (w : World)
    (hcb : ∀ W wr, Below w.heap.size w W → Kp W wr → wr.cell? ⟨qb, 0, none⟩ = some (.slice A xs.length cap)) (hcc : ∀ W wr, Below w.heap.size w W → Kp W wr → ∃ B, Cells wr B A (nats xs)) (hTT : ∀ W wr, Below w.heap.size w W → Kp W wr → Tab wr) :
    SeqStopsK Fence.wide (m + 1) Tryd.prog 99 #[.pointer (some ⟨qb, 0, none⟩)] (fun x : { x : Nat // x ∈ Bs.ls 0 xs } => #[Value.int .i64 ((x.1 : Nat) : Int)]) Kp (fun ys => ys.map (·.1) = Bs.ls 0 xs) (fun _ => True) (Bs.ls 0 xs).length w := fun l J Jx W hW _ _ hY h0 => by
  refine (all1_gen m l qb cap A xs hws hreach (fun l W => ∃ la : List { x : Nat // x ∈ Bs.ls 0 xs }, la.map (·.1) = l ∧ J la W) (fun l W => ∃ la : List { x : Nat // x ∈ Bs.ls 0 xs }, la.map (·.1) = l ∧ Jx la W) Kp hKr hKt (fun pre x W1 hx hJ hlt => ?_) W (fun wr hk => hcb W wr hW hk) (fun wr hk => hcc W wr hW hk) (fun wr hk => hTT W wr hW hk) ⟨[], rfl, h0⟩).mono ?_
  · obtain ⟨la, rfl, hJ⟩ := hJ
    have := hY la ⟨x, hx⟩ W1 hJ (by simpa using hlt)
    obtain ⟨fn, tmps, assign, body, hy, hR⟩ := this
    refine ⟨fn, tmps, assign, body, hy, hR.mono ?_⟩
    rintro e W' (⟨h1, h2, h3⟩ | ⟨h1, h2⟩)
    · exact .inl ⟨h1, ⟨_, by simp, h2⟩, h3⟩
    · exact .inr ⟨h1, _, by simp, h2⟩
  · rintro e W' ⟨he, ⟨la, h1, h2⟩ | ⟨pre, la, h1, h2⟩⟩
    · exact ⟨he, .inl ⟨_, h1, h2⟩⟩
    · exact ⟨he, .inr ⟨_, trivial, h2⟩⟩

theorem all_gen (m : Nat) (a : Option Addr) (len cap : Nat) (w : World) :
    CallsIn Fence.wide (m + 1) Tryd.prog 63 #[.slice a len cap] w fun e w' => e = .returned (.func (.func 99) #[] #[.pointer (some ⟨w.heap.size, 0, none⟩)]) ∧ w' = w.alloc (.cells #[.slice a len cap] 91) := by
  refine callsIn_of_wp Tryd.func63 rfl trivial ?_ rfl
  simp only [Tryd.ntmps63, List.size_toArray, List.length_cons, List.length_nil, Nat.reduceAdd, Nat.reduceSub, Array.replicate_succ, Array.replicate_zero, List.push_toArray, List.append_toArray, List.nil_append, List.cons_append]
  gi_wp2
  go_ret
  exact ⟨rfl, rfl⟩
end Go.Proofs.YtkjmddgnfgbioaaDoor


namespace Go.Proofs.YtkjmddgnfgbioaaDoor
set_option linter.unusedVariables false
set_option linter.unusedSimpArgs false
set_option maxRecDepth 100000
open Go Go.RowKit

section
variable {P : Program} {ops : Array Oper} {Q : Exit → Act → World → Prop} {l n : Nat}

theorem operIn_of {o : Oper} {a : Act} {w : World} {K : Act → World → Prop} (hd : ∀ c, o.op ≠ .defer c) (h : o.wp P a w K Q) : o.wpIn (Fence.wide.inRound l) n P a w K Q := by
  refine ⟨fun f _ => trivial, ?_⟩
  rw [Fence.inRound_round, Oper.semAt_some l _ _ hd]
  unfold Oper.wp at h
  generalize (execOp a.eval o).run P w = r at h ⊢
  cases r with
  | ok x w' =>
    cases x with
    | enter f args => exact ⟨fun h' => (nomatch h'), CallsIn.inRound l (callsIn_wide.2 h)⟩
    | row row args =>
      refine ⟨fun h' => (nomatch h'), fun c cs _ => ?_⟩
      obtain ⟨v, w', r, s⟩ := h c cs
      exact ⟨v, w', r, stepsIn_wide.2 s⟩
    | value v => exact h
    | skip => exact h
    | defer d => exact h
    | _ => exact h.elim
  | halt x w' => cases x <;> exact h

theorem opIn_of {i : Nat} {a : Act} {w : World} {K : Act → World → Prop} (hd : ∀ o, ops[i]? = some o → ∀ c, o.op ≠ .defer c) (hL : ¬ LetsOut Q) (h : wpOp P ops Q i K a w) : wpOpIn (Fence.wide.inRound l) n P ops Q i K a w := by
  unfold wpOp at h
  unfold wpOpIn
  rcases ho : ops[i]? with _ | o
  · rw [ho] at h
    exact h
  · simp only [ho] at h ⊢
    split
    · rename_i hw
      rw [if_pos hw] at h
      rcases h with h | ⟨_, h⟩
      · exact operIn_of (hd o ho) h
      · exact (hL h).elim
    · rename_i hw
      rw [if_neg hw] at h
      exact ⟨fun _ _ => trivial, h⟩

theorem anyIn_of (hd : ∀ (i : Nat) (o : Oper), ops[i]? = some o → ∀ c, o.op ≠ .defer c) (hL : ¬ LetsOut Q) : ∀ (fuel : Nat) (listed : Array Bool) (a : Act) (w : World), wpAny P .any ops Q fuel listed a w → wpAnyIn (Fence.wide.inRound l) n P .any ops Q fuel listed a w
  | 0, _, _, _, h => h
  | fuel + 1, listed, a, w, h => ⟨h.1, fun i hi => wpOpIn_mono (fun a w h' => anyIn_of hd hL fuel _ a w h') (opIn_of (hd i) hL (h.2 i hi))⟩

def noDefer (ops : Array Oper) : Bool := ops.all fun o => match o.op with | .defer _ => false | _ => true
theorem noDefer_spec (h : noDefer ops = true) : ∀ (i : Nat) (o : Oper), ops[i]? = some o → ∀ c, o.op ≠ .defer c := fun i o ho c hc => by
  obtain ⟨hi, rfl⟩ := Array.getElem?_eq_some_iff.1 ho
  have := (Array.all_eq_true.1 h) i hi
  rw [hc] at this
  cases this

variable {E : World → World → Prop} {S : World → Prop}
theorem wpIn_walk_tail {id : Nat} {a : Act} {w : World} {l : List Oper} {r : Nat} (k : Nat) (hm : P.follows .mixedOrders = true) (hB : (tailB l.toArray k && noDefer l.toArray) = true) (hL : ¬ LetsOut Q) (E : World → World → Prop) (S : World → Prop) (hS : S w.drew)
    (h : Walk P l.toArray S E (fun A Fs => ∀ ρ w', S w' → (∀ t F, (t, F) ∈ Fs → F.holds (ρ t) w') → wpList P l.toArray Q (l.drop k) (A ρ) w') (l.take k) (fun _ => a) []) : (Code.region id l.toArray true).wpIn (Fence.wide.inRound r) n P Q a w := by
  rw [Bool.and_eq_true] at hB
  obtain ⟨hB, hno⟩ := hB
  simp only [tailB, Bool.and_eq_true, decide_eq_true_eq] at hB
  obtain ⟨⟨⟨⟨hn, hlin⟩, hs⟩, hc⟩, hq⟩ := hB
  obtain ⟨full, hp, he, hZ⟩ := settle_plan (l.take k) [] ⟨(fun _ h => by cases h), (fun pre p post he => by simp at he)⟩ h.out
  have inv0 : HeadInv .any l.toArray k (Array.replicate l.toArray.size false) :=
    ⟨by simp, fun j oj _ hl => (by rw [getD_replicate_false] at hl; cases hl), fun t _ ht => getD_in (by simpa using ht) (getD_replicate_false _ _)⟩
  have := any_order_tail (P := P) (Q := Q) hn (by simpa using he) (linearN_of hlin) hs hc (fun listed hsz h1 h2 => by
    have hn' := hn
    rw [show listed = (Array.replicate k true) ++ (Array.replicate (l.toArray.size - k) false) from getD_ext (by simp only [Array.size_append, Array.size_replicate]; omega) fun i => by
      rw [Array.getD_eq_getD_getElem? (xs := _ ++ _), Array.getElem?_append]
      rcases Nat.lt_or_ge i k with h | h
      · rw [h1 i h]
        simp [h]
      · rw [h2 i h]
        simp only [Array.size_replicate, Nat.not_lt.2 h, if_false, Array.getElem?_replicate]
        split <;> rfl]
    exact hq) hp hZ k _ a w.drew (fun _ => undef) inv0 ⟨List.range k, by simp, fun i hi _ => List.mem_range.2 hi⟩ ⟨rfl, rfl, fun _ _ => rfl, fun i p t hi => ?_⟩ hS fun i p F d hi => ?_
  · refine wpIn_region_any hm (anyIn_of (noDefer_spec hno) hL _ _ _ _ ?_)
    rwa [show k + (l.toArray.size - k) = l.toArray.size by omega] at this
  · exfalso; rw [getD_replicate_false] at hi; cases hi
  · exfalso; rw [getD_replicate_false] at hi; cases hi
theorem wpIn_walk_last {id : Nat} {a : Act} {w : World} {l : List Oper} {r : Nat} (hm : P.follows .mixedOrders = true) (hB : (tailB l.toArray (l.length - 1) && noDefer l.toArray) = true) (hL : ¬ LetsOut Q) (E : World → World → Prop) (S : World → Prop) (hS : S w.drew)
    (h : Walk P l.toArray S E (fun A Fs => ∀ ρ w', S w' → (∀ t F, (t, F) ∈ Fs → F.holds (ρ t) w') → wpList P l.toArray Q (l.drop (l.length - 1)) (A ρ) w') (l.take (l.length - 1)) (fun _ => a) []) : (Code.region id l.toArray true).wpIn (Fence.wide.inRound r) n P Q a w :=
  wpIn_walk_tail (l.length - 1) hm hB hL E S hS h
theorem wpIn_walk {id : Nat} {a : Act} {w : World} {l : List Oper} {r : Nat} (hm : P.follows .mixedOrders = true) (hlin : (linearB l.toArray && noDefer l.toArray) = true) (hL : ¬ LetsOut Q) (E : World → World → Prop) (S : World → Prop) (hS : S w.drew)
    (h : Walk P l.toArray S E (fun A Fs => ∀ ρ w', S w' → (∀ t F, (t, F) ∈ Fs → F.holds (ρ t) w') → Q .normal (A ρ) w') l (fun _ => a) []) : (Code.region id l.toArray true).wpIn (Fence.wide.inRound r) n P Q a w := by
  rw [Bool.and_eq_true] at hlin
  obtain ⟨hlin, hno⟩ := hlin
  obtain ⟨full, hp, he, hZ⟩ := settle_plan l [] ⟨(fun _ h => by cases h), (fun pre p post he => by simp at he)⟩ h.out
  refine wpIn_region_any hm (anyIn_of (noDefer_spec hno) hL _ _ _ _ (any_order (by simpa using he) (linear_of hlin) hp hZ _ _ a _ (fun _ => undef) (by simp) (fun i j o hj => ?_) ⟨List.range l.toArray.size, by simp, fun i hi _ => List.mem_range.2 hi⟩ ⟨rfl, rfl, fun _ _ => rfl, fun i p t hi => ?_⟩ hS fun i p F d hi => ?_))
  · exfalso; revert hj; simp [Array.getD]
  · exfalso; revert hi; simp [Array.getD]
  · exfalso; revert hi; simp [Array.getD]
end
end Go.Proofs.YtkjmddgnfgbioaaDoor


namespace Go.Proofs.YtkjmddgnfgbioaaDoor
set_option linter.unusedVariables false
set_option linter.unusedSimpArgs false
set_option maxRecDepth 100000
open Go.RowKit Go.Shelf

attribute [local go_sem] Oper.semAt_some

/-! ### what is kept by whoever turns no number -/
/-- all numbers that lay are there -/
def Nums (w w' : World) : Prop := w.heap.size ≤ w'.heap.size ∧ ∀ (p : Addr) (k : IntKind) (x : Int), w.cell? p = some (.int k x) → w'.cell? p = some (.int k x)
theorem Nums.refl (w : World) : Nums w w := ⟨Nat.le_refl _, fun _ _ _ h => h⟩
theorem Nums.trans {a b c : World} (h : Nums a b) (k : Nums b c) : Nums a c := ⟨Nat.le_trans h.1 k.1, fun p i x hx => k.2 p i x (h.2 p i x hx)⟩
theorem Nums.of_below {w w' : World} (h : Below w.heap.size w w') : Nums w w' := ⟨h.size, fun p _ _ hx => (h.cell (World.block_lt_of_cell? w p hx)).trans hx⟩
theorem Cells.nums {w w' : World} {B : Nat} {A : Option Addr} {xs : List Nat} (h : Cells w B A (nats xs)) (hB : B ≤ w.heap.size) (hn : Nums w w') : Cells w' w'.heap.size A (nats xs) := by
  by_cases hx : xs = []
  · subst hx; exact Cells.nil _ _ _
  obtain ⟨b, o, hA, hb, hc⟩ := h.at_ (fun e => hx (by simpa [nats] using e))
  refine ⟨b, o, fun _ => ⟨hA, by have := hn.1; omega⟩, fun j u hu => ?_⟩
  have hu' := hu
  simp only [nats, List.getElem?_map, Option.map_eq_some_iff] at hu'
  obtain ⟨y, -, rfl⟩ := hu'
  exact hn.2 _ _ _ (hc j _ hu)
theorem SlU.nums {w w' : World} {v : Value} {xs : List Nat} (h : SlU w v xs) (hn : Nums w w') : SlU w' v xs := by
  obtain ⟨⟨A, c, rfl, h1, h2, h3, h4⟩, hw⟩ := h
  exact ⟨⟨A, c, rfl, h1, h2, h3, h4.nums (Nat.le_refl _) hn⟩, hw⟩
theorem SetV.nums {w w' : World} {v : Value} {S : Nat → Prop} (h : SetV w v S) (hn : Nums w w') : SetV w' v S := by
  obtain ⟨xs, h1, h2, h3⟩ := h
  exact ⟨xs, h1.nums hn, h2, h3⟩
theorem Tab.nums {w w' : World} (h : Tab w) (hn : Nums w w') : Tab w' := fun j hj => hn.2 _ _ _ (h j hj)

/-! ### the looker's rows -/
def Rws (w : World) (g n : Nat) (R : Nat → Nat → Prop) : Prop := ∃ vs : List Value, vs.length = n ∧ Blk w g 22 vs ∧ ∀ i v, vs[i]? = some v → SetV w v (R i)
theorem Rws.iff {w : World} {g n : Nat} {R R' : Nat → Nat → Prop} (h : Rws w g n R) (hr : ∀ i j, R i j ↔ R' i j) : Rws w g n R' := by
  obtain ⟨vs, h1, h2, h3⟩ := h
  exact ⟨vs, h1, h2, fun i v hv => (h3 i v hv).iff (hr i)⟩
theorem Rws.lt {w : World} {g n : Nat} {R : Nat → Nat → Prop} (h : Rws w g n R) : g < w.heap.size := by
  obtain ⟨vs, h1, h2, h3⟩ := h
  exact h2.lt
/-- no number lies in it -/
theorem Rws.no_num {w : World} {g n : Nat} {R : Nat → Nat → Prop} (h : Rws w g n R) {p : Addr} {k : IntKind} {x : Int} (hp : w.cell? p = some (.int k x)) : p.block ≠ g := by
  obtain ⟨vs, h1, h2, h3⟩ := h
  intro e
  have hc : p = ⟨g, p.off, none⟩ := by
    obtain ⟨b, o, s⟩ := p
    have := World.cell?_spot hp
    simp only at e this
    rw [e, this]
  rw [hc, h2.cell] at hp
  obtain ⟨A, m, c, hv⟩ := (h3 _ _ hp).lt
  cases hv
theorem Rws.nums_of {w w' : World} {g n : Nat} {R : Nat → Nat → Prop} (h : Rws w g n R) (hk : Keeps (fun k => k = g) w w') : Nums w w' :=
  ⟨hk.size, fun p _ _ hp => (World.cell?_of_block (hk.block _ (World.block_lt_of_cell? w p hp) (h.no_num hp))).trans hp⟩
theorem Rws.keep {w w' : World} {g n : Nat} {R : Nat → Nat → Prop} (h : Rws w g n R) (hn : Nums w w') (hb : w'.heap[g]? = w.heap[g]?) : Rws w' g n R := by
  obtain ⟨vs, h1, h2, h3⟩ := h
  exact ⟨vs, h1, hb.trans h2, fun i v hv => (h3 i v hv).nums hn⟩
theorem Rws.below {w w' : World} {g n : Nat} {R : Nat → Nat → Prop} (h : Rws w g n R) (hb : Below w.heap.size w w') : Rws w' g n R := h.keep (Nums.of_below hb) (hb.block g h.lt)
theorem nums_own {W W' : World} {row : Option Nat} (hg : W.grownBy W' row) (hr : ∀ r, row = some r → ∃ o : Obj, W.heap[r]? = some o ∧ o.isCells = false) : Nums W W' := ⟨hg.size, fun _ _ _ hx => cell_kept hx hg hr⟩
theorem Rws.own {β : Type} {g n : Nat} (R : β → Nat → Nat → Prop) : Go.Own (fun s W => Rws W g n (R s)) := fun s W W' row h hg hr =>
  h.keep (nums_own hg hr) (hg.block g h.lt (fun e => by
    obtain ⟨o, ho, hc⟩ := hr g e.symm
    obtain ⟨vs, h1, h2, h3⟩ := h
    unfold Blk at h2
    rw [h2] at ho
    cases ho
    cases hc))
/-- one row is put anew -/
theorem Rws.put {w w' : World} {g n i : Nat} {R : Nat → Nat → Prop} {S : Nat → Prop} {u : Value} (h : Rws w g n R) (hu : SetV w u S) {vs : List Value} (hv : Blk w g 22 vs) (hB : Blk w' g 22 (vs.set i u)) (hg : w.grownBy w' (some g)) : Rws w' g n (fun a b => if a = i then S b else R a b) := by
  have hn := h.nums_of (Keeps.mono (Keeps.of_grown hg) (fun k hk => by injection hk))
  obtain ⟨vs', h1, h2, h3⟩ := h
  have e : vs' = vs := by
    unfold Blk at hv h2
    rw [h2] at hv
    injection hv with hv
    injection hv with hv
    exact congrArg Array.toList hv
  subst e
  refine ⟨_, by rw [List.length_set]; exact h1, hB, fun j v hj => ?_⟩
  rw [List.getElem?_set] at hj
  split at hj
  · rename_i e
    subst e
    split at hj
    · injection hj with hj
      subst hj
      exact (hu.nums hn).iff fun x => by simp
    · cases hj
  · rename_i e
    exact ((h3 j v hj).nums hn).iff fun x => by
      show R j x ↔ (if j = i then S x else R j x)
      rw [if_neg (fun h => e h.symm)]

theorem ownFrom_keeps {β : Type} {S : Nat → Prop} {B : Nat} {w₀ : World} (hB : w₀.heap.size ≤ B) : OwnFrom B (fun (_ : β) W => Keeps S w₀ W) := fun _ X Y row hs hg hr =>
  hs.step (Keeps.of_grown hg) fun i hi e => by have := (hr i e.symm).1; omega
theorem kpP_of_keeps {n₀ g : Nat} {W W' : World} (h : Keeps (fun k => k = g) W W') (hn : n₀ ≤ W.heap.size) : KpP n₀ g W W' := ⟨h.size, fun k hk hne => h.block k (by omega) hne⟩
/-- the pairs noted so far -/
def St.upto (R : Nat → Nat → Prop) (ys : List Nat) (pre : List Nat) (i j : Nat) : Prop := R i j ∨ ∃ x ∈ pre, ∃ y ∈ ys, i = min x y ∧ j = max x y
def St.upto2 (R : Nat → Nat → Prop) (ys : List Nat) (pre : List Nat) (x : Nat) (pre' : List Nat) (i j : Nat) : Prop := St.upto R ys pre i j ∨ ∃ y ∈ pre', i = min x y ∧ j = max x y

def FSet (S : Nat → Prop) : Fact (fun w w' => Below w.heap.size w w') := ⟨fun v w => SetV w v S, fun _ _ _ h k => h.below k⟩

set_option maxHeartbeats 4000000 in
set_option maxRecDepth 100000 in
theorem mix_any (w : World) (kb g n : Nat) (R : Nat → Nat → Prop) (va vb : Value) (A B : Nat → Prop) (hT : Tab w) (hK : Blk w kb 105 [.slice (some ⟨g, 0, none⟩) n n]) (hR : Rws w g n R) (ha : SetV w va A) (hb : SetV w vb B) (hA : ∀ x, A x → x < n) (hBn : ∀ x, B x → x < n) (hn : n ≤ 65535) :
    Calls Tryd.prog 101 #[.pointer (some ⟨kb, 0, none⟩), va, vb] w fun e w' => (∃ v, e = .returned v) ∧ Rws w' g n (fun i j => R i j ∨ St.mixed A B i j) ∧ Keeps (fun k => k = g) w w' := by
  have ha' := ha
  have hb' := hb
  obtain ⟨xs, sa, la, ma⟩ := ha
  obtain ⟨ys, sb, lb, mb⟩ := hb
  obtain ⟨aA, ac, rfl⟩ := slU_form sa
  obtain ⟨bA, bc, rfl⟩ := slU_form sb
  have hgk : g ≠ kb := by
    intro e
    subst e
    obtain ⟨vs, h1, h2, h3⟩ := hR
    unfold Blk at h2 hK
    rw [h2] at hK
    injection hK with hK
    injection hK with _ ht
    exact absurd ht (by decide)
  refine (callsIn_wide (n := 6)).1 ?_
  refine callsIn_of_wp_marks Tryd.func101 rfl trivial ?_ rfl
  simp only [Tryd.ntmps101, List.size_toArray, List.length_cons, List.length_nil, Nat.reduceAdd, Nat.reduceSub, Array.replicate_succ, Array.replicate_zero, List.push_toArray, List.append_toArray, List.nil_append, List.cons_append]
  gi_wp2_with fail
  refine ⟨trivial, (all_gen 4 _ _ _ _).mono ?_⟩
  rintro e w' ⟨rfl, rfl⟩
  have bK := ((Boxed.new w 102 (.pointer (some ⟨kb, 0, none⟩))).alloc (.cells #[.slice bA ys.length bc] 91)).alloc (.cells #[.slice aA xs.length ac] 91)
  have bB := (Boxed.new (w.alloc (.cells #[.pointer (some ⟨kb, 0, none⟩)] 102)) 91 (.slice bA ys.length bc)).alloc (.cells #[.slice aA xs.length ac] 91)
  have bQ := Boxed.new ((w.alloc (.cells #[.pointer (some ⟨kb, 0, none⟩)] 102)).alloc (.cells #[.slice bA ys.length bc] 91)) 91 (.slice aA xs.length ac)
  simp only [World.size_alloc] at bB bQ
  have hB0 : Below w.heap.size w (((w.alloc (.cells #[.pointer (some ⟨kb, 0, none⟩)] 102)).alloc (.cells #[.slice bA ys.length bc] 91)).alloc (.cells #[.slice aA xs.length ac] 91)) := below_alloc (below_alloc (below_alloc (Below.refl _ w) _) _) _
  have hsz : (((w.alloc (.cells #[.pointer (some ⟨kb, 0, none⟩)] 102)).alloc (.cells #[.slice bA ys.length bc] 91)).alloc (.cells #[.slice aA xs.length ac] 91)).heap.size = w.heap.size + 3 := by simp
  gi_wp2_with fail
  obtain ⟨W0, hW0⟩ : ∃ W0, ((w.alloc (.cells #[.pointer (some ⟨kb, 0, none⟩)] 102)).alloc (.cells #[.slice bA ys.length bc] 91)).alloc (.cells #[.slice aA xs.length ac] 91) = W0 := ⟨_, rfl⟩
  rw [hW0] at bK bB bQ hB0 hsz ⊢
  clear hW0
  have hgl := hR.lt
  have hkl := hK.lt
  have hR0 := hR.below hB0
  have hN0 := Nums.of_below hB0
  obtain ⟨YS, hYS⟩ : ∃ YS, YS = Bs.ls 0 ys := ⟨_, rfl⟩
  have mX : ∀ x, x ∈ Bs.ls 0 xs ↔ A x := fun x => (Bs.mem_list sa.2 x).trans (ma x)
  have mY : ∀ x, x ∈ YS ↔ B x := fun x => by rw [hYS]; exact (Bs.mem_list sb.2 x).trans (mb x)
  have keyA : ∀ W wr, Below W0.heap.size W0 W → KpP (w.heap.size + 3) g W wr → ∀ (p : Addr) (k : IntKind) (x : Int), W0.cell? p = some (.int k x) → wr.cell? p = some (.int k x) := fun W wr hW hk p k x hx =>
    (hk.cell (by rw [← hsz]; exact World.block_lt_of_cell? W0 p hx) (hR0.no_num hx)).trans ((hW.cell (World.block_lt_of_cell? W0 p hx)).trans hx)
  have stA := all_gen_stops 4 (w.heap.size + 2) ac aA xs sa.2 (by omega) (KpP (w.heap.size + 3) g) (KpP.refl _ _) (fun h k => h.trans k) W0
    (fun W wr hW hk => (hk.cell (a := ⟨w.heap.size + 2, 0, none⟩) (by show w.heap.size + 2 < _; omega) (by show w.heap.size + 2 ≠ g; omega)).trans ((hW.cell (p := ⟨w.heap.size + 2, 0, none⟩) (by show w.heap.size + 2 < _; omega)).trans bQ.cell))
    (fun W wr hW hk => ⟨_, by
      obtain ⟨⟨A', c', e, -, -, -, h4⟩, -⟩ := sa.nums hN0
      injection e with e1 e2 e3
      subst e1
      exact h4.nums (Nat.le_refl _) ⟨Nat.le_trans hW.size hk.1, keyA W wr hW hk⟩⟩)
    (fun W wr hW hk => (hT.nums hN0).nums ⟨Nat.le_trans hW.size hk.1, keyA W wr hW hk⟩)
  have HX := Lib.hid (And.intro hYS (And.intro mX mY))
  clear hYS mX mY keyA
  refine wpIn_rangeFunc_ownH rfl (by omega) (gf := 99) (lb := #[.pointer (some ⟨w.heap.size + 2, 0, none⟩)]) rfl trivial (enters_of Tryd.func99 (by kernel_rfl) rfl)
    stA (fun h k => h.trans k) (kpP_b (by omega)) (Below.refl _ _) (fun _ => rfl)
    (fun pre W => ((Boxed W w.heap.size 102 (.pointer (some ⟨kb, 0, none⟩)) ∧ Boxed W (w.heap.size + 1) 91 (.slice bA ys.length bc)) ∧ Rws W g n (St.upto R YS (pre.map (·.1)))) ∧ Keeps (fun k => k = g) W0 W)
    (fun _ _ _ => False)
    (OwnFrom.and (OwnFrom.and (OwnFrom.and (Go.Own.from (boxed_own _ _ _) _) (Go.Own.from (boxed_own _ _ _) _)) (Go.Own.from (Rws.own _) _)) (ownFrom_keeps (Nat.le_refl _)))
    (fun _ _ _ _ _ hs _ _ => hs)
    ⟨⟨⟨bK, bB⟩, hR0.iff fun i j => by simp [St.upto]⟩, Keeps.refl _ _⟩
    (fun x a' W => ∃ Bx, w.heap.size + 2 < Bx ∧ Boxed W Bx 3 (.int .i64 (x.1 : Int)) ∧ a' = { tmps := #[.pointer (some ⟨kb, 0, none⟩), .slice aA xs.length ac, .slice bA ys.length bc, .pointer (some ⟨w.heap.size, 0, none⟩), undef, .pointer (some ⟨w.heap.size + 1, 0, none⟩), .pointer (some ⟨Bx, 0, none⟩), undef, .slice aA xs.length ac, .func (.func 99) #[] #[.pointer (some ⟨w.heap.size + 2, 0, none⟩)], .int .i64 (x.1 : Int), undef, undef, undef, undef, undef, undef, undef, undef, undef, undef, undef, undef, undef, undef, undef, undef, undef, undef, undef, undef, undef, undef, undef, undef], defers := [] })
    (fun x a' _ X Y row hs hg hr => by obtain ⟨Bx, h1, h2, h3⟩ := hs; exact ⟨Bx, h1, boxed_own Bx 3 (fun (_ : Unit) => Value.int .i64 (x.1 : Int)) () X Y row h2 hg (fun r e => (hr r e).2), h3⟩)
    ?assign ?body ?done ?stop
  case assign =>
    rintro l pre x W K ⟨⟨⟨b1, b2⟩, b3⟩, b4⟩ hK'
    gi_wp2
    refine hK' _ _ ((KeepsOthers.alloc _ _).from _) ⟨by simp, fun k hk _ => Below.heap_alloc W _ k (by have := b4.size; omega)⟩ ⟨⟨⟨b1.alloc _, b2.alloc _⟩, b3.below (below_alloc (Below.refl _ _) _)⟩, b4.alloc _⟩ ⟨W.heap.size, by have := b4.size; omega, Boxed.new W 3 _, rfl⟩
  case body =>
    rintro l pre x a' W hl ⟨r, hr⟩ ⟨⟨⟨b1, b2⟩, b3⟩, b4⟩ ⟨Bx, hBx, bX, rfl⟩ hlt
    have cB := b2.cell
    gi_wp2_with fail
    refine ⟨trivial, (CallsIn.inRound l (all_gen 2 _ _ _ _)).mono ?_⟩
    rintro e w' ⟨rfl, rfl⟩
    have hsW := b4.size
    have hNW : Nums w W := hN0.trans (hR0.nums_of b4)
    have bN := Boxed.new W 91 (.slice bA ys.length bc)
    have hbN : Below W.heap.size W (W.alloc (.cells #[.slice bA ys.length bc] 91)) := below_alloc (Below.refl _ _) _
    have hr' : (W.alloc (.cells #[.slice bA ys.length bc] 91)).heap[l]? = some (.loop r) := (Below.heap_alloc W _ l (Array.getElem?_eq_some_iff.1 hr).1).trans hr
    have c1 := b1.alloc (.cells #[.slice bA ys.length bc] 91)
    have c2 := b2.alloc (.cells #[.slice bA ys.length bc] 91)
    have cX := bX.alloc (.cells #[.slice bA ys.length bc] 91)
    have hs1 : (W.alloc (.cells #[.slice bA ys.length bc] 91)).heap.size = W.heap.size + 1 := by simp
    have kf1 : KeepsFrom W0.heap.size W (W.alloc (.cells #[.slice bA ys.length bc] 91)) := (KeepsOthers.alloc _ _).from _
    gi_wp2_with fail
    obtain ⟨W1, hW1⟩ : ∃ W1, W.alloc (.cells #[.slice bA ys.length bc] 91) = W1 := ⟨_, rfl⟩
    rw [hW1] at bN hbN hr' c1 c2 cX hs1 kf1 ⊢
    clear hW1
    have hR1 := b3.below hbN
    have keyB : ∀ W' wr, Below W1.heap.size W1 W' → KpP (W.heap.size + 1) g W' wr → ∀ (p : Addr) (k : IntKind) (x : Int), W1.cell? p = some (.int k x) → wr.cell? p = some (.int k x) := fun W' wr hW hk p k x hx =>
      (hk.cell (by rw [← hs1]; exact World.block_lt_of_cell? W1 p hx) (hR1.no_num hx)).trans ((hW.cell (World.block_lt_of_cell? W1 p hx)).trans hx)
    have hNW1 := hNW.trans (Nums.of_below hbN)
    have stB := all_gen_stops 2 W.heap.size bc bA ys sb.2 (by omega) (KpP (W.heap.size + 1) g) (KpP.refl _ _) (fun h k => h.trans k) W1
      (fun W' wr hW hk => (hk.cell (a := ⟨W.heap.size, 0, none⟩) (by show W.heap.size < _; omega) (by show W.heap.size ≠ g; omega)).trans ((hW.cell (p := ⟨W.heap.size, 0, none⟩) (by show W.heap.size < _; omega)).trans bN.cell))
      (fun W' wr hW hk => ⟨_, by
        obtain ⟨⟨A', c', e, -, -, -, h4⟩, -⟩ := sb.nums hNW1
        injection e with e1 e2 e3
        subst e1
        exact h4.nums (Nat.le_refl _) ⟨Nat.le_trans hW.size hk.1, keyB W' wr hW hk⟩⟩)
      (fun W' wr hW hk => (hT.nums hNW1).nums ⟨Nat.le_trans hW.size hk.1, keyB W' wr hW hk⟩)
    clear keyB bN cB
    refine wpIn_rangeFunc_ownN (l₀ := l) (r₀ := r) rfl hr' (by omega) (gf := 99) (lb := #[.pointer (some ⟨W.heap.size, 0, none⟩)]) rfl trivial (enters_of Tryd.func99 (by kernel_rfl) rfl)
      (stB.inRound l) (fun h k => h.trans k) (kpP_b (by omega)) (Below.refl _ _) (fun _ => rfl)
      (fun pre' W' => (((Boxed W' w.heap.size 102 (.pointer (some ⟨kb, 0, none⟩)) ∧ Boxed W' (w.heap.size + 1) 91 (.slice bA ys.length bc)) ∧ Boxed W' Bx 3 (.int .i64 (x.1 : Int))) ∧ Rws W' g n (St.upto2 R YS (pre.map (·.1)) x.1 (pre'.map (·.1)))) ∧ (Keeps (fun k => k = g) W1 W' ∧ KeepsFrom W0.heap.size W1 W'))
      (fun _ _ _ => False)
      (OwnFrom.and (OwnFrom.and (OwnFrom.and (OwnFrom.and (Go.Own.from (boxed_own _ _ _) _) (Go.Own.from (boxed_own _ _ _) _)) (Go.Own.from (boxed_own _ _ _) _)) (Go.Own.from (Rws.own _) _)) (OwnFrom.and (ownFrom_keeps (Nat.le_refl _)) (ownFrom_keepsFrom (Nat.le_refl _))))
      (fun _ _ _ _ _ hs _ _ => hs)
      ⟨⟨⟨⟨c1, c2⟩, cX⟩, hR1.iff fun i j => by simp [St.upto2]⟩, Keeps.refl _ _, KeepsFrom.refl _ _⟩
      (fun y a'' _ => a'' = { tmps := #[.pointer (some ⟨kb, 0, none⟩), .slice aA xs.length ac, .slice bA ys.length bc, .pointer (some ⟨w.heap.size, 0, none⟩), undef, .pointer (some ⟨w.heap.size + 1, 0, none⟩), .pointer (some ⟨Bx, 0, none⟩), .int .i64 (y.1 : Int), .slice aA xs.length ac, .func (.func 99) #[] #[.pointer (some ⟨w.heap.size + 2, 0, none⟩)], .int .i64 (x.1 : Int), .slice bA ys.length bc, .func (.func 99) #[] #[.pointer (some ⟨W.heap.size, 0, none⟩)], .int .i64 (y.1 : Int), undef, undef, undef, undef, undef, undef, undef, undef, undef, undef, undef, undef, undef, undef, undef, undef, undef, undef, undef, undef, undef], defers := [] })
      (fun _ _ _ _ _ _ hs _ _ => hs)
      ?assign2 ?body2 ?done2 ?stop2
    case assign2 =>
      rintro l2 pre' y W' K hi hK'
      gi_wp2
      exact hK' _ _ (KeepsFrom.refl _ _) (KpP.refl _ _ _) hi rfl
    case body2 =>
      rintro l2 pre' y a'' W' _ _ ⟨⟨⟨⟨d1, d2⟩, dX⟩, d3⟩, d4, d5⟩ rfl _
      gi_wp2_with fail
      have hx := hA _ ((HX.out.2.1 x.1).1 x.2)
      have hy := hBn _ ((HX.out.2.2 y.1).1 (by rw [HX.out.1]; exact y.2))
      have kk : Keeps (fun k => k = g) w W' := ((((Keeps.of_below hB0 (fun k => k = g)).step b4 fun i _ h => h).step (Keeps.of_below hbN (fun k => k = g)) fun i _ h => h).step d4 fun i _ h => h)
      have e1 := d1.cell
      have eX := dX.cell
      have ek : W'.cell? ⟨kb, 0, none⟩ = some (.slice (some ⟨g, 0, none⟩) n n) := ((hK.keeps kk (fun e => hgk e.symm)).cell 0).trans rfl
      have d3' := d3
      obtain ⟨vs, hvl, hvB, hvS⟩ := d3
      obtain ⟨x, hxm⟩ := x
      obtain ⟨y, hym⟩ := y
      simp only at hx hy eX d3' ⊢
      obtain ⟨lo, hlo⟩ : ∃ lo, lo = min x y := ⟨_, rfl⟩
      obtain ⟨hi, hhi⟩ : ∃ hi, hi = max x y := ⟨_, rfl⟩
      have hln : lo < n := by omega
      obtain ⟨u0, hu0⟩ : ∃ u, vs[lo]? = some u := ⟨_, List.getElem?_eq_getElem (by omega)⟩
      have hS0 := hvS _ _ hu0
      have ec : W'.cell? ⟨g, lo, none⟩ = some u0 := (hvB.cell lo).trans hu0
      have keepS : ∀ w', Below W'.heap.size W' w' → (Below W'.heap.size W' w' ∧ w'.cell? ⟨w.heap.size, 0, none⟩ = some (.pointer (some ⟨kb, 0, none⟩)) ∧ w'.cell? ⟨Bx, 0, none⟩ = some (.int .i64 (x : Int)) ∧ w'.cell? ⟨kb, 0, none⟩ = some (.slice (some ⟨g, 0, none⟩) n n) ∧ w'.cell? ⟨g, lo, none⟩ = some u0) := fun w' hb =>
        ⟨hb, (hb.cell (World.block_lt_of_cell? W' _ e1)).trans e1, (hb.cell (World.block_lt_of_cell? W' _ eX)).trans eX, (hb.cell (World.block_lt_of_cell? W' _ ek)).trans ek, (hb.cell (World.block_lt_of_cell? W' _ ec)).trans ec⟩
      have HV := Lib.hid (And.intro hu0 (And.intro hvl (And.intro hlo hhi)))
      have hD := keepS _ (below_drew (Below.refl _ _))
      have hmin : min (x : Int) (y : Int) = (lo : Int) := by omega
      have hmax : max (x : Int) (y : Int) = (hi : Int) := by omega
      have hhi65 : hi ≤ 65535 := by omega
      clear hu0 hvl hvS ec ek e1 eX kk hlo hhi hx hy
      change Code.wpIn (Fence.wide.inRound l2) _ _ _ _ _ _
      refine wpIn_walk_last (by kernel_rfl) (by kernel_rfl) (by rintro ⟨_, _, h⟩; exact h) (fun w w' => Below w.heap.size w w') (fun w' => (Below W'.heap.size W' w' ∧ w'.cell? ⟨w.heap.size, 0, none⟩ = some (.pointer (some ⟨kb, 0, none⟩)) ∧ w'.cell? ⟨Bx, 0, none⟩ = some (.int .i64 (x : Int)) ∧ w'.cell? ⟨kb, 0, none⟩ = some (.slice (some ⟨g, 0, none⟩) n n) ∧ w'.cell? ⟨g, lo, none⟩ = some u0)) hD ?_
      simp only [List.length_cons, List.length_nil, Nat.reduceAdd, Nat.reduceSub, List.take_succ_cons, List.take_zero, List.drop_succ_cons, List.drop_zero]
      repeat (first | (refine settle_skip (fun _ => by rfl) ?_; (simp only [Act.put, List.setIfInBounds_toArray, List.set_cons_zero, List.set_cons_succ])) | (refine' settle_run (fun _ _ => Below.refl _ _) (fun _ => by rfl) ?_ ?_; rotate_left; (focus (intro ρ w hS hF; (try dsimp only at hS); go_split_ands; go_simp; try with_reducible rfl)); (simp only [Act.put, List.setIfInBounds_toArray, List.set_cons_zero, List.set_cons_succ])))
      (refine settle_known (FSet (fun z ↦ St.upto2 R YS (pre.map (·.1)) x (pre'.map (·.1)) lo z ∨ z = hi)) (by rfl) (fun _ => by rfl)  ?_ ?_; (focus (intro ρ w hS hF K hK; (simp only [Act.put, List.setIfInBounds_toArray, List.set_cons_zero, List.set_cons_succ] at hK); go_simp; (refine (add_set _ _ _ _ (hS0.below hS.1) hhi65).mono ?_; rintro e w6 ⟨v, rfl, hF', hb'⟩; exact hK _ _ hF' (keepS _ (below_next hb' hS.1)) hb'))); (simp only [Act.put, List.setIfInBounds_toArray, List.set_cons_zero, List.set_cons_succ]))
      repeat (first | (refine settle_skip (fun _ => by rfl) ?_; (simp only [Act.put, List.setIfInBounds_toArray, List.set_cons_zero, List.set_cons_succ])) | (refine' settle_run (fun _ _ => Below.refl _ _) (fun _ => by rfl) ?_ ?_; rotate_left; (focus (intro ρ w hS hF; (try dsimp only at hS); go_split_ands; go_simp; try with_reducible rfl)); (simp only [Act.put, List.setIfInBounds_toArray, List.set_cons_zero, List.set_cons_succ])))
      refine settle_nil ?_
      intro ρ w3 hS hF
      have hU := hF 33 (FSet (fun z => St.upto2 R YS (pre.map (·.1)) x (pre'.map (·.1)) lo z ∨ z = hi)) List.mem_cons_self
      have hU : SetV w3 (ρ 33) (fun z => St.upto2 R YS (pre.map (·.1)) x (pre'.map (·.1)) lo z ∨ z = hi) := hU
      have hb3 := hS.1
      clear hF hS keepS hD
      dsimp only
      generalize ρ 33 = U at hU ⊢
      obtain ⟨Ua, Um, Uc, rfl⟩ := hU.lt
      have hB3 := hvB.below hb3
      refine wpl_set_blk hB3 lo (.slice Ua Um Uc) (by kernel_rfl) (by rw [HV.out.2.1]; exact hln) rfl rfl rfl rfl rfl rfl ?_
      intro w4 hB4 hg4
      have hR4 := (d3'.below hb3).put hU hB3 hB4 hg4
      have hgb := grown_of_below hb3 none
      have f1 := (d1.kept hgb (by simp)).kept hg4 (fun e => by injection e with e; omega)
      have f2 := (d2.kept hgb (by simp)).kept hg4 (fun e => by injection e with e; omega)
      have fX := (dX.kept hgb (by simp)).kept hg4 (fun e => by injection e with e; omega)
      have k1 : Keeps (fun k => k = g) W' w4 := ((Keeps.of_below hb3 (fun k => k = g)).step (Keeps.of_grown hg4) fun i _ e => by injection e)
      have k2 := d4.step k1 fun i _ h => h
      have hW1 := d4.size
      have kf : ∀ B, g < B → KeepsFrom B W' w4 := fun B hB => (KeepsFrom.of_grownBy hgb (fun j e => by cases e)).trans (KeepsFrom.of_grownBy hg4 (fun j e => by injection e with e; omega))
      have HR := Lib.hid (And.intro hR4 (And.intro f1 (And.intro f2 (And.intro fX (And.intro k1 (And.intro k2 kf))))))
      clear hR4 f1 f2 fX k1 k2 kf hB4 hB3 hb3 hgb
      go_wp2
      refine ⟨HR.out.2.2.2.2.2.2 _ (by omega), kpP_of_keeps HR.out.2.2.2.2.1 (by omega), ⟨⟨⟨HR.out.2.1, HR.out.2.2.1⟩, HR.out.2.2.2.1⟩, HR.out.1.iff fun i j => ?_⟩, HR.out.2.2.2.2.2.1, by first | exact d5.trans (HR.out.2.2.2.2.2.2 _ (by omega)) | (rw [← hsz]; exact d5.trans (HR.out.2.2.2.2.2.2 _ (by omega)))⟩
      have h1 := HV.out.2.2.1
      have h2 := HV.out.2.2.2
      simp only [List.unattach, List.map_append, List.map_cons, List.map_nil]
      unfold St.upto2
      split
      · rename_i e
        subst e
        rw [or_assoc]
        refine or_congr Iff.rfl ⟨?_, ?_⟩
        · rintro (⟨y', hy', e1, e2⟩ | e)
          · exact ⟨y', List.mem_append_left _ hy', e1, e2⟩
          · exact ⟨y, List.mem_append_right _ List.mem_cons_self, h1, by omega⟩
        · rintro ⟨y', hy', e1, e2⟩
          rcases List.mem_append.1 hy' with hy' | hy'
          · exact .inl ⟨y', hy', e1, e2⟩
          · rw [List.mem_singleton] at hy'
            subst hy'
            exact .inr (by omega)
      · rename_i e
        refine or_congr Iff.rfl ⟨?_, ?_⟩
        · rintro ⟨y', hy', e1, e2⟩
          exact ⟨y', List.mem_append_left _ hy', e1, e2⟩
        · rintro ⟨y', hy', e1, e2⟩
          rcases List.mem_append.1 hy' with hy' | hy'
          · exact ⟨y', hy', e1, e2⟩
          · rw [List.mem_singleton] at hy'
            subst hy'
            exact absurd (e1.trans h1.symm) e
    case done2 =>
      rintro ys' W' hys ⟨⟨⟨⟨d1, d2⟩, dX⟩, d3⟩, d4, d5⟩
      have kW := (Keeps.of_below hbN (fun k => k = g)).step d4 fun i _ h => h
      gi_wp2
      refine ⟨kf1.trans d5, kpP_of_keeps kW (by omega), ⟨⟨d1, d2⟩, d3.iff fun i j => ?_⟩, b4.step kW fun i _ h => h⟩
      rw [hys, ← HX.out.1]
      simp only [List.map_append, List.map_cons, List.map_nil]
      unfold St.upto2 St.upto
      rw [or_assoc]
      refine or_congr Iff.rfl ⟨?_, ?_⟩
      · rintro (⟨x', hx', y, h⟩ | ⟨y, h⟩)
        · exact ⟨x', List.mem_append_left _ hx', y, h⟩
        · exact ⟨x.1, List.mem_append_right _ List.mem_cons_self, y, h⟩
      · rintro ⟨x', hx', y, h⟩
        rcases List.mem_append.1 hx' with hx' | hx'
        · exact .inl ⟨x', hx', y, h⟩
        · rw [List.mem_singleton] at hx'
          subst hx'
          exact .inr ⟨y, h⟩
    case stop2 =>
      rintro c pre' W' _ h
      exact h.elim
  case done =>
    rintro D zs W hD hzs ⟨⟨⟨b1, b2⟩, b3⟩, b4⟩ hKD
    gi_wp2
    refine ⟨by simp, .inl ⟨_, _, rfl, run_takeDeferred hKD, ?_⟩⟩
    have hg := grownBy_putObj' W D (.deferred none)
    have hrow : ∀ r, (some D : Option Nat) = some r → ∃ o : Obj, W.heap[r]? = some o ∧ o.isCells = false := fun r e => by cases e; exact ⟨_, hKD, rfl⟩
    refine ⟨_, results_none rfl _ _ _, ⟨_, rfl⟩, (Rws.own (fun (_ : Unit) => St.upto R YS (zs.map (·.1))) () W _ _ b3 hg hrow).iff fun i j => ?_, ((Keeps.of_below hB0 _).step b4 fun i _ h => h).step (Keeps.of_grown hg) fun i hi e => by injection e with e; omega⟩
    unfold St.upto St.mixed
    refine or_congr Iff.rfl ⟨?_, ?_⟩
    · rintro ⟨x, hx, y, hy, e1, e2⟩
      exact ⟨x, y, (HX.out.2.1 x).1 (by rw [← hzs]; exact hx), (HX.out.2.2 y).1 hy, e1, e2⟩
    · rintro ⟨x, y, hx, hy, e1, e2⟩
      exact ⟨x, (by rw [hzs]; exact (HX.out.2.1 x).2 hx), y, (HX.out.2.2 y).2 hy, e1, e2⟩
  case stop =>
    rintro D c pre W _ _ h _
    exact h.elim
end Go.Proofs.YtkjmddgnfgbioaaDoor


namespace Go.Proofs.YtkjmddgnfgbioaaDoor
set_option linter.unusedVariables false
set_option linter.unusedSimpArgs false
set_option maxRecDepth 100000
open Go.RowKit

/-- the looker, and Go's table -/
structure Lk (w : World) (kb g N : Nat) (R : Nat → Nat → Prop) : Prop where
  tab : Tab w
  blk : Blk w kb 105 [.slice (some ⟨g, 0, none⟩) N N]
  rws : Rws w g N R
section
variable {w w' : World} {kb g N : Nat} {R R' : Nat → Nat → Prop}
theorem Lk.ne (h : Lk w kb g N R) : kb ≠ g := by
  intro e
  subst e
  obtain ⟨vs, h1, h2, h3⟩ := h.rws
  have hK := h.blk
  unfold Blk at h2 hK
  rw [h2] at hK
  injection hK with hK
  injection hK with _ ht
  exact absurd ht (by decide)
theorem Lk.below (h : Lk w kb g N R) (hb : Below w.heap.size w w') : Lk w' kb g N R := ⟨h.tab.nums (Nums.of_below hb), h.blk.below hb, h.rws.below hb⟩
theorem Lk.nums (h : Lk w kb g N R) (hk : Keeps (fun k => k = g) w w') : Nums w w' := h.rws.nums_of hk
theorem Lk.step (h : Lk w kb g N R) (hr : Rws w' g N R') (hk : Keeps (fun k => k = g) w w') : Lk w' kb g N R' := ⟨h.tab.nums (h.nums hk), h.blk.keeps hk h.ne, hr⟩
theorem SetV.keeps {v : Value} {S : Nat → Prop} (hs : SetV w v S) (h : Lk w kb g N R) (hk : Keeps (fun k => k = g) w w') : SetV w' v S := hs.nums (h.nums hk)
theorem PR.keeps {B n : Nat} {A : Option Addr} {p : St.P} (hp : PR B w A n p) (hk : Keeps (fun k => k = g) w w') (hB : B ≤ g) (hBw : B ≤ w.heap.size) : PR B w' A n p :=
  hp.keep (Nat.le_refl _) fun a ha => World.cell?_of_block (hk.block _ (by omega) (fun e => by omega))
theorem Keeps.next_ {w1 w2 w3 : World} (h : Keeps (fun k => k = g) w1 w2) (k : Keeps (fun k => k = g) w2 w3) : Keeps (fun k => k = g) w1 w3 := h.step k fun _ _ h => h
theorem Keeps.of_b (h : Below w.heap.size w w') : Keeps (fun k => k = g) w w' := Keeps.of_below h _
end

def BlkOK (p : St.P) : Prop := ∀ (w : World) (B n c kb g N l : Nat) (A : Option Addr) (R : Nat → Nat → Prop) (vo : Value) (O : Nat → Prop), B ≤ w.heap.size → PR B w A n p → n ≤ c → c ≤ maxLen → p.size ≤ 1152921504606846976 →
  Lk w kb g N R → B ≤ g → SetV w vo O → (∀ x, O x → x < l) → l + St.labels p ≤ N → N ≤ 65535 →
  Calls Tryd.prog 68 #[.pointer (some ⟨kb, 0, none⟩), .slice A n c, .int .i64 (l : Int), vo] w fun e w' => ∃ u, e = .returned u ∧ SetV w' u (St.both O (St.news l p)) ∧ Rws w' g N (fun i j => R i j ∨ St.noted l O p i j) ∧ Keeps (fun k => k = g) w w'

/-- one statement, as a list of its own -/
theorem pr_one {B : Nat} {w : World} {k : Int} {nm : ByteArray} {ca cb : List Value} {ea eb : Ex.X} {D : Option Addr} {dl dc : Nat} {E : Option Addr} {el ec : Nat} {body els : St.P} {q : Nat} (hq : Blk w q 40 (stcells k nm ca cb D dl dc E el ec)) (hd : dl ≤ dc ∧ dc ≤ maxLen ∧ el ≤ ec ∧ ec ≤ maxLen) (hB : B ≤ w.heap.size)
    (xa : XR B w ca ea) (xb : XR B w cb eb) (pb : PR B w D dl body) (pe : PR B w E el els) : PR w.heap.size w (some ⟨q, 0, none⟩) 1 (.cons k nm.data.toList ea eb body els .nil) :=
  .cons q 0 0 k nm ca cb ea eb D dl dc E el ec body els .nil hq.lt hd.1 hd.2.1 hd.2.2.1 hd.2.2.2 (fun j u hu => by rw [Nat.zero_add, hq.cell]; exact hu) (xa.keep hB fun _ _ => rfl) (xb.keep hB fun _ _ => rfl) (pb.up hB) (pe.up hB) (.nil _)

set_option maxHeartbeats 8000000 in
set_option maxRecDepth 100000 in
theorem mh_block_step (p : St.P) (ih : ∀ q : St.P, q.size < p.size → BlkOK q) : BlkOK p := by
  intro w B n c kb g N l A R vo O hB hp hnc hcm hsz hL hBg hO hOl hlN hN
  obtain ⟨g0, o, hA, hpl⟩ := hp.place
  have hn63 : n ≤ 9223372036854775807 := by unfold maxLen at hcm; omega
  go_enter Tryd.func68, Tryd.ntmps68
  go_wp2
  go_loopw [2, 3, 17] (fun lb op i wr => ∃ (k l' : Nat) (q : St.P) (O' : Nat → Prop) (R' : Nat → Nat → Prop), k ≤ n ∧ i = .int .i64 (k : Int) ∧ lb = .int .i64 (l' : Int) ∧ SetV wr op O' ∧ Lk wr kb g N R' ∧ PR B wr (some ⟨g0, o + k * 12, none⟩) (n - k) q ∧ Keeps (fun k => k = g) w wr ∧
    (q.size ≤ p.size ∧ (∀ x, O' x → x < l') ∧ l' + St.labels q = l + St.labels p ∧ (∀ x, St.both O' (St.news l' q) x ↔ St.both O (St.news l p) x) ∧ (∀ i j, (R' i j ∨ St.noted l' O' q i j) ↔ (R i j ∨ St.noted l O p i j)))) (fun lb op i _ => n - (intOf i).toNat)
  case atStart => exact ⟨0, l, p, O, R, Nat.zero_le _, rfl, rfl, hO, hL, hpl, Keeps.refl _ _, Nat.le_refl _, hOl, rfl, fun _ => Iff.rfl, fun _ _ => Iff.rfl⟩
  case round =>
    obtain ⟨k, l', q, O', R', hk, rfl, rfl, hO', hL', hq, hb, hfs⟩ := hrel
    by_cases hlt : k < n
    · obtain ⟨kd, nm, ak, an, bk, bn, sa, sb, aA, bA, al, ac, bl, bc, ea, eb, D, dl, dc, E, el, ec, body, els, rest, rfl, hg, hd, hcell, xa, xb, pb, pe, pr⟩ := hq.next (by omega)
      have hAA := hA (by omega)
      subst hAA
      have c0 : wr.cell? ⟨g0, o + k * 12, none⟩ = some (.int .i64 kd) := hcell 0 _ rfl
      have c1 := hcell 1 _ rfl
      have c2 := hcell 2 _ rfl
      have c3 := hcell 3 _ rfl
      have c4 := hcell 4 _ rfl
      have c5 := hcell 5 _ rfl
      have c6 := hcell 6 _ rfl
      have c7 := hcell 7 _ rfl
      have c8 := hcell 8 _ rfl
      have c9 := hcell 9 _ rfl
      have c10 := hcell 10 _ rfl
      have c11 := hcell 11 _ rfl
      have hBr : B ≤ wr.heap.size := Nat.le_trans hB hb.size
      have hs : body.size < p.size ∧ els.size < p.size ∧ rest.size ≤ p.size ∧ 1 + ea.leaves + eb.leaves + body.size + els.size + rest.size ≤ p.size := by rw [St.P.size] at hfs; omega
      obtain ⟨m, hm⟩ : ∃ m, m = St.lab1 kd (St.labels body) (St.labels els) := ⟨_, rfl⟩
      have hm1 : St.labels (.cons kd nm.data.toList ea eb body els .nil) = m := by rw [hm]; simp [St.labels]
      have hfs2 := hfs.2.2.1
      rw [St.labels, ← hm] at hfs2
      have hmN : l' + m ≤ N := by omega
      obtain ⟨cs, hcs⟩ : ∃ cs, cs = stcells kd nm (xcells ak an sa aA al ac) (xcells bk bn sb bA bl bc) D dl dc E el ec := ⟨_, rfl⟩
      obtain ⟨p0, -, hb0⟩ := st_copy (Below.refl _ wr) cs 40
      obtain ⟨p1, -, hb1⟩ := st_copy (Below.refl _ (wr.alloc (.cells cs.toArray 40))) cs 40
      have p0 := p0.below hb1
      have hb1 := below_next hb1 hb0
      have hsz1 : (wr.alloc (.cells cs.toArray 40)).heap.size = wr.heap.size + 1 := by simp
      rw [hsz1] at p1
      rw [hcs] at p0 p1 hb1
      have HH := Lib.hid (And.intro hfs (And.intro hs (And.intro hm (And.intro hm1 (And.intro hfs2 (And.intro hp hpl))))))
      clear hcell hfs hs hm hm1 hfs2 hp hpl hq hcs hb0 hsz1
      unfold stcells xcells at p0 p1 hb1
      go_wp2_with fail
      obtain ⟨W, hW⟩ : ∃ W, W = (wr.alloc (.cells #[.int .i64 kd, .string nm, .int .i64 ak, .int .i64 an, .string sa, .slice aA al ac, .int .i64 bk, .int .i64 bn, .string sb, .slice bA bl bc, .slice D dl dc, .slice E el ec] 40)).alloc (.cells #[.int .i64 kd, .string nm, .int .i64 ak, .int .i64 an, .string sa, .slice aA al ac, .int .i64 bk, .int .i64 bn, .string sb, .slice bA bl bc, .slice D dl dc, .slice E el ec] 40) := ⟨_, rfl⟩
      have p0 : Blk W wr.heap.size 40 [.int .i64 kd, .string nm, .int .i64 ak, .int .i64 an, .string sa, .slice aA al ac, .int .i64 bk, .int .i64 bn, .string sb, .slice bA bl bc, .slice D dl dc, .slice E el ec] := by rw [hW]; exact p0
      have p1 : Blk W (wr.heap.size + 1) 40 (stcells kd nm (xcells ak an sa aA al ac) (xcells bk bn sb bA bl bc) D dl dc E el ec) := by rw [hW]; exact p1
      have hb1 : Below wr.heap.size wr W := by rw [hW]; exact hb1
      rw [← hW]
      clear hW
      have hBW : B ≤ W.heap.size := Nat.le_trans hBr hb1.size
      have hbB := hb1.mono hBr
      have hone := pr_one p1 hd hBW (xa.later hbB) (xb.later hbB) (pb.later hbB) (pe.later hbB)
      refine (labels_any _ W W.heap.size 1 1 _ (Nat.le_refl _) hone (Nat.le_refl _) (by decide) (by have := HH.out; simp only [St.P.size]; omega)).mono ?_
      rintro e w2 ⟨rfl, hb2⟩
      rw [HH.out.2.2.2.1]
      clear p1 hone xa xb
      go_wp2_with fail
      refine (span_any w2 l' m (by omega)).mono ?_
      rintro e w3 ⟨v3, rfl, hv3, hb3⟩
      have hb13 : Below wr.heap.size wr w3 := below_next hb3 (below_next hb2 hb1)
      have p3 := (p0.below hb2).below hb3
      have hL3 := hL'.below hb13
      have hO3 := hO'.below hb13
      go_wp2_with fail
      refine (mix_any w3 kb g N R' _ v3 O' (St.span l' m) hL3.tab hL3.blk hL3.rws hO3 hv3 (fun x hx => by have := HH.out.1.2.1 x hx; omega) (fun x hx => by have := hx.2; omega) hN).mono ?_
      rintro e w4 ⟨⟨v4, rfl⟩, hR4, hk4⟩
      have hL4 := hL3.step hR4 hk4
      have hk14 : Keeps (fun k => k = g) wr w4 := (Keeps.of_b hb13).next_ hk4
      have hO4 := hO'.keeps hL' hk14
      have hgw : wr.heap.size ≠ g := by have := hL'.rws.lt; omega
      have p4 := p3.keeps hk4 hgw
      have d0 : w4.cell? ⟨wr.heap.size, 0, none⟩ = some (.int .i64 kd) := (p4.cell 0).trans rfl
      have d10 : w4.cell? ⟨wr.heap.size, 10, none⟩ = some (.slice D dl dc) := (p4.cell 10).trans rfl
      have pb4 := pb.keeps hk14 hBg hBr
      have pe4 := pe.keeps hk14 hBg hBr
      have pr4 := pr.keeps hk14 hBg hBr
      have hb4 := hb.next_ hk14
      have hB4 : B ≤ w4.heap.size := Nat.le_trans hBr hk14.size
      have hsz4 : body.size ≤ 1152921504606846976 ∧ els.size ≤ 1152921504606846976 := by have := HH.out; omega
      have hIB := ih body HH.out.2.1.1
      have hIE := ih els HH.out.2.1.2.1
      have hrnd := fun O5 R5 => St.round (O5 := O5) (R5 := R5) HH.out.2.2.1 HH.out.1.2.1 HH.out.1.2.2.1 HH.out.1.2.2.2.1 HH.out.1.2.2.2.2
      have hrs : rest.size ≤ p.size := HH.out.2.1.2.2.1
      have HM := Lib.hid HH.out.2.2.1
      clear HH hb1 hb2 hb3 hv3 p0 p3 hL3 hO3 hk4 hR4 pb pe pr hbB hL' hb hb13 hO' hk14 hBr
      rcases lab_kinds kd with rfl | rfl | rfl | rfl | rfl | rfl | ⟨k2, k3, k4, k5, k6, k7⟩
      · clear hIB hIE pb4 pe4 p4
        go_wp2
        go_roundw
        case rel => exact ⟨k + 1, l' + m, rest, _, _, by omega, by go_num, by go_num, hO4, hL4, by rw [show n - (k + 1) = n - k - 1 by omega]; exact pr4, hb4, hrs, hrnd _ _ (fun x => by simp [St.both, St.news1]) (fun i j => by simp [St.in1])⟩
        case measure => simp [intOf]; omega
      · clear hIB hIE pb4 pe4 p4
        go_wp2
        go_roundw
        case rel => exact ⟨k + 1, l' + m, rest, _, _, by omega, by go_num, by go_num, hO4, hL4, by rw [show n - (k + 1) = n - k - 1 by omega]; exact pr4, hb4, hrs, hrnd _ _ (fun x => by simp [St.both, St.news1]) (fun i j => by simp [St.in1])⟩
        case measure => simp [intOf]; omega
      · clear hIE
        go_wp2_with fail
        refine (hIB w4 B dl dc kb g N l' D _ (.slice none 0 0) St.none_ hB4 pb4 hd.1 hd.2.1 hsz4.1 hL4 hBg (SetV.nil _) (fun x h => h.elim) (by have hmN := hmN; rw [HM.out] at hmN; simp [St.lab1] at hmN; omega) hN).mono ?_
        rintro e w5 ⟨u5, rfl, hu5, hR5, hk5⟩
        have hL5 := hL4.step hR5 hk5
        have hO5 := hO4.keeps hL4 hk5
        have hb5 := hb4.next_ hk5
        have pr5 := pr4.keeps hk5 hBg hB4
        have p5 := p4.keeps hk5 hgw
        have d5 : w5.cell? ⟨wr.heap.size, 10, none⟩ = some (.slice D dl dc) := (p5.cell 10).trans rfl
        have d5' : w5.cell? ⟨wr.heap.size, 11, none⟩ = some (.slice E el ec) := (p5.cell 11).trans rfl
        have pb5 := pb4.keeps hk5 hBg hB4
        have pe5 := pe4.keeps hk5 hBg hB4
        have hB5 : B ≤ w5.heap.size := Nat.le_trans hB4 hk5.size
        have hu5 := hu5.iff (St.none_both _)
        clear hIB hL4 hO4 hb4 pr4 hR5 hk5 p4 pb4 pe4 hB4
        go_wp2_with fail
        refine (span_any w5 l' m (by omega)).mono ?_
        rintro e w6 ⟨u6, rfl, hu6, hb6⟩
        have hL6 := hL5.below hb6
        have hO6 := hO5.below hb6
        have hb6' := hb5.next_ (Keeps.of_b hb6)
        have pr6 := pr5.later (hb6.mono hB5)
        have hB6 : B ≤ w6.heap.size := Nat.le_trans hB5 hb6.size
        clear hL5 hO5 hb5 pr5 pb5 pe5 p5 hu5
        go_wp2_with fail
        refine (or_set w6 _ _ _ _ hO6 hu6).mono ?_
        rintro e w7 ⟨u7, rfl, hu7, hb7⟩
        have hL7 := hL6.below hb7
        have hb7' := hb6'.next_ (Keeps.of_b hb7)
        have pr7 := pr6.later (hb7.mono hB6)
        clear hL6 hb6' pr6
        go_wp2
        go_roundw
        case rel => exact ⟨k + 1, l' + m, rest, _, _, by omega, by go_num, by go_num, hu7, hL7, by rw [show n - (k + 1) = n - k - 1 by omega]; exact pr7, hb7', hrs, hrnd _ _ (fun x => by simp [St.both, St.news1]) (fun i j => by simp [St.in1])⟩
        case measure => simp [intOf]; omega
      · clear hIE
        go_wp2_with fail
        refine (hIB w4 B dl dc kb g N l' D _ (.slice none 0 0) St.none_ hB4 pb4 hd.1 hd.2.1 hsz4.1 hL4 hBg (SetV.nil _) (fun x h => h.elim) (by have hmN := hmN; rw [HM.out] at hmN; simp [St.lab1] at hmN; omega) hN).mono ?_
        rintro e w5 ⟨u5, rfl, hu5, hR5, hk5⟩
        have hL5 := hL4.step hR5 hk5
        have hO5 := hO4.keeps hL4 hk5
        have hb5 := hb4.next_ hk5
        have pr5 := pr4.keeps hk5 hBg hB4
        have p5 := p4.keeps hk5 hgw
        have d5 : w5.cell? ⟨wr.heap.size, 10, none⟩ = some (.slice D dl dc) := (p5.cell 10).trans rfl
        have d5' : w5.cell? ⟨wr.heap.size, 11, none⟩ = some (.slice E el ec) := (p5.cell 11).trans rfl
        have pb5 := pb4.keeps hk5 hBg hB4
        have pe5 := pe4.keeps hk5 hBg hB4
        have hB5 : B ≤ w5.heap.size := Nat.le_trans hB4 hk5.size
        have hu5 := hu5.iff (St.none_both _)
        clear hIB hL4 hO4 hb4 pr4 hR5 hk5 p4 pb4 pe4 hB4
        go_wp2
        go_roundw
        case rel => exact ⟨k + 1, l' + m, rest, _, _, by omega, by go_num, by go_num, hO5, hL5, by rw [show n - (k + 1) = n - k - 1 by omega]; exact pr5, hb5, hrs, hrnd _ _ (fun x => by simp [St.both, St.news1]) (fun i j => by simp [St.in1])⟩
        case measure => simp [intOf]; omega
      · go_wp2_with fail
        refine (hIB w4 B dl dc kb g N l' D _ (.slice none 0 0) St.none_ hB4 pb4 hd.1 hd.2.1 hsz4.1 hL4 hBg (SetV.nil _) (fun x h => h.elim) (by have hmN := hmN; rw [HM.out] at hmN; simp [St.lab1] at hmN; omega) hN).mono ?_
        rintro e w5 ⟨u5, rfl, hu5, hR5, hk5⟩
        have hL5 := hL4.step hR5 hk5
        have hO5 := hO4.keeps hL4 hk5
        have hb5 := hb4.next_ hk5
        have pr5 := pr4.keeps hk5 hBg hB4
        have p5 := p4.keeps hk5 hgw
        have d5 : w5.cell? ⟨wr.heap.size, 10, none⟩ = some (.slice D dl dc) := (p5.cell 10).trans rfl
        have d5' : w5.cell? ⟨wr.heap.size, 11, none⟩ = some (.slice E el ec) := (p5.cell 11).trans rfl
        have pb5 := pb4.keeps hk5 hBg hB4
        have pe5 := pe4.keeps hk5 hBg hB4
        have hB5 : B ≤ w5.heap.size := Nat.le_trans hB4 hk5.size
        have hu5 := hu5.iff (St.none_both _)
        clear hIB hL4 hO4 hb4 pr4 hR5 hk5 p4 pb4 pe4 hB4
        go_wp2_with fail
        have hw1 : IntKind.i64.wrap ((l' : Int) + (St.labels body : Nat)) = ((l' + St.labels body : Nat) : Int) := i64_addk _ _ (by have hmN := hmN; rw [HM.out] at hmN; simp [St.lab1] at hmN; omega)
        have key : ∀ w', Below w5.heap.size w5 w' → w'.cell? ⟨wr.heap.size, 10, none⟩ = some (.slice D dl dc) ∧ w'.cell? ⟨wr.heap.size, 11, none⟩ = some (.slice E el ec) ∧ PR B w' D dl body ∧ B ≤ w'.heap.size := fun w' h =>
          ⟨((p5.below h).cell 10).trans rfl, ((p5.below h).cell 11).trans rfl, pb5.later (h.mono hB5), Nat.le_trans hB5 h.size⟩
        refine wp_walk_tail 8 (by kernel_rfl) (by kernel_rfl) (fun _ _ => True) (fun w' => (Below w5.heap.size w5 w' ∧ w'.cell? ⟨wr.heap.size, 10, none⟩ = some (.slice D dl dc) ∧ w'.cell? ⟨wr.heap.size, 11, none⟩ = some (.slice E el ec))) ⟨below_drew (Below.refl _ _), (key _ (below_drew (Below.refl _ _))).1, (key _ (below_drew (Below.refl _ _))).2.1⟩ ?_
        simp only [List.length_cons, List.length_nil, Nat.reduceAdd, Nat.reduceSub, List.take_succ_cons, List.take_zero, List.drop_succ_cons, List.drop_zero]
        repeat (first | (refine settle_skip (fun _ => by rfl) ?_; (simp only [Act.put, List.setIfInBounds_toArray, List.set_cons_zero, List.set_cons_succ])) | (refine' settle_run (fun _ _ => trivial) (fun _ => by rfl) ?_ ?_; rotate_left; (focus (intro ρ w hS hF; (try dsimp only at hS); go_split_ands; go_simp; try with_reducible rfl)); (simp only [Act.put, List.setIfInBounds_toArray, List.set_cons_zero, List.set_cons_succ])))
        (refine' settle_step (fun _ => by rfl) ?_ ?_; rotate_left; (focus (intro ρ w hS hF K hK; (simp only [Act.put, List.setIfInBounds_toArray, List.set_cons_zero, List.set_cons_succ] at hK); go_simp; (have hk := key _ hS.1; go_at_call 38; refine (labels_any body _ B dl dc D hk.2.2.2 hk.2.2.1 hd.1 hd.2.1 hsz4.1).mono ?_; rintro e w6 ⟨rfl, hb6⟩; have hS0 := below_next hb6 hS.1; have hS' := (And.intro hS0 (And.intro (key _ hS0).1 (key _ hS0).2.1)); have hE' := True.intro); exact hK _ hS' hE')); (simp only [Act.put, List.setIfInBounds_toArray, List.set_cons_zero, List.set_cons_succ]))
        repeat (first | (refine settle_skip (fun _ => by rfl) ?_; (simp only [Act.put, List.setIfInBounds_toArray, List.set_cons_zero, List.set_cons_succ])) | (refine' settle_run (fun _ _ => trivial) (fun _ => by rfl) ?_ ?_; rotate_left; (focus (intro ρ w hS hF; (try dsimp only at hS); go_split_ands; go_simp; try with_reducible rfl)); (simp only [Act.put, List.setIfInBounds_toArray, List.set_cons_zero, List.set_cons_succ])))
        refine settle_nil ?_
        intro ρ w6 hS _
        have hb6 := hS.1
        have hL6 := hL5.below hb6
        have hO6 := hO5.below hb6
        have hA6 := hu5.below hb6
        have hb6' := hb5.next_ (Keeps.of_b hb6)
        have pr6 := pr5.later (hb6.mono hB5)
        have pe6 := pe5.later (hb6.mono hB5)
        have hB6 : B ≤ w6.heap.size := Nat.le_trans hB5 hb6.size
        clear hL5 hO5 hb5 pr5 pb5 pe5 p5 hu5 key hS hb6
        go_wp2_with fail
        refine (hIE w6 B el ec kb g N (l' + St.labels body) E _ (.slice none 0 0) St.none_ hB6 pe6 hd.2.2.1 hd.2.2.2 hsz4.2 hL6 hBg (SetV.nil _) (fun x h => h.elim) (by have hmN := hmN; rw [HM.out] at hmN; simp [St.lab1] at hmN; omega) hN).mono ?_
        rintro e w7 ⟨u7, rfl, hu7, hR7, hk7⟩
        have hL7 := hL6.step hR7 hk7
        have hO7 := hO6.keeps hL6 hk7
        have hA7 := hA6.keeps hL6 hk7
        have hb7 := hb6'.next_ hk7
        have pr7 := pr6.keeps hk7 hBg hB6
        have hB7 : B ≤ w7.heap.size := Nat.le_trans hB6 hk7.size
        have hu7 := hu7.iff (St.none_both _)
        clear hIE hL6 hO6 hA6 hb6' pr6 pe6 hR7 hk7
        go_wp2_with fail
        refine (or_set w7 _ _ _ _ hO7 hA7).mono ?_
        rintro e w8 ⟨u8, rfl, hu8, hb8⟩
        have hL8 := hL7.below hb8
        have hE8 := hu7.below hb8
        have hb8' := hb7.next_ (Keeps.of_b hb8)
        have pr8 := pr7.later (hb8.mono hB7)
        have hB8 : B ≤ w8.heap.size := Nat.le_trans hB7 hb8.size
        clear hL7 hb7 pr7
        go_wp2_with fail
        refine (or_set w8 _ _ _ _ hu8 hE8).mono ?_
        rintro e w9 ⟨u9, rfl, hu9, hb9⟩
        have hL9 := hL8.below hb9
        have hb9' := hb8'.next_ (Keeps.of_b hb9)
        have pr9 := pr8.later (hb9.mono hB8)
        clear hL8 hb8' pr8
        go_wp2
        go_roundw
        case rel => exact ⟨k + 1, l' + m, rest, _, _, by omega, by go_num, by go_num, hu9, hL9, by rw [show n - (k + 1) = n - k - 1 by omega]; exact pr9, hb9', hrs, hrnd _ _ (fun x => by simp [St.both, St.news1, or_assoc]) (fun i j => by simp [St.in1, or_assoc])⟩
        case measure => simp [intOf]; omega
      · clear hIE
        go_wp2_with fail
        refine (hIB w4 B dl dc kb g N l' D _ (.slice none 0 0) St.none_ hB4 pb4 hd.1 hd.2.1 hsz4.1 hL4 hBg (SetV.nil _) (fun x h => h.elim) (by have hmN := hmN; rw [HM.out] at hmN; simp [St.lab1] at hmN; omega) hN).mono ?_
        rintro e w5 ⟨u5, rfl, hu5, hR5, hk5⟩
        have hL5 := hL4.step hR5 hk5
        have hO5 := hO4.keeps hL4 hk5
        have hb5 := hb4.next_ hk5
        have pr5 := pr4.keeps hk5 hBg hB4
        have p5 := p4.keeps hk5 hgw
        have d5 : w5.cell? ⟨wr.heap.size, 10, none⟩ = some (.slice D dl dc) := (p5.cell 10).trans rfl
        have d5' : w5.cell? ⟨wr.heap.size, 11, none⟩ = some (.slice E el ec) := (p5.cell 11).trans rfl
        have pb5 := pb4.keeps hk5 hBg hB4
        have pe5 := pe4.keeps hk5 hBg hB4
        have hB5 : B ≤ w5.heap.size := Nat.le_trans hB4 hk5.size
        have hu5 := hu5.iff (St.none_both _)
        clear hIB hL4 hO4 hb4 pr4 hR5 hk5 p4 pb4 pe4 hB4
        go_wp2_with fail
        refine (span_any w5 l' m (by omega)).mono ?_
        rintro e w6 ⟨u6, rfl, hu6, hb6⟩
        have hL6 := hL5.below hb6
        have hO6 := hO5.below hb6
        have hA6 := hu5.below hb6
        have hb6' := hb5.next_ (Keeps.of_b hb6)
        have pr6 := pr5.later (hb6.mono hB5)
        have hB6 : B ≤ w6.heap.size := Nat.le_trans hB5 hb6.size
        clear hL5 hO5 hb5 pr5 pb5 pe5 p5 hu5
        go_wp2_with fail
        refine (mix_any w6 kb g N _ _ u6 (St.news l' body) (St.span l' m) hL6.tab hL6.blk hL6.rws hA6 hu6 (fun x hx => by have := St.news_span body l' x hx; unfold St.span at this; have hmN := hmN; rw [HM.out] at hmN; simp [St.lab1] at hmN; omega) (fun x hx => by have := hx.2; omega) hN).mono ?_
        rintro e w7 ⟨⟨u7, rfl⟩, hR7, hk7⟩
        have hL7 := hL6.step hR7 hk7
        have hO7 := hO6.keeps hL6 hk7
        have hA7 := hA6.keeps hL6 hk7
        have hb7 := hb6'.next_ hk7
        have pr7 := pr6.keeps hk7 hBg hB6
        have hB7 : B ≤ w7.heap.size := Nat.le_trans hB6 hk7.size
        clear hL6 hO6 hA6 hb6' pr6 hR7 hk7
        go_wp2_with fail
        refine (or_set w7 _ _ _ _ hO7 hA7).mono ?_
        rintro e w8 ⟨u8, rfl, hu8, hb8⟩
        have hL8 := hL7.below hb8
        have hb8' := hb7.next_ (Keeps.of_b hb8)
        have pr8 := pr7.later (hb8.mono hB7)
        clear hL7 hb7 pr7
        go_wp2
        go_roundw
        case rel => exact ⟨k + 1, l' + m, rest, _, _, by omega, by go_num, by go_num, hu8, hL8, by rw [show n - (k + 1) = n - k - 1 by omega]; exact pr8, hb8', hrs, hrnd _ _ (fun x => by simp [St.both, St.news1]) (fun i j => by simp [St.in1, or_assoc])⟩
        case measure => simp [intOf]; omega
      · clear hIB hIE pb4 pe4 p4
        have e4 : kd ≠ 4 := by simpa using k4
        have e5 : kd ≠ 5 := by simpa using k5
        have e6 : kd ≠ 6 := by simpa using k6
        have e7 : kd ≠ 7 := by simpa using k7
        have HO := Lib.hid (show ∀ x, O' x ↔ St.both O' (St.news1 kd l' m (St.news l' body) (St.news (l' + St.labels body) els)) x from fun x => by simp [St.both, St.news1, e4, e6, e7])
        have HR := Lib.hid (show ∀ i j, ¬ St.in1 kd l' m (St.news l' body) (St.noted l' St.none_ body) (St.noted (l' + St.labels body) St.none_ els) i j from fun i j => by simp [St.in1, e4, e5, e6, e7])
        clear e4 e5 e6 e7
        go_wp2
        go_roundw
        case rel => exact ⟨k + 1, l' + m, rest, _, _, by omega, by go_num, by go_num, hO4, hL4, by rw [show n - (k + 1) = n - k - 1 by omega]; exact pr4, hb4, hrs, hrnd _ _ (fun x => by exact HO.out x) (fun i j => by exact (or_iff_left (HR.out i j)).symm)⟩
        case measure => simp [intOf]; omega
    · have hkn : k = n := by omega
      have hq0 : q = .nil := by rw [hkn, Nat.sub_self] at hq; exact hq.zero
      subst hq0
      have HF := Lib.hid hfs
      clear hfs hkn
      go_wp2
      go_ret
      refine ⟨_, rfl, hO'.iff fun x => ?_, hL'.rws.iff fun i j => ?_, hb⟩
      · exact (St.both_none O' x).symm.trans (HF.out.2.2.2.1 x)
      · exact (or_iff_left (fun h => h)).symm.trans (HF.out.2.2.2.2 i j)
theorem mh_block_any (p : St.P) : BlkOK p := by
  suffices h : ∀ m (p : St.P), p.size ≤ m → BlkOK p from h _ p (Nat.le_refl _)
  intro m
  induction m with
  | zero =>
    intro p hp
    exact mh_block_step p fun q hq => by omega
  | succ m ih => exact fun p hp => mh_block_step p fun q hq => ih q (by omega)
end Go.Proofs.YtkjmddgnfgbioaaDoor


namespace Go.Proofs.YtkjmddgnfgbioaaDoor
set_option linter.unusedVariables false
set_option linter.unusedSimpArgs false
set_option maxRecDepth 100000
open Go.RowKit

namespace St
theorem rise_ext : ∀ {l m : List Nat}, l.Pairwise (· < ·) → m.Pairwise (· < ·) → (∀ x, x ∈ l ↔ x ∈ m) → l = m
  | [], [], _, _, _ => rfl
  | [], y :: m, _, _, h => absurd ((h y).2 List.mem_cons_self) (by simp)
  | x :: l, [], _, _, h => absurd ((h x).1 List.mem_cons_self) (by simp)
  | x :: l, y :: m, hl, hm, h => by
    have hl' := List.pairwise_cons.1 hl
    have hm' := List.pairwise_cons.1 hm
    have e : x = y := by
      rcases List.mem_cons.1 ((h x).1 List.mem_cons_self) with e | e
      · exact e
      · rcases List.mem_cons.1 ((h y).2 List.mem_cons_self) with e' | e'
        · exact e'.symm
        · have := hl'.1 y e'
          have := hm'.1 x e
          omega
    subst e
    refine congrArg _ (rise_ext hl'.2 hm'.2 fun z => ⟨fun hz => ?_, fun hz => ?_⟩)
    · rcases List.mem_cons.1 ((h z).1 (List.mem_cons_of_mem _ hz)) with e | e
      · have := hl'.1 z hz; omega
      · exact e
    · rcases List.mem_cons.1 ((h z).2 (List.mem_cons_of_mem _ hz)) with e | e
      · have := hm'.1 z hz; omega
      · exact e
theorem listOf_rise (n : Nat) (S : Nat → Prop) : (listOf n S).Pairwise (· < ·) := List.Pairwise.filter _ List.pairwise_lt_range
theorem ls_listOf {xs : List Nat} {n : Nat} {S : Nat → Prop} (hw : Bs.Ws xs) (h : ∀ j, Bs.bit xs j = true ↔ S j) (hS : ∀ j, S j → j < n) : Bs.ls 0 xs = listOf n S :=
  rise_ext (Bs.ls_rise xs 0 hw) (listOf_rise n S) fun j => by
    rw [Bs.mem_list hw, h, mem_listOf]
    exact ⟨fun hj => ⟨hS j hj, hj⟩, fun hj => hj.2⟩
theorem noted_lt : ∀ (p : P) (l N : Nat) (O : Nat → Prop), (∀ x, O x → x < l) → l + labels p ≤ N → ∀ i j, noted l O p i j → i < N ∧ j < N
  | .nil, _, _, _, _, _, _, _, h => h.elim
  | .cons k n a b body els r, l, N, O, hO, hN, i, j, h => by
    have hm : ∀ A : Nat → Prop, (∀ x, A x → x < l + lab1 k (labels body) (labels els)) → mixed A (span l (lab1 k (labels body) (labels els))) i j → i < N ∧ j < N := fun A hA h => by
      have := mixed_lt hA (fun x hx => hx.2) h
      rw [labels] at hN
      omega
    rcases h with h | h | h
    · exact hm O (fun x hx => by have := hO x hx; omega) h
    · have hb : labels body ≤ lab1 k (labels body) (labels els) → noted l none_ body i j → i < N ∧ j < N := fun hle h => noted_lt body l N none_ (fun x h => h.elim) (by rw [labels] at hN; omega) i j h
      rcases h with ⟨hk, h⟩ | ⟨hk, h | h⟩ | ⟨hk, h | h⟩
      · exact hb (by rcases hk with rfl | rfl <;> simp [lab1]) h
      · exact hb (by subst hk; simp [lab1]) h
      · exact noted_lt els _ N none_ (fun x h => h.elim) (by subst hk; simp [labels, lab1] at hN; omega) i j h
      · exact hb (by subst hk; simp [lab1]) h
      · refine hm _ (fun x hx => ?_) h
        have := (news_span body l x hx).2
        subst hk
        simp [lab1]
        omega
    · refine noted_lt r _ N _ (fun x hx => ?_) (by rw [labels] at hN; omega) i j h
      rcases hx with hx | hx
      · have := hO x hx; omega
      · have := (news_span (.cons k n a b body els .nil) l x (.inl hx)).2
        simpa [labels] using this
end St

theorem info_words : (Tryd.prog.info? 22).map (fun i => (i.zero, i.size, i.bytes)) = some (some (.slice none 0 0), 1, 24) := by kernel_rfl

/-- a looker, fresh -/
theorem lk_new {w1 w2 : World} {m : Nat} (hT : Tab w1) (hB : Blk w2 w1.heap.size 22 (List.replicate (m * 1) (.slice none 0 0))) (hb : Below w1.heap.size w1 w2) (hz : w2.heap.size = w1.heap.size + 1) :
    Lk (w2.alloc (.cells #[.slice (some ⟨w1.heap.size, 0, none⟩) m m] 105)) (w1.heap.size + 1) w1.heap.size m (fun _ _ => False) := by
  have h0 := Blk.new w2 105 [.slice (some ⟨w1.heap.size, 0, none⟩) m m]
  rw [hz] at h0
  have hba : Below w2.heap.size w2 (w2.alloc (.cells #[.slice (some ⟨w1.heap.size, 0, none⟩) m m] 105)) := below_alloc (Below.refl _ _) _
  refine ⟨(hT.nums (Nums.of_below hb)).nums (Nums.of_below hba), h0, List.replicate (m * 1) (.slice none 0 0), by simp, hB.below hba, fun i v hv => ?_⟩
  obtain ⟨hi, he⟩ := List.getElem?_eq_some_iff.1 hv
  rw [List.getElem_replicate] at he
  subst he
  exact (SetV.nil _).iff fun x => Iff.rfl

set_option maxRecDepth 100000 in
set_option maxHeartbeats 4000000 in
theorem open_any (p : St.P) (w : World) (B n c : Nat) (A : Option Addr) (hB : B ≤ w.heap.size) (hp : PR B w A n p) (hnc : n ≤ c) (hcm : c ≤ maxLen) (hsz : p.size ≤ 1099511627776) (hT : Tab w) :
    Calls Tryd.prog 28 #[.slice A n c] w fun e w' => ∃ u, e = .returned u ∧ SlV w' 1 u (St.open_ p).length (ilist (St.open_ p)) ∧ Below w.heap.size w w' := by
  have hlp := St.labels_le p
  obtain ⟨m, hm⟩ : ∃ m, m = St.labels p := ⟨_, rfl⟩
  rw [← hm] at hlp
  have hopen := show St.open_ p = if 65535 < m then [] else St.listOf m (St.news 0 p) by rw [hm]; rfl
  go_enter Tryd.func28, Tryd.ntmps28
  go_wp2_with fail
  refine (labels_any p w B n c A hB hp hnc hcm (by omega)).mono ?_
  rintro e w1 ⟨rfl, hb1⟩
  rw [← hm]
  have hp1 := hp.later (hb1.mono hB)
  have hT1 := hT.nums (Nums.of_below hb1)
  have hB1 : B ≤ w1.heap.size := Nat.le_trans hB hb1.size
  have HM := Lib.hid (And.intro hm hopen)
  clear hp hT hm hopen
  by_cases hbig : 65535 < m
  · have hd : decide ((65535 : Int) < (m : Int)) = true := by simp; omega
    have h0 : St.open_ p = [] := by rw [HM.out.2, if_pos hbig]
    have H0 := Lib.hid h0
    clear h0
    go_wp2
    go_ret
    exact ⟨_, rfl, by rw [H0.out]; exact SlV.nil _ _, hb1⟩
  · have hd : decide ((65535 : Int) < (m : Int)) = false := by simp; omega
    have H0 := Lib.hid (show St.open_ p = St.listOf m (St.news 0 p) by rw [HM.out.2, if_neg hbig])
    go_wp2_with (at_make; refine wp_make_blk _ _ _ _ (.slice none 0 0) 1 24 m Tryd.underlying103 info_words rfl (by decide) rfl rfl (by omega) (by omega) rfl rfl rfl rfl ?_; intro w2 hB2 hb2 hz2)
    have hL := lk_new hT1 hB2 hb2 hz2
    have hp2 := (hp1.later (hb2.mono hB1)).later ((below_alloc (Below.refl _ w2) (.cells #[.slice (some ⟨w1.heap.size, 0, none⟩) m m] 105)).mono (Nat.le_trans hB1 hb2.size))
    have hk2 : Below w1.heap.size w1 (w2.alloc (.cells #[.slice (some ⟨w1.heap.size, 0, none⟩) m m] 105)) := below_alloc hb2 _
    generalize w2.alloc (.cells #[.slice (some ⟨w1.heap.size, 0, none⟩) m m] 105) = w3 at hL hp2 hk2 ⊢
    have hk3 := hk2.size
    refine (mh_block_any p w3 B n c (w1.heap.size + 1) w1.heap.size m 0 A _ (.slice none 0 0) St.none_ (by omega) hp2 hnc hcm (by omega) hL hB1 (SetV.nil _) (fun x h => h.elim) (by rw [Nat.zero_add, ← HM.out.1]; exact Nat.le_refl _) (by omega)).mono ?_
    rintro e w4 ⟨u4, rfl, hu4, hR4, hk4⟩
    have hT4 := hL.tab.nums (hL.nums hk4)
    have hb4 : Below w.heap.size w w4 := hb1.trans ((hk2.mono hb1.size).trans (hk4.below (Nat.le_trans hb1.size hk3) (fun i e => by have := hb1.size; omega)))
    obtain ⟨xs, s1, s2, s3⟩ := hu4
    clear hL hp2 hk2 hk3 hR4 hk4 hp1 hT1 hB2 hb2 hz2 hb1
    go_wp2_with fail
    refine (list_any w4 u4 xs s1 hT4 (by omega)).mono ?_
    rintro e w5 ⟨u5, rfl, hu5, hb5⟩
    have hb5' := below_next hb5 hb4
    have HX := Lib.hid (show Bs.ls 0 xs = St.open_ p by
      rw [H0.out]
      refine St.ls_listOf s1.2 (fun j => (s3 j).trans (St.none_both _ j)) fun j hj => ?_
      have := (St.news_span p 0 j hj).2
      rw [HM.out.1]
      omega)
    rw [HX.out] at hu5
    clear hb5 s1 hT4 hb4
    go_wp2
    go_ret
    exact ⟨_, rfl, hu5, hb5'⟩
end Go.Proofs.YtkjmddgnfgbioaaDoor


namespace Go.Proofs.YtkjmddgnfgbioaaDoor
set_option linter.unusedVariables false
set_option linter.unusedSimpArgs false
set_option maxRecDepth 100000
open Go.RowKit Go.Shelf

attribute [local go_sem] Oper.semAt_some

/-! ### a range over a function within a plain loop: a mark for each round -/
def markOf (D : Nat) : Deferred := { target := .collected D, args := #[] }
theorem leaves_marks {F : Fence} {n : Nat} {P : Program} {fn : Func} {tmps : Array Value} {R : Ending → World → Prop} (b : Nat) (T : World → Prop)
    (hT : ∀ W D, b ≤ D → T W → W.heap[D]? = some (.deferred (some [])) → T (W.putObj D (.deferred none))) (hend : ∀ W, T W → LeavesInM F n P fn tmps R [] .returning W) :
    ∀ (Ds : List Nat) (W : World), Ds.Nodup → (∀ D ∈ Ds, b ≤ D ∧ W.heap[D]? = some (.deferred (some []))) → T W → LeavesInM F n P fn tmps R (Ds.map markOf) .returning W
  | [], W, _, _, h => hend W h
  | D :: Ds, W, hn, hD, h => by
    obtain ⟨h1, h2⟩ := hD D List.mem_cons_self
    have hn' := List.nodup_cons.1 hn
    refine ⟨by simp, .inl ⟨D, _, rfl, run_takeDeferred h2, ?_⟩⟩
    refine leaves_marks b T hT hend Ds _ hn'.2 (fun D' hD' => ?_) (hT _ _ h1 h h2)
    obtain ⟨h3, h4⟩ := hD D' (List.mem_cons_of_mem _ hD')
    exact ⟨h3, (World.putObj_heap_other (fun e => hn'.1 (by subst e; exact hD'))).trans h4⟩

def pairc (x : Nat × Nat) : List Value := [.int .i64 (x.1 : Int), .int .i64 (x.2 : Int)]
def paircs (l : List (Nat × Nat)) : List Value := l.flatMap pairc
theorem paircs_length (l : List (Nat × Nat)) : (paircs l).length = l.length * 2 := flat_length pairc 2 (fun _ => rfl) l
theorem info_pair : (Tryd.prog.info? 47).map (fun i => (i.zero, i.size, i.bytes)) = some (some (.agg #[.int .i64 0, .int .i64 0]), 2, 16) := by kernel_rfl

/-- of the blocks below p all are as they were; and so is a box -/
def KpQ (p q : Nat) (A B : World) : Prop := A.heap.size ≤ B.heap.size ∧ (∀ k, k < p → B.heap[k]? = A.heap[k]?) ∧ ∀ v, Boxed A q 91 v → Boxed B q 91 v
theorem KpQ.refl (p q : Nat) (A : World) : KpQ p q A A := ⟨Nat.le_refl _, fun _ _ => rfl, fun _ h => h⟩
theorem KpQ.trans {p q : Nat} {A B C : World} (h : KpQ p q A B) (k : KpQ p q B C) : KpQ p q A C := ⟨Nat.le_trans h.1 k.1, fun i hi => (k.2.1 i hi).trans (h.2.1 i hi), fun v hv => k.2.2 v (h.2.2 v hv)⟩
theorem KpQ.put {p q : Nat} {W : World} {l : Nat} {o o' : Obj} (hl : p ≤ l) (h : W.heap[l]? = some o) (ho : o.isCells = false) : KpQ p q W (W.putObj l o') := by
  have hg := grownBy_putObj' W l o'
  refine ⟨hg.size, fun k hk => hg.block k (by have := (Array.getElem?_eq_some_iff.1 h).1; omega) (fun e => by cases e; omega), fun v hv => hv.kept hg fun e => ?_⟩
  injection e with e
  subst e
  rw [show W.heap[q]? = _ from hv] at h
  cases h
  cases ho
/-- the pairs of the first k -/
noncomputable def St.prs (m : Nat) (R : Nat → Nat → Prop) (k : Nat) : List (Nat × Nat) := (List.range k).flatMap fun i => (St.listOf m (R i)).map fun j => (i, j)
theorem St.prs_succ (m : Nat) (R : Nat → Nat → Prop) (k : Nat) : St.prs m R (k + 1) = St.prs m R k ++ (St.listOf m (R k)).map fun j => (k, j) := by
  unfold St.prs
  rw [List.range_succ, List.flatMap_append]
  simp
theorem St.listOf_length (n : Nat) (S : Nat → Prop) : (St.listOf n S).length ≤ n := by
  unfold St.listOf
  exact Nat.le_trans (List.length_filter_le _ _) (by simp)
theorem St.prs_length {m : Nat} (hm : m ≤ 65535) (R : Nat → Nat → Prop) : ∀ k, (St.prs m R k).length ≤ k * 65536
  | 0 => by simp [St.prs]
  | k + 1 => by
    rw [St.prs_succ, List.length_append, List.length_map]
    have := St.prs_length hm R k
    have := St.listOf_length m (R k)
    omega

theorem pairs_big (p : St.P) (w : World) (B n c : Nat) (A : Option Addr) (hB : B ≤ w.heap.size) (hp : PR B w A n p) (hnc : n ≤ c) (hcm : c ≤ maxLen) (hsz : p.size ≤ 1099511627776) (hbig : 65535 < St.labels p) :
    Calls Tryd.prog 26 #[.slice A n c] w fun e w' => e = .returned (.slice none 0 0) ∧ Below w.heap.size w w' := by
  have hlp := St.labels_le p
  go_enter Tryd.func26, Tryd.ntmps26
  go_wp2_with fail
  refine (labels_any p w B n c A hB hp hnc hcm (by omega)).mono ?_
  rintro e w1 ⟨rfl, hb1⟩
  obtain ⟨m, hm⟩ : ∃ m, m = St.labels p := ⟨_, rfl⟩
  rw [← hm] at hlp hbig ⊢
  have hd : decide ((65535 : Int) < (m : Int)) = true := by simp; omega
  clear hm
  go_wp2_with (at_make; refine wp_make_blk _ _ _ _ (.slice none 0 0) 1 24 m Tryd.underlying103 info_words rfl (by decide) rfl rfl (by omega) (by omega) rfl rfl rfl rfl ?_; intro w2 hB2 hb2 hz2)
  have hb3 := below_alloc (below_next hb2 hb1) (.cells #[.slice (some ⟨w1.heap.size, 0, none⟩) m m] 105)
  clear hB2 hb2 hz2 hb1
  go_ret
  exact ⟨rfl, hb3⟩

set_option maxRecDepth 100000 in
set_option maxHeartbeats 4000000 in
theorem pairs_small (p : St.P) (w : World) (B n c : Nat) (A : Option Addr) (hB : B ≤ w.heap.size) (hp : PR B w A n p) (hnc : n ≤ c) (hcm : c ≤ maxLen) (hsz : p.size ≤ 1099511627776) (hT : Tab w) (hsm : St.labels p ≤ 65535) :
    Calls Tryd.prog 26 #[.slice A n c] w fun e w' => ∃ u, e = .returned u ∧ SlV w' 2 u (St.pairsOf (St.labels p) (St.noted 0 St.none_ p)).length (paircs (St.pairsOf (St.labels p) (St.noted 0 St.none_ p))) ∧ Below w.heap.size w w' := by
  obtain ⟨m, hm⟩ : ∃ m, m = St.labels p := ⟨_, rfl⟩
  have hnl := St.noted_lt p 0 m St.none_ (fun x h => h.elim) (by omega)
  obtain ⟨R, hR⟩ : ∃ R, R = St.noted 0 St.none_ p := ⟨_, rfl⟩
  rw [← hR] at hnl ⊢
  refine (callsIn_wide (n := 4)).1 ?_
  refine callsIn_of_wp_marks Tryd.func26 rfl trivial ?_ rfl
  simp only [Tryd.ntmps26, List.size_toArray, List.length_cons, List.length_nil, Nat.reduceAdd, Nat.reduceSub, Array.replicate_succ, Array.replicate_zero, List.push_toArray, List.append_toArray, List.nil_append, List.cons_append]
  refine wpIn_wide.2 ?_
  go_wp2_with fail
  refine (labels_any p w B n c A hB hp hnc hcm (by omega)).mono ?_
  rintro e w1 ⟨rfl, hb1⟩
  rw [← hm] at hsm ⊢
  have hp1 := hp.later (hb1.mono hB)
  have hT1 := hT.nums (Nums.of_below hb1)
  have hB1 : B ≤ w1.heap.size := Nat.le_trans hB hb1.size
  have HM := Lib.hid (And.intro hm hR)
  clear hp hT hm hR
  have hd : decide ((65535 : Int) < (m : Int)) = false := by simp; omega
  go_wp2_with (at_make; refine wp_make_blk _ _ _ _ (.slice none 0 0) 1 24 m Tryd.underlying103 info_words rfl (by decide) rfl rfl (by omega) (by omega) rfl rfl rfl rfl ?_; intro w2 hB2 hb2 hz2)
  have hL := lk_new hT1 hB2 hb2 hz2
  have hp2 := (hp1.later (hb2.mono hB1)).later ((below_alloc (Below.refl _ w2) (.cells #[.slice (some ⟨w1.heap.size, 0, none⟩) m m] 105)).mono (Nat.le_trans hB1 hb2.size))
  have hk2 : Below w1.heap.size w1 (w2.alloc (.cells #[.slice (some ⟨w1.heap.size, 0, none⟩) m m] 105)) := below_alloc hb2 _
  generalize w2.alloc (.cells #[.slice (some ⟨w1.heap.size, 0, none⟩) m m] 105) = w3 at hL hp2 hk2 ⊢
  have hk3 := hk2.size
  refine (mh_block_any p w3 B n c (w1.heap.size + 1) w1.heap.size m 0 A _ (.slice none 0 0) St.none_ (by omega) hp2 hnc hcm (by omega) hL hB1 (SetV.nil _) (fun x h => h.elim) (by rw [Nat.zero_add, ← HM.out.1]; exact Nat.le_refl _) (by omega)).mono ?_
  rintro e w4 ⟨u4, rfl, -, hR4, hk4⟩
  have hL4 := hL.step hR4 hk4
  have hR4 := hL4.rws.iff (R' := R) fun i j => by rw [HM.out.2]; simp
  have hK4 : Blk w4 (w1.heap.size + 1) 105 [.slice (some ⟨w1.heap.size, 0, none⟩) m m] := hL4.blk
  have hT4 := hL4.tab
  have hb4 : Below w.heap.size w w4 := hb1.trans ((hk2.mono hb1.size).trans (hk4.below (Nat.le_trans hb1.size hk3) (fun i e => by have := hb1.size; omega)))
  obtain ⟨kb, hkb⟩ : ∃ kb, kb = w1.heap.size + 1 := ⟨_, rfl⟩
  rw [← hkb] at hK4 ⊢
  obtain ⟨g, hg⟩ : ∃ g, g = w1.heap.size := ⟨_, rfl⟩
  rw [← hg] at hK4 hR4 ⊢
  clear hL hp2 hk2 hk3 hk4 hp1 hT1 hB2 hb2 hz2 hb1 hL4 hg hkb hB1
  obtain ⟨p0, hp0⟩ : ∃ p0, p0 = w4.heap.size := ⟨_, rfl⟩
  have hba : Below w4.heap.size w4 (w4.alloc (.cells #[.slice none 0 0] 42)) := below_alloc (Below.refl _ _) _
  have hbx := Boxed.new w4 42 (.slice none 0 0)
  have hK5 := hK4.below hba
  have c5 : (w4.alloc (.cells #[.slice none 0 0] 42)).cell? ⟨kb, 0, none⟩ = some (.slice (some ⟨g, 0, none⟩) m m) := (hK5.cell 0).trans rfl
  go_wp2_with fail
  have hz5 : (w4.alloc (.cells #[.slice none 0 0] 42)).heap.size = w4.heap.size + 1 := by simp
  generalize w4.alloc (.cells #[.slice none 0 0] 42) = W5 at hba hbx hK5 hz5 ⊢
  clear hp0 hK5 hd
  refine (wpIn_wide (n := 4)).1 ?_
  refine wpIn_loop (fun a W => ∃ (k : Nat) (Ds : List Nat) (u6 u7 u26 u27 u28 u29 u30 u31 u39 : Value), k ≤ m ∧ (∃ u, Boxed W w4.heap.size 42 u ∧ W.ownsRow (w4.heap.size + 1) 47 2 u (St.prs m R k).length (paircs (St.prs m R k)) ∧ True) ∧ Below w4.heap.size w4 W ∧ (Ds.Nodup ∧ ∀ D ∈ Ds, w4.heap.size + 1 ≤ D ∧ W.heap[D]? = some (.deferred (some []))) ∧ a = { tmps := #[.slice A n c, undef, .slice none 0 0, .int .i64 (m : Int), .pointer (some ⟨kb, 0, none⟩), .pointer (some ⟨w4.heap.size, 0, none⟩), u6, u7, undef, .slice A n c, .int .i64 (m : Int), .int .i64 (m : Int), .slice (some ⟨g, 0, none⟩) m m, .agg #[.slice (some ⟨g, 0, none⟩) m m], .pointer (some ⟨kb, 0, none⟩), .int .i64 (m : Int), .bool false, .pointer (some ⟨kb, 0, none⟩), .slice A n c, u4, .pointer (some ⟨kb, 0, none⟩), .pointer (some ⟨kb, 0, none⟩), .pointer (some ⟨kb, 0, none⟩), .slice (some ⟨g, 0, none⟩) m m, .int .i64 (m : Int), .int .i64 (k : Int), u26, u27, u28, u29, u30, u31, undef, undef, undef, undef, undef, undef, undef, u39, undef], defers := Ds.map markOf }) (fun a _ => m - (intOf (a.tmps.getD 25 undef)).toNat) ?_ ?_
  · exact ⟨0, [], undef, undef, undef, undef, undef, undef, undef, undef, undef, Nat.zero_le _, ⟨_, hbx, World.ownsRow_nil _ _ _ _, trivial⟩, hba, ⟨List.nodup_nil, fun D hD => by cases hD⟩, rfl⟩
  · rintro a W ⟨k, Ds, u6, u7, u26, u27, u28, u29, u30, u31, u39, hk, ⟨u, hbx1, hown, -⟩, hbW, hDs, rfl⟩
    clear hbx hba hz5
    dsimp only
    have hpl := St.prs_length hsm R k
    have hbl := hbx1.lt
    by_cases hlt : k < m
    · obtain ⟨vs, v1, v2, v3⟩ := hR4
      obtain ⟨vk, hvk⟩ : ∃ v, vs[k]? = some v := ⟨_, List.getElem?_eq_getElem (by omega)⟩
      obtain ⟨xs, sx, lx, mx⟩ := v3 k vk hvk
      obtain ⟨aA, ac, rfl⟩ := slU_form sx
      have ck : W.cell? ⟨g, k, none⟩ = some (.slice aA xs.length ac) := (hbW.cell (p := ⟨g, k, none⟩) v2.lt).trans ((v2.cell k).trans hvk)
      have hls : Bs.ls 0 xs = St.listOf m (R k) := St.ls_listOf sx.2 mx (fun j hj => (hnl k j hj).2)
      have hTW := hT4.nums (Nums.of_below hbW)
      obtain ⟨q, hq⟩ : ∃ q, q = W.heap.size := ⟨_, rfl⟩
      have bI := (Boxed.new W 3 (.int .i64 (k : Int))).alloc (.cells #[.slice aA xs.length ac] 91)
      have bQ := Boxed.new (W.alloc (.cells #[.int .i64 (k : Int)] 3)) 91 (.slice aA xs.length ac)
      simp only [World.size_alloc] at bQ
      have bO := (hbx1.alloc (.cells #[.int .i64 (k : Int)] 3)).alloc (.cells #[.slice aA xs.length ac] 91)
      have oO := (hown.alloc (.cells #[.int .i64 (k : Int)] 3)).alloc (.cells #[.slice aA xs.length ac] 91)
      have hbA : Below W.heap.size W ((W.alloc (.cells #[.int .i64 (k : Int)] 3)).alloc (.cells #[.slice aA xs.length ac] 91)) := below_alloc (below_alloc (Below.refl _ _) _) _
      have hzA : ((W.alloc (.cells #[.int .i64 (k : Int)] 3)).alloc (.cells #[.slice aA xs.length ac] 91)).heap.size = W.heap.size + 2 := by simp
      clear v1 v2 v3 hvk
      gi_wp2_with fail
      refine ⟨trivial, (all_gen 2 _ _ _ _).mono ?_⟩
      rintro e w' ⟨rfl, rfl⟩
      gi_wp2_with fail
      obtain ⟨W2, hW2⟩ : ∃ W2, (W.alloc (.cells #[.int .i64 (k : Int)] 3)).alloc (.cells #[.slice aA xs.length ac] 91) = W2 := ⟨_, rfl⟩
      rw [hW2] at bI bQ bO oO hbA hzA ⊢
      clear hW2
      have hsW := hbW.size
      have keyN : ∀ W' wr, Below W2.heap.size W2 W' → KpQ w4.heap.size (W.heap.size + 1) W' wr → Nums w4 wr := fun W' wr hW hk => ⟨by have := hk.1; have := hW.size; omega, fun p i x hx => by
        have hp := World.block_lt_of_cell? w4 p hx
        exact (World.cell?_of_block (hk.2.1 _ hp)).trans ((hW.cell (by omega)).trans ((hbA.cell (by omega)).trans ((hbW.cell hp).trans hx)))⟩
      have stA := all_gen_stops 2 (W.heap.size + 1) ac aA xs sx.2 (by omega) (KpQ w4.heap.size (W.heap.size + 1)) (KpQ.refl _ _) (fun h k => h.trans k) W2
        (fun W' wr hW hk => (hk.2.2 _ (bQ.kept (grown_of_below hW none) (by simp))).cell)
        (fun W' wr hW hk => ⟨_, by
          obtain ⟨⟨A', c', e, -, -, -, h4⟩, -⟩ := sx.nums (keyN W' wr hW hk)
          injection e with e1 e2 e3
          subst e1
          exact h4⟩)
        (fun W' wr hW hk => hT4.nums (keyN W' wr hW hk))
      have hll : (Bs.ls 0 xs).length ≤ 65536 := by rw [hls]; have := St.listOf_length m (R k); omega
      have hDs2 : ∀ D ∈ Ds, W2.heap[D]? = some (.deferred (some [])) := fun D hD => (hbA.block D (Array.getElem?_eq_some_iff.1 (hDs.2 D hD).2).1).trans (hDs.2 D hD).2
      have hDlt : ∀ D ∈ Ds, D < W.heap.size := fun D hD => (Array.getElem?_eq_some_iff.1 (hDs.2 D hD).2).1
      have hbW2 := hbW.trans (hbA.mono hsW)
      have HX := Lib.hid (And.intro hls hpl)
      clear keyN hls hpl sx mx ck hTW hq c5 lx bQ
      refine wpIn_rangeFunc_ownH rfl (by omega) (gf := 99) (lb := #[.pointer (some ⟨W.heap.size + 1, 0, none⟩)]) rfl trivial (enters_of Tryd.func99 (by kernel_rfl) rfl)
        stA (fun h k => h.trans k) (fun W' l o o' hl ho h1 h2 => KpQ.put (by omega) ho h1) (Below.refl _ _) (fun _ => rfl)
        (fun pre W' => ((∃ u, Boxed W' w4.heap.size 42 u ∧ W'.ownsRow (w4.heap.size + 1) 47 2 u ((St.prs m R k).length + pre.length) (paircs (St.prs m R k ++ pre.map fun x => (k, x.1))) ∧ True) ∧ Boxed W' W.heap.size 3 (.int .i64 (k : Int))) ∧ (Below w4.heap.size w4 W' ∧ ∀ D ∈ Ds, W'.heap[D]? = some (.deferred (some []))))
        (fun _ _ _ => False)
        (OwnFrom.and (OwnFrom.and (Go.Own.from (holdsRow_own (w4.heap.size + 1) w4.heap.size 42 47 2 (fun pre : List { x : Nat // x ∈ Bs.ls 0 xs } => (St.prs m R k).length + pre.length) (fun pre => paircs (St.prs m R k ++ pre.map fun x => (k, x.1))) (fun _ _ => True)) _) (Go.Own.from (boxed_own _ _ _) _)) (OwnFrom.and (ownFrom_below (Nat.le_refl _) (by omega)) (fun s X Y row hs hg hr D hD => (hg.block D (Array.getElem?_eq_some_iff.1 (hs D hD)).1 (fun e => by have := (hr D e.symm).1; have := hDlt D hD; omega)).trans (hs D hD))))
        (fun _ _ _ _ _ hs _ _ => hs)
        ⟨⟨⟨u, bO, by simpa using oO, trivial⟩, bI⟩, hbW2, hDs2⟩
        (fun x a' W' => a' = { tmps := #[.slice A n c, undef, .slice none 0 0, .int .i64 (m : Int), .pointer (some ⟨kb, 0, none⟩), .pointer (some ⟨w4.heap.size, 0, none⟩), .pointer (some ⟨W.heap.size, 0, none⟩), .slice aA xs.length ac, .int .i64 (x.1 : Int), .slice A n c, .int .i64 (m : Int), .int .i64 (m : Int), .slice (some ⟨g, 0, none⟩) m m, .agg #[.slice (some ⟨g, 0, none⟩) m m], .pointer (some ⟨kb, 0, none⟩), .int .i64 (m : Int), .bool false, .pointer (some ⟨kb, 0, none⟩), .slice A n c, u4, .pointer (some ⟨kb, 0, none⟩), .pointer (some ⟨kb, 0, none⟩), .pointer (some ⟨kb, 0, none⟩), .slice (some ⟨g, 0, none⟩) m m, .int .i64 (m : Int), .int .i64 (k : Int), .bool true, .int .i64 (k : Int), .pointer (some ⟨g, k, none⟩), .slice aA xs.length ac, .slice aA xs.length ac, .func (.func 99) #[] #[.pointer (some ⟨W.heap.size + 1, 0, none⟩)], .int .i64 (x.1 : Int), undef, undef, undef, undef, undef, undef, u39, undef], defers := [] })
        (fun x a' _ X Y row hs hg hr => hs)
        ?assign ?body ?done ?stop
      case assign =>
        rintro l pre x W' K hI hK
        gi_wp2
        exact hK _ _ (KeepsFrom.refl _ _) (KpQ.refl _ _ _) hI rfl
      case body =>
        rintro l pre x a' W' hl ⟨r, hr⟩ ⟨⟨⟨u, b1, b2, -⟩, b3⟩, b4, b5⟩ rfl hlt'
        have hlW : l < W'.heap.size := (Array.getElem?_eq_some_iff.1 hr).1
        have hzW : w4.heap.size + 1 ≤ W'.heap.size := by omega
        have c0 := b1.cell
        have f0 := b1.frozen
        have cI := b3.cell
        obtain ⟨U, uc, rfl, hu1, hu2⟩ := own_slice b2
        obtain ⟨i, hi, hz0, hz1, hz2⟩ := info_parts info_pair
        have hN : (St.prs m R k).length + pre.length ≤ 4294967296 := by have := HX.out.2; omega
        have n1 : (St.prs m R k).length + pre.length + 1 ≤ maxLen := by unfold maxLen; omega
        have n2 : ((St.prs m R k).length + pre.length + 1) * 16 ≤ 140737488355328 := by omega
        have hnew : ∀ j u, [Value.int .i64 (k : Int), Value.int .i64 (x.1 : Int)][j]? = some u → (W'.alloc (.cells #[.int .i64 (k : Int), .int .i64 (x.1 : Int)] 47)).cell? ((⟨W'.heap.size, 0, none⟩ : Addr).add j) = some u := fun j u hu => by
          rw [Addr.add_lit, Nat.zero_add]
          exact ((Blk.new W' 47 [.int .i64 (k : Int), .int .i64 (x.1 : Int)]).cell j).trans hu
        have hte : (42 : TypeId) ≠ 47 := by decide
        have hte2 : (91 : TypeId) ≠ 47 := by decide
        have hte3 : (3 : TypeId) ≠ 47 := by decide
        have hone : ∀ u ∈ [Value.int .i64 (k : Int), Value.int .i64 (x.1 : Int)], u.oneCell' = true := fun u hu => by
          simp at hu
          rcases hu with rfl | rfl <;> rfl
        obtain ⟨len, hlen⟩ : ∃ len, len = (St.prs m R k).length + pre.length := ⟨_, rfl⟩
        rw [← hlen] at b2 c0 hu1 n1 n2 hN
        have HL := Lib.hid hlen
        clear hlen
        gi_wp2_with (first | (refine wpListIn_append_own _ rfl _ _ _ rfl (w4.heap.size + 1) 47 i (.agg #[.int .i64 0, .int .i64 0]) 2 16 Tryd.underlying42 hi hz0 hz1 hz2 rfl (by decide) (.slice U len uc) _ _ rfl (b2.alloc _) _ 1 1 [.int .i64 (k : Int), .int .i64 (x.1 : Int)] rfl rfl hnew hone n1 n2 (by simp; omega) ?_; intro v' w1 hown' hgrow _; have hbx1 := (b1.alloc (.cells #[.int .i64 (k : Int), .int .i64 (x.1 : Int)] 47)).kept hgrow (b1.not_row hte b2); have c1 := hbx1.cell; have f1 := hbx1.frozen; obtain ⟨gg, cap', rfl⟩ := ownsRow_succ hown') | fail)
        have hge := own_ge b2
        have kf := ((KeepsOthers.alloc W' (.cells #[.int .i64 (k : Int), .int .i64 (x.1 : Int)] 47)).trans (KeepsOthers.of_grownBy hgrow fun j o ej hj => by
          rcases (b2.alloc (.cells #[.int .i64 (k : Int), .int .i64 (x.1 : Int)] 47)).2 with ⟨e, _⟩ | ⟨g, cap, cur, e, _, hgb, _⟩
          · rw [e] at ej
            simp [Value.ownBlock] at ej
          · rw [e] at ej
            obtain rfl : g = j := by simpa [Value.ownBlock] using ej
            rw [hgb] at hj; cases hj; rfl)).trans (KeepsOthers.setCell w1 ⟨w4.heap.size, 0, none⟩ (.slice (some ⟨gg, 0, none⟩) (len + 1) cap'))
        have hsz1 := hgrow.size
        have hsz2 := (grownBy_setCell' w1 w4.heap.size (.slice (some ⟨gg, 0, none⟩) (len + 1) cap')).size
        have hsz3 : (W'.alloc (.cells #[.int .i64 (k : Int), .int .i64 (x.1 : Int)] 47)).heap.size = W'.heap.size + 1 := by simp
        have hrow := hown'.kept (grownBy_setCell' w1 w4.heap.size (.slice (some ⟨gg, 0, none⟩) (len + 1) cap')) (.inr (hbx1.not_row hte hown').symm)
        refine ⟨kf.from _, ⟨?_, fun k' hk' => ?_, fun v hv => ?_⟩, ⟨⟨_, hbx1.set _, ?_, trivial⟩, ?_⟩, ?_, fun D hD => kf.same D _ (b5 D hD) rfl⟩
        · omega
        · have h1 := (grownBy_setCell' w1 w4.heap.size (.slice (some ⟨gg, 0, none⟩) (len + 1) cap')).block k' (by omega) (fun e => by injection e; omega)
          have h2 := hgrow.block k' (by omega) (fun e => by have := hge k' e.symm; omega)
          exact h1.trans (h2.trans (Below.heap_alloc W' _ k' (by omega)))
        · exact ((hv.alloc (.cells #[.int .i64 (k : Int), .int .i64 (x.1 : Int)] 47)).kept hgrow (hv.not_row hte2 b2)).other (by omega) _
        · have := HL.out
          rw [List.length_append, List.length_singleton, ← Nat.add_assoc, ← this]
          simpa [paircs, pairc] using hrow
        · exact ((b3.alloc (.cells #[.int .i64 (k : Int), .int .i64 (x.1 : Int)] 47)).kept hgrow (b3.not_row hte3 b2)).other (by omega) _
        · exact b4.trans ((((Below.refl w4.heap.size W').alloc (by omega) _).grown hgrow (by simp; omega) (fun k e => by have := hge k e; omega)).setCell (p := ⟨w4.heap.size, 0, none⟩) (by show w4.heap.size ≤ w4.heap.size; omega) _)
      case done =>
        rintro D ys W' hD hys ⟨⟨⟨u, b1, b2, -⟩, b3⟩, b4, b5⟩ hKD
        have hcells : paircs (St.prs m R k ++ ys.map fun x => (k, x.1)) = paircs (St.prs m R (k + 1)) ∧ (St.prs m R k).length + ys.length = (St.prs m R (k + 1)).length := by
          have e : (ys.map fun x => (k, x.1)) = (St.listOf m (R k)).map fun j => (k, j) := by
            have := congrArg (List.map fun j => (k, j)) hys
            rw [List.map_map] at this
            exact this.trans (congrArg _ HX.out.1)
          have e2 : ys.length = (St.listOf m (R k)).length := by
            have := congrArg List.length hys
            rw [List.length_map] at this
            exact this.trans (congrArg List.length HX.out.1)
          rw [St.prs_succ, e, List.length_append, List.length_map, e2]
          exact ⟨rfl, rfl⟩
        rw [hcells.1, hcells.2] at b2
        gi_wp2
        refine ⟨⟨k + 1, D :: Ds, _, _, _, _, _, _, _, _, _, by omega, ⟨u, b1, b2, trivial⟩, b4, ⟨List.nodup_cons.2 ⟨fun h => by have := hDlt D h; omega, hDs.1⟩, fun D' hD' => ?_⟩, rfl⟩, ?_⟩
        · rcases List.mem_cons.1 hD' with rfl | h
          · exact ⟨by omega, hKD⟩
          · exact ⟨(hDs.2 D' h).1, b5 D' h⟩
        · simp [intOf]
          omega
      case stop =>
        rintro D c pre W' hD _ hF hK
        exact hF.elim
    · have HK := Lib.hid (show k = m by omega)
      have c0 := hbx1.cell
      clear hpl
      gi_wp2
      go_wp2
      refine leaves_marks (w4.heap.size + 1) (fun W => W.ownsRow (w4.heap.size + 1) 47 2 u (St.prs m R k).length (paircs (St.prs m R k)) ∧ Below w.heap.size w W) (fun W D hD hT hd => ?_) (fun W hT => ?_) Ds W hDs.1 hDs.2 ⟨hown, hb4.trans (hbW.mono hb4.size)⟩
      · have hg := grownBy_putObj' W D (.deferred none)
        exact ⟨ownsRow_putObj hT.1 _ hd rfl, hT.2.grown hg hT.2.size (fun i e => by cases e; have := hb4.size; omega)⟩
      · refine ⟨u, by simp [results, Tryd.results26, go_sem], u, rfl, ?_, hT.2⟩
        have := SlV.of_own hT.1
        rw [HK.out] at this
        rw [← HM.out.1]
        exact this
theorem pairs_any (p : St.P) (w : World) (B n c : Nat) (A : Option Addr) (hB : B ≤ w.heap.size) (hp : PR B w A n p) (hnc : n ≤ c) (hcm : c ≤ maxLen) (hsz : p.size ≤ 1099511627776) (hT : Tab w) :
    Calls Tryd.prog 26 #[.slice A n c] w fun e w' => ∃ u, e = .returned u ∧ SlV w' 2 u (St.pairs p).length (paircs (St.pairs p)) ∧ Below w.heap.size w w' := by
  by_cases h : 65535 < St.labels p
  · refine (pairs_big p w B n c A hB hp hnc hcm hsz h).mono ?_
    rintro e w' ⟨rfl, hb⟩
    refine ⟨_, rfl, ?_, hb⟩
    unfold St.pairs
    rw [if_pos h]
    exact SlV.nil _ _
  · unfold St.pairs
    rw [if_neg h]
    exact pairs_small p w B n c A hB hp hnc hcm hsz hT (by omega)
end Go.Proofs.YtkjmddgnfgbioaaDoor


namespace Go.Proofs.YtkjmddgnfgbioaaDoor
set_option linter.unusedVariables false
set_option linter.unusedSimpArgs false
set_option maxRecDepth 100000
open Go.RowKit

/-- cells that read as n statements -/
inductive PC (B : Nat) (w : World) : List Value → Nat → St.P → Prop
  | nil : PC B w [] 0 .nil
  | cons (n : Nat) (k : Int) (nm : ByteArray) (ca cb : List Value) (ea eb : Ex.X) (D : Option Addr) (dl dc : Nat) (E : Option Addr) (el ec : Nat) (body els rest : St.P) (cs : List Value) : dl ≤ dc → dc ≤ maxLen → el ≤ ec → ec ≤ maxLen →
      XR B w ca ea → XR B w cb eb → PR B w D dl body → PR B w E el els → PC B w cs n rest → PC B w (stcells k nm ca cb D dl dc E el ec ++ cs) (n + 1) (.cons k nm.data.toList ea eb body els rest)

theorem stcells_length {B : Nat} {w : World} {k : Int} {nm : ByteArray} {ca cb : List Value} {ea eb : Ex.X} {D E : Option Addr} {dl dc el ec : Nat} (ha : XR B w ca ea) (hb : XR B w cb eb) : (stcells k nm ca cb D dl dc E el ec).length = 12 := by
  obtain ⟨_, _, _, _, _, _, rfl, -, -⟩ := ha.form
  obtain ⟨_, _, _, _, _, _, rfl, -, -⟩ := hb.form
  rfl
section
variable {B B' n : Nat} {w w' : World} {cs : List Value} {p : St.P}
theorem PC.length (h : PC B w cs n p) : cs.length = n * 12 := by
  induction h with
  | nil => rfl
  | cons n k nm ca cb ea eb D dl dc E el ec body els rest cs h1 h2 h3 h4 h5 h6 h7 h8 _ ih => rw [List.length_append, ih, stcells_length h5 h6]; omega
theorem PC.keep (h : PC B w cs n p) (hB : B ≤ B') (hk : ∀ p : Addr, p.block < B → w'.cell? p = w.cell? p) : PC B' w' cs n p := by
  induction h with
  | nil => exact .nil
  | cons n k nm ca cb ea eb D dl dc E el ec body els rest cs h1 h2 h3 h4 h5 h6 h7 h8 _ ih => exact .cons n k nm ca cb ea eb D dl dc E el ec body els rest cs h1 h2 h3 h4 (h5.keep hB hk) (h6.keep hB hk) (h7.keep hB hk) (h8.keep hB hk) ih
theorem PC.later (h : PC B w cs n p) (hb : Below B w w') : PC B w' cs n p := h.keep (Nat.le_refl _) fun _ hp => hb.cell hp
theorem PC.step (h : PC w.heap.size w cs n p) (hb : Below w.heap.size w w') : PC w'.heap.size w' cs n p := h.keep hb.size fun _ hp => hb.cell hp
theorem PR.step_ {A : Option Addr} (h : PR w.heap.size w A n p) (hb : Below w.heap.size w w') : PR w'.heap.size w' A n p := h.keep hb.size fun _ hp => hb.cell hp
theorem XR.step_ {ca : List Value} {e : Ex.X} (h : XR w.heap.size w ca e) (hb : Below w.heap.size w w') : XR w'.heap.size w' ca e := h.keep hb.size fun _ hp => hb.cell hp
theorem PC.append {cs' : List Value} {n' : Nat} {p' : St.P} (h : PC B w cs n p) (h' : PC B w cs' n' p') : PC B w (cs ++ cs') (n + n') (p ++ p') := by
  induction h with
  | nil => simpa [St.P.nil_append] using h'
  | cons n k nm ca cb ea eb D dl dc E el ec body els rest cs h1 h2 h3 h4 h5 h6 h7 h8 _ ih =>
    rw [St.P.cons_append, List.append_assoc, show n + 1 + n' = (n + n') + 1 by omega]
    exact .cons _ k nm ca cb ea eb D dl dc E el ec body els _ _ h1 h2 h3 h4 h5 h6 h7 h8 ih
theorem PC.one {k : Int} {nm : ByteArray} {ca cb : List Value} {ea eb : Ex.X} {D : Option Addr} {dl dc : Nat} {E : Option Addr} {el ec : Nat} {body els : St.P} (h : dl ≤ dc ∧ dc ≤ maxLen ∧ el ≤ ec ∧ ec ≤ maxLen) (h5 : XR B w ca ea) (h6 : XR B w cb eb) (h7 : PR B w D dl body) (h8 : PR B w E el els) : PC B w (stcells k nm ca cb D dl dc E el ec) 1 (.cons k nm.data.toList ea eb body els .nil) := by
  have := PC.cons 0 k nm ca cb ea eb D dl dc E el ec body els .nil [] h.1 h.2.1 h.2.2.1 h.2.2.2 h5 h6 h7 h8 .nil
  rwa [List.append_nil] at this
theorem PC.read (h : PC B w cs n p) (hB : B ≤ B') : ∀ (g o : Nat), (n ≠ 0 → g < B') → (∀ j u, cs[j]? = some u → w.cell? ⟨g, o + j, none⟩ = some u) → PR B' w (some ⟨g, o, none⟩) n p := by
  induction h with
  | nil => exact fun _ _ _ _ => .nil _
  | cons n k nm ca cb ea eb D dl dc E el ec body els rest cs h1 h2 h3 h4 h5 h6 h7 h8 _ ih =>
    intro g o hg hc
    refine .cons g o n k nm ca cb ea eb D dl dc E el ec body els rest (hg (by omega)) h1 h2 h3 h4 (fun j u hu => hc j u (by
      rw [List.getElem?_append_left (List.getElem?_eq_some_iff.1 hu).1]
      exact hu)) (h5.keep hB fun _ _ => rfl) (h6.keep hB fun _ _ => rfl) (h7.up hB) (h8.up hB) (ih g (o + 12) (fun _ => hg (by omega)) fun j u hu => ?_)
    have hl := stcells_length (k := k) (nm := nm) (D := D) (dl := dl) (dc := dc) (E := E) (el := el) (ec := ec) h5 h6
    have := hc (12 + j) u (by rw [List.getElem?_append_right (by omega), hl]; simpa using hu)
    rwa [← Nat.add_assoc] at this
theorem PC.of_cells {A : Option Addr} (h : PC B w cs n p) (hc : Cells w B' A cs) (hB : B ≤ B') : PR B' w A n p := by
  by_cases h0 : n = 0
  · subst h0
    cases h
    exact .nil _
  obtain ⟨b, o, rfl, hb, hc⟩ := hc.at_ (fun e => by have := h.length; rw [e] at this; simp at this; omega)
  exact h.read hB b o (fun _ => hb) hc
theorem PR.flat {A : Option Addr} (h : PR B w A n p) : ∃ cs, PC B w cs n p ∧ Cells w B A cs := by
  induction h with
  | nil A => exact ⟨[], .nil, Cells.nil _ _ _⟩
  | cons g o n k nm ca cb ea eb D dl dc E el ec body els rest h1 h2 h3 h4 h5 h6 h7 h8 h9 h10 _ _ _ ih =>
    obtain ⟨cs, hpc, hcc⟩ := ih
    refine ⟨_, .cons n k nm ca cb ea eb D dl dc E el ec body els rest cs h2 h3 h4 h5 h7 h8 h9 h10 hpc, g, o, fun _ => ⟨rfl, h1⟩, fun j u hu => ?_⟩
    have hl := stcells_length (k := k) (nm := nm) (D := D) (dl := dl) (dc := dc) (E := E) (el := el) (ec := ec) h7 h8
    by_cases hj : j < 12
    · rw [List.getElem?_append_left (by omega)] at hu
      exact h6 j u hu
    · rw [List.getElem?_append_right (by omega), hl] at hu
      obtain ⟨b, o', e, _, hc⟩ := hcc.at_ (fun e => by rw [e] at hu; simp at hu)
      injection e with e
      injection e with e1 e2
      subst e1 e2
      have := hc _ u hu
      rwa [show o + 12 + (j - 12) = o + j by omega] at this
end
theorem PC.one_cells {B n : Nat} {w : World} {cs : List Value} {p : St.P} (h : PC B w cs n p) : ∀ u ∈ cs, u.oneCell' = true := by
  induction h with
  | nil => intro u hu; cases hu
  | cons n k nm ca cb ea eb D dl dc E el ec body els rest cs h1 h2 h3 h4 h5 h6 h7 h8 _ ih =>
    intro u hu
    rcases List.mem_append.1 hu with hu | hu
    · obtain ⟨_, _, _, _, _, _, rfl, -, -⟩ := h5.form
      obtain ⟨_, _, _, _, _, _, rfl, -, -⟩ := h6.form
      simp [stcells, xcells] at hu
      rcases hu with rfl | rfl | rfl | rfl | rfl | rfl | rfl | rfl | rfl | rfl | rfl | rfl <;> rfl
    · exact ih u hu

/-- a slice of statements -/
def IsP (w : World) (v : Value) (p : St.P) : Prop := ∃ A n c, v = .slice A n c ∧ n ≤ c ∧ c ≤ maxLen ∧ PR w.heap.size w A n p
theorem IsP.step {w w' : World} {v : Value} {p : St.P} (h : IsP w v p) (hb : Below w.heap.size w w') : IsP w' v p := by
  obtain ⟨A, n, c, rfl, h1, h2, h3⟩ := h
  exact ⟨A, n, c, rfl, h1, h2, h3.step_ hb⟩
theorem IsP.nil (w : World) : IsP w (.slice none 0 0) .nil := ⟨none, 0, 0, rfl, Nat.le_refl _, Nat.zero_le _, .nil _⟩
theorem IsP.of_slv {w : World} {v : Value} {n : Nat} {cs : List Value} {p : St.P} (h : PC w.heap.size w cs n p) (hv : SlV w 12 v n cs) : IsP w v p := by
  obtain ⟨A, c, rfl, h1, h2, -, h3⟩ := hv
  exact ⟨A, n, c, rfl, h1, h2, h.of_cells h3 (Nat.le_refl _)⟩
theorem IsP.of_blk {w : World} {g : Nat} {t : TypeId} {n : Nat} {cs : List Value} {p : St.P} (h : PC w.heap.size w cs n p) (hb : Blk w g t cs) (hn : n ≤ 1000) : IsP w (.slice (some ⟨g, 0, none⟩) n n) p :=
  ⟨_, n, n, rfl, Nat.le_refl _, by unfold maxLen; omega, h.read (Nat.le_refl _) g 0 (fun _ => hb.lt) fun j u hu => by rw [Nat.zero_add, hb.cell]; exact hu⟩
/-- a row of the call's own abides where only other blocks are turned -/
theorem info_stmt : (Tryd.prog.info? 40).map (fun i => (i.zero, i.size, i.bytes)) = some (some (.agg #[.int .i64 0, .string ⟨#[]⟩, .int .i64 0, .int .i64 0, .string ⟨#[]⟩, .slice none 0 0, .int .i64 0, .int .i64 0, .string ⟨#[]⟩, .slice none 0 0, .slice none 0 0, .slice none 0 0]), 12, 184) := by kernel_rfl
theorem IsP.lit {w : World} {cs : List Value} {n : Nat} {p : St.P} (h : PC w.heap.size w cs n p) (hn : n ≤ 1000) : IsP (w.alloc (.cells cs.toArray 40)) (.slice (some ⟨w.heap.size, 0, none⟩) n n) p :=
  IsP.of_blk (PC.keep h (by simp) fun a ha => (below_alloc (Below.refl w.heap.size w) (.cells cs.toArray 40)).cell ha) (Blk.new w 40 cs) hn
end Go.Proofs.YtkjmddgnfgbioaaDoor


namespace Go.Proofs.YtkjmddgnfgbioaaDoor
set_option linter.unusedVariables false
set_option linter.unusedSimpArgs false
set_option maxRecDepth 100000
open Go.RowKit

section
variable {S S' : Nat → Prop} {B B' n : Nat} {w w' : World} {cs : List Value} {A : Option Addr} {p : St.P}
theorem XRN.mono {N : Bool} {e : Ex.X} (h : XRN N B w cs e) (hB : B ≤ B') (hk : ∀ (p : Addr) (v : Value), p.block < B → w.cell? p = some v → w'.cell? p = some v) : XRN N B' w' cs e := by
  induction h with
  | num n s A len cap h1 h2 h3 hN => exact .num n s A len cap h1 h2 h3 hN
  | name n s A len cap h1 h2 hN => exact .name n s A len cap h1 h2 hN
  | bad k n s A len cap h1 h2 h3 h4 h5 hN => exact .bad k n s A len cap h1 h2 h3 h4 h5 hN
  | two k n s g o len cap cs0 cs1 e0 e1 h1 h2 h3 h4 h5 h6 h7 h8 _ _ hN i0 i1 =>
    exact .two k n s g o len cap cs0 cs1 e0 e1 h1 h2 h3 h4 h5 (Nat.lt_of_lt_of_le h6 hB) (fun j u hu => hk ⟨g, o + j, none⟩ u h6 (h7 j u hu)) (fun j u hu => hk ⟨g, o + 4 + j, none⟩ u h6 (h8 j u hu)) i0 i1 hN
theorem PR.mono (h : PR B w A n p) (hB : B ≤ B') (hk : ∀ (p : Addr) (v : Value), p.block < B → w.cell? p = some v → w'.cell? p = some v) : PR B' w' A n p := by
  induction h with
  | nil A => exact .nil A
  | cons g o n k nm ca cb ea eb D dl dc E el ec body els rest h1 h2 h3 h4 h5 h6 h7 h8 _ _ _ i1 i2 i3 =>
    exact .cons g o n k nm ca cb ea eb D dl dc E el ec body els rest (Nat.lt_of_lt_of_le h1 hB) h2 h3 h4 h5 (fun j u hu => hk ⟨g, o + j, none⟩ u h1 (h6 j u hu)) (h7.mono hB hk) (h8.mono hB hk) i1 i2 i3
theorem PC.mono (h : PC B w cs n p) (hB : B ≤ B') (hk : ∀ (p : Addr) (v : Value), p.block < B → w.cell? p = some v → w'.cell? p = some v) : PC B' w' cs n p := by
  induction h with
  | nil => exact .nil
  | cons n k nm ca cb ea eb D dl dc E el ec body els rest cs h1 h2 h3 h4 h5 h6 h7 h8 _ ih => exact .cons n k nm ca cb ea eb D dl dc E el ec body els rest cs h1 h2 h3 h4 (h5.mono hB hk) (h6.mono hB hk) (h7.mono hB hk) (h8.mono hB hk) ih

/-- read, in those blocks alone -/
def XS (S : Nat → Prop) (w : World) (cs : List Value) (e : Ex.X) : Prop := XR w.heap.size (only w S) cs e
def PS (S : Nat → Prop) (w : World) (A : Option Addr) (n : Nat) (p : St.P) : Prop := PR w.heap.size (only w S) A n p
def CS (S : Nat → Prop) (w : World) (cs : List Value) (n : Nat) (p : St.P) : Prop := PC w.heap.size (only w S) cs n p

theorem XS.go {e : Ex.X} {r : Option Nat} (h : XS S w cs e) (hg : w.grownBy w' r) (hS : ∀ g, g < w.heap.size → S g → S' g ∧ some g ≠ r) : XS S' w' cs e := h.mono hg.size (only_up hg hS)
theorem PS.go {r : Option Nat} (h : PS S w A n p) (hg : w.grownBy w' r) (hS : ∀ g, g < w.heap.size → S g → S' g ∧ some g ≠ r) : PS S' w' A n p := h.mono hg.size (only_up hg hS)
theorem CS.go {r : Option Nat} (h : CS S w cs n p) (hg : w.grownBy w' r) (hS : ∀ g, g < w.heap.size → S g → S' g ∧ some g ≠ r) : CS S' w' cs n p := h.mono hg.size (only_up hg hS)
theorem XS.of {e : Ex.X} (h : XR B w cs e) (hB : B ≤ w.heap.size) (hS : ∀ g, g < B → S g) : XS S w cs e := h.mono hB fun p v hp hv => only_some.2 ⟨hS _ hp, hv⟩
theorem PS.of (h : PR B w A n p) (hB : B ≤ w.heap.size) (hS : ∀ g, g < B → S g) : PS S w A n p := PR.mono h hB fun p v hp hv => only_some.2 ⟨hS _ hp, hv⟩
theorem CS.of (h : PC B w cs n p) (hB : B ≤ w.heap.size) (hS : ∀ g, g < B → S g) : CS S w cs n p := PC.mono h hB fun p v hp hv => only_some.2 ⟨hS _ hp, hv⟩
theorem XS.xr {e : Ex.X} (h : XS S w cs e) : XR w.heap.size w cs e := h.mono (Nat.le_refl _) fun p v hp hv => (only_some.1 hv).2
theorem PS.pr (h : PS S w A n p) : PR w.heap.size w A n p := PR.mono h (Nat.le_refl _) fun p v hp hv => (only_some.1 hv).2
theorem CS.pc (h : CS S w cs n p) : PC w.heap.size w cs n p := PC.mono h (Nat.le_refl _) fun p v hp hv => (only_some.1 hv).2
theorem PS.imp (h : PS S w A n p) (hS : ∀ g, g < w.heap.size → S g → S' g) : PS S' w A n p := h.go (World.grownBy.refl w none) fun g hg hs => ⟨hS g hg hs, by simp⟩
theorem CS.imp (h : CS S w cs n p) (hS : ∀ g, g < w.heap.size → S g → S' g) : CS S' w cs n p := h.go (World.grownBy.refl w none) fun g hg hs => ⟨hS g hg hs, by simp⟩
theorem XS.imp {e : Ex.X} (h : XS S w cs e) (hS : ∀ g, g < w.heap.size → S g → S' g) : XS S' w cs e := h.go (World.grownBy.refl w none) fun g hg hs => ⟨hS g hg hs, by simp⟩
theorem CS.nil : CS S w [] 0 .nil := PC.nil
theorem CS.append {cs' : List Value} {n' : Nat} {p' : St.P} (h : CS S w cs n p) (h' : CS S w cs' n' p') : CS S w (cs ++ cs') (n + n') (p ++ p') := PC.append h h'
theorem CS.one {k : Int} {nm : ByteArray} {ca cb : List Value} {ea eb : Ex.X} {D : Option Addr} {dl dc : Nat} {E : Option Addr} {el ec : Nat} {body els : St.P} (h : dl ≤ dc ∧ dc ≤ maxLen ∧ el ≤ ec ∧ ec ≤ maxLen) (h5 : XS S w ca ea) (h6 : XS S w cb eb) (h7 : PS S w D dl body) (h8 : PS S w E el els) : CS S w (stcells k nm ca cb D dl dc E el ec) 1 (.cons k nm.data.toList ea eb body els .nil) := PC.one h h5 h6 h7 h8
/-- where the cells lie, too -/
theorem CS.read (h : CS S w cs n p) (g o : Nat) (hg : n ≠ 0 → g < w.heap.size) (hc : ∀ j u, cs[j]? = some u → w.cell? ⟨g, o + j, none⟩ = some u) : PS (fun b => S b ∨ b = g) w (some ⟨g, o, none⟩) n p :=
  PC.read (w := only w fun b => S b ∨ b = g) (CS.imp h fun _ _ => .inl) (Nat.le_refl _) g o hg fun j u hu => only_some.2 ⟨.inr rfl, hc j u hu⟩
theorem CS.one_cells (h : CS S w cs n p) : ∀ u ∈ cs, u.oneCell' = true := PC.one_cells h
theorem CS.length (h : CS S w cs n p) : cs.length = n * 12 := PC.length h

/-- a slice of statements, in those blocks alone -/
def SP (S : Nat → Prop) (w : World) (v : Value) (p : St.P) : Prop := ∃ A n c, v = .slice A n c ∧ n ≤ c ∧ c ≤ maxLen ∧ PS S w A n p
theorem SP.nil : SP S w (.slice none 0 0) .nil := ⟨none, 0, 0, rfl, Nat.le_refl _, Nat.zero_le _, PR.nil _⟩
theorem SP.go {v : Value} {r : Option Nat} (h : SP S w v p) (hg : w.grownBy w' r) (hS : ∀ g, g < w.heap.size → S g → S' g ∧ some g ≠ r) : SP S' w' v p := by
  obtain ⟨A, n, c, rfl, h1, h2, h3⟩ := h
  exact ⟨A, n, c, rfl, h1, h2, h3.go hg hS⟩
theorem SP.is {v : Value} (h : SP S w v p) : IsP w v p := by
  obtain ⟨A, n, c, rfl, h1, h2, h3⟩ := h
  exact ⟨A, n, c, rfl, h1, h2, h3.pr⟩
theorem SP.of_own {base : Nat} {v : Value} {e : TypeId} (h : CS S w cs n p) (hown : w.ownsRow base e 12 v n cs) : SP (fun g => S g ∨ some g = v.ownBlock) w v p := by
  rcases hown.2 with ⟨rfl, rfl⟩ | ⟨g, cap, cur, rfl, _, hg, hle, hm, _, _⟩
  · have : cs = [] := List.eq_nil_of_length_eq_zero (by rw [hown.1])
    subst this
    cases (show PC _ _ [] 0 p from h)
    exact SP.nil
  · refine ⟨_, n, cap, rfl, hle, hm, (CS.read h g 0 (fun _ => (Array.getElem?_eq_some_iff.1 hg).1) fun j u hu => ?_).imp fun b _ hb => hb.imp id fun e => by subst e; rfl⟩
    have := hown.cells (g := g) rfl j u hu
    rw [Nat.zero_add]
    rwa [show ((⟨g, 0, none⟩ : Addr).add j) = ⟨g, j, none⟩ from by unfold Addr.add; split <;> simp_all] at this
theorem CS.row {base : Nat} {v v' : Value} {e : TypeId} {size m : Nat} {xs : List Value} (h : CS S w cs n p) (hown : w.ownsRow base e size v m xs) (hg : w.grownBy w' v.ownBlock) (hv : v'.ownBlock = v.ownBlock ∨ ∃ g, w.heap.size ≤ g ∧ v'.ownBlock = some g) (hS : ∀ g, g < w.heap.size → S g → S' g ∧ some g ≠ v.ownBlock) : CS (fun g => S' g ∧ some g ≠ v'.ownBlock) w' cs n p :=
  h.go hg fun g hl hs => ⟨⟨(hS g hl hs).1, by
    rcases hv with e | ⟨g', hge, e⟩
    · rw [e]; exact (hS g hl hs).2
    · rw [e]; intro e'; injection e' with e'; omega⟩, (hS g hl hs).2⟩
end
end Go.Proofs.YtkjmddgnfgbioaaDoor


namespace Go.Proofs.YtkjmddgnfgbioaaDoor
set_option linter.unusedVariables false
set_option linter.unusedSimpArgs false
set_option maxRecDepth 100000
open Go.RowKit

abbrev xzeros : List Value := xcells 0 0 ⟨#[]⟩ none 0 0
abbrev stzeros : List Value := stcells 0 ⟨#[]⟩ xzeros xzeros none 0 0 none 0 0
theorem xcells_one' (k n : Int) (s : ByteArray) (A : Option Addr) (len cap : Nat) : ∀ v ∈ xcells k n s A len cap, v.oneCell' = true := by
  intro v hv
  simp [xcells] at hv
  rcases hv with rfl | rfl | rfl | rfl <;> rfl
theorem stcells_one (k : Int) (nm : ByteArray) (ak an : Int) (sa : ByteArray) (aA : Option Addr) (al ac : Nat) (bk bn : Int) (sb : ByteArray) (bA : Option Addr) (bl bc : Nat) (D : Option Addr) (dl dc : Nat) (E : Option Addr) (el ec : Nat) : ∀ v ∈ stcells k nm (xcells ak an sa aA al ac) (xcells bk bn sb bA bl bc) D dl dc E el ec, v.oneCell' = true := by
  intro v hv
  simp [stcells, xcells] at hv
  rcases hv with rfl | rfl | rfl | rfl | rfl | rfl | rfl | rfl | rfl | rfl | rfl | rfl <;> rfl
theorem xbad {B : Nat} (w : World) : XR B w xzeros .bad := .bad 0 0 ⟨#[]⟩ none 0 0 (Nat.le_refl _) (Nat.zero_le _) (by decide) (by decide) (by omega)
theorem xnum {B : Nat} (w : World) (n : Int) (h : Ex.rng n) : XR B w (xcells 1 n ⟨#[]⟩ none 0 0) (.num n) := .num n ⟨#[]⟩ none 0 0 (Nat.le_refl _) (Nat.zero_le _) h

end Go.Proofs.YtkjmddgnfgbioaaDoor


namespace Go.Proofs.YtkjmddgnfgbioaaDoor
set_option linter.unusedVariables false
set_option linter.unusedSimpArgs false
set_option maxRecDepth 100000
open Go.RowKit

theorem num_st (n : Int) (w : World) : Calls Tryd.prog 69 #[.int .i64 n] w fun e w' => e = .returned (.agg (xcells 1 n ⟨#[]⟩ none 0 0).toArray) ∧ Below w.heap.size w w' := by
  have hb := Blk.new w 38 xzeros
  have h0 : Below w.heap.size w (w.alloc (.cells xzeros.toArray 38)) := below_alloc (Below.refl _ _) _
  unfold xzeros xcells at hb h0
  unfold xcells
  go_enter Tryd.func69, Tryd.ntmps69
  go_wp2_with (refine wpl_put_blk hb [.int .i64 1, .int .i64 n, .string ⟨#[]⟩, .slice none 0 0] (by kernel_rfl) rfl (xcells_one' 1 n ⟨#[]⟩ none 0 0) rfl rfl rfl rfl ?_; intro w3 hB3 hg3)
  exact ret_blk hB3 rfl rfl Tryd.underlying38 rfl (by kernel_rfl) rfl ⟨rfl, h0.trans ((Keeps.of_grown hg3).below h0.size (fun i hi => by cases hi; exact Nat.le_refl _))⟩
theorem async_any (A : Option Addr) (n c : Nat) (w : World) : Calls Tryd.prog 66 #[.slice A n c] w fun e w' => e = .returned (.agg (stcells 4 ⟨#[]⟩ xzeros xzeros A n c none 0 0).toArray) ∧ Below w.heap.size w w' := by
  have hb := Blk.new w 40 stzeros
  have h0 : Below w.heap.size w (w.alloc (.cells stzeros.toArray 40)) := below_alloc (Below.refl _ _) _
  simp only [stzeros, xzeros, stcells, xcells, List.cons_append, List.nil_append] at hb h0
  have h1 := stcells_one 4 ⟨#[]⟩ 0 0 ⟨#[]⟩ none 0 0 0 0 ⟨#[]⟩ none 0 0 A n c none 0 0
  have H1 := Lib.hid h1
  clear h1
  simp only [xzeros, stcells, xcells, List.cons_append, List.nil_append]
  go_enter Tryd.func66, Tryd.ntmps66
  go_wp2_with (refine wpl_put_blk hb [.int .i64 4, .string ⟨#[]⟩, .int .i64 0, .int .i64 0, .string ⟨#[]⟩, .slice none 0 0, .int .i64 0, .int .i64 0, .string ⟨#[]⟩, .slice none 0 0, .slice A n c, .slice none 0 0] (by kernel_rfl) rfl H1.out rfl rfl rfl rfl ?_; intro w3 hB3 hg3)
  exact ret_blk hB3 rfl rfl Tryd.underlying40 rfl (by kernel_rfl) rfl ⟨rfl, h0.trans ((Keeps.of_grown hg3).below h0.size (fun i hi => by cases hi; exact Nat.le_refl _))⟩
theorem finish_any (A : Option Addr) (n c : Nat) (w : World) : Calls Tryd.prog 25 #[.slice A n c] w fun e w' => e = .returned (.agg (stcells 5 ⟨#[]⟩ xzeros xzeros A n c none 0 0).toArray) ∧ Below w.heap.size w w' := by
  have hb := Blk.new w 40 stzeros
  have h0 : Below w.heap.size w (w.alloc (.cells stzeros.toArray 40)) := below_alloc (Below.refl _ _) _
  simp only [stzeros, xzeros, stcells, xcells, List.cons_append, List.nil_append] at hb h0
  have h1 := stcells_one 5 ⟨#[]⟩ 0 0 ⟨#[]⟩ none 0 0 0 0 ⟨#[]⟩ none 0 0 A n c none 0 0
  have H1 := Lib.hid h1
  clear h1
  simp only [xzeros, stcells, xcells, List.cons_append, List.nil_append]
  go_enter Tryd.func25, Tryd.ntmps25
  go_wp2_with (refine wpl_put_blk hb [.int .i64 5, .string ⟨#[]⟩, .int .i64 0, .int .i64 0, .string ⟨#[]⟩, .slice none 0 0, .int .i64 0, .int .i64 0, .string ⟨#[]⟩, .slice none 0 0, .slice A n c, .slice none 0 0] (by kernel_rfl) rfl H1.out rfl rfl rfl rfl ?_; intro w3 hB3 hg3)
  exact ret_blk hB3 rfl rfl Tryd.underlying40 rfl (by kernel_rfl) rfl ⟨rfl, h0.trans ((Keeps.of_grown hg3).below h0.size (fun i hi => by cases hi; exact Nat.le_refl _))⟩
theorem store_any (c v : Int) (w : World) : Calls Tryd.prog 67 #[.int .i64 c, .int .i64 v] w fun e w' => e = .returned (.agg (stcells 3 ⟨#[]⟩ (xcells 1 c ⟨#[]⟩ none 0 0) (xcells 1 v ⟨#[]⟩ none 0 0) none 0 0 none 0 0).toArray) ∧ Below w.heap.size w w' := by
  have hb := Blk.new w 40 stzeros
  have h0 : Below w.heap.size w (w.alloc (.cells stzeros.toArray 40)) := below_alloc (Below.refl _ _) _
  have h1 := stcells_one 3 ⟨#[]⟩ 1 c ⟨#[]⟩ none 0 0 1 v ⟨#[]⟩ none 0 0 none 0 0 none 0 0
  have H1 := Lib.hid h1
  clear h1
  simp only [stzeros, xzeros, stcells, xcells, List.cons_append, List.nil_append] at hb h0
  simp only [xzeros, stcells, xcells, List.cons_append, List.nil_append]
  go_enter Tryd.func67, Tryd.ntmps67
  go_wp2_with fail
  refine (num_st c _).mono ?_
  rintro e w1 ⟨rfl, hb1⟩
  have hB1 := hb.below hb1
  have k1 := below_next hb1 h0
  clear hb h0
  unfold xcells
  go_wp2_with fail
  refine (num_st v _).mono ?_
  rintro e w2 ⟨rfl, hb2⟩
  have hB2 := hB1.below hb2
  have k2 := below_next hb2 k1
  clear hB1 k1
  unfold xcells
  go_wp2_with (refine wpl_put_blk hB2 [.int .i64 3, .string ⟨#[]⟩, .int .i64 1, .int .i64 c, .string ⟨#[]⟩, .slice none 0 0, .int .i64 1, .int .i64 v, .string ⟨#[]⟩, .slice none 0 0, .slice none 0 0, .slice none 0 0] (by kernel_rfl) rfl H1.out rfl rfl rfl rfl ?_; intro w3 hB3 hg3)
  exact ret_blk hB3 rfl rfl Tryd.underlying40 rfl (by kernel_rfl) rfl ⟨rfl, k2.trans ((Keeps.of_grown hg3).below k2.size (fun i hi => by cases hi; exact Nat.le_refl _))⟩
end Go.Proofs.YtkjmddgnfgbioaaDoor


namespace Go.Proofs.YtkjmddgnfgbioaaDoor
set_option linter.unusedVariables false
set_option linter.unusedSimpArgs false
set_option maxRecDepth 100000
open Go.RowKit

theorem paircs_get (l : List (Nat × Nat)) (i : Nat) (p : Nat × Nat) (h : l[i]? = some p) : (paircs l)[i * 2]? = some (.int .i64 (p.1 : Int)) ∧ (paircs l)[i * 2 + 1]? = some (.int .i64 (p.2 : Int)) :=
  ⟨flat_get pairc 2 (fun _ => rfl) l i 0 p h (by omega), flat_get pairc 2 (fun _ => rfl) l i 1 p h (by omega)⟩
theorem take_snoc_eq {α : Type} {xs ys : List α} {k : Nat} {x y : α} (hx : xs[k]? = some x) (hy : ys[k]? = some y) (ht : xs.take k = ys.take k) (e : x = y) : xs.take (k + 1) = ys.take (k + 1) := by
  have hsn : ∀ (z : α) (l : List α), l[k]? = some z → l.take (k + 1) = l.take k ++ [z] := fun z l h => by
    obtain ⟨h', rfl⟩ := List.getElem?_eq_some_iff.1 h
    exact List.take_succ_eq_append_getElem h'
  rw [hsn _ _ hx, hsn _ _ hy, ht, e]
theorem ne_of_get {α : Type} {xs ys : List α} {k : Nat} {x y : α} (hx : xs[k]? = some x) (hy : ys[k]? = some y) (e : x ≠ y) : xs ≠ ys := by
  rintro rfl
  rw [hx] at hy
  injection hy with hy
  exact e hy

set_option maxHeartbeats 2000000 in
theorem equal_pairs (v v' : Value) (xs ys : List (Nat × Nat)) (w : World) (h : SlV w 2 v xs.length (paircs xs)) (h' : SlV w 2 v' ys.length (paircs ys)) :
    Calls Tryd.prog 29 #[v, v'] w fun e w' => e = .returned (.bool (decide (xs = ys))) ∧ ∃ m, w' = w.drewN m := by
  obtain ⟨A, c, rfl, hle, hm, hlen, hc⟩ := h
  obtain ⟨A', c', rfl, hle', hm', hlen', hc'⟩ := h'
  clear hlen hlen'
  unfold maxLen at hm hm'
  by_cases hn : xs.length = ys.length
  · have hne : ((xs.length : Int) != ys.length) = false := by simp [hn]
    have HN := Lib.hid hn
    clear hn
    go_enter Tryd.func29, Tryd.ntmps29
    go_wp2
    go_loopw [13] (fun i wr => ∃ k : Nat, k ≤ xs.length ∧ i = .int .i64 k ∧ (∃ a, wr = w.drewN a) ∧ xs.take k = ys.take k) (fun i _ => xs.length - (intOf i).toNat)
    case atStart => exact ⟨0, Nat.zero_le _, rfl, ⟨0, rfl⟩, rfl⟩
    case round =>
      obtain ⟨k, hk, rfl, ⟨a, rfl⟩, ht⟩ := hrel
      have HT := Lib.hid ht
      clear ht
      by_cases hlt : k < xs.length
      · have hlt' : k < ys.length := by rw [← HN.out]; exact hlt
        obtain ⟨⟨x1, x2⟩, hx⟩ : ∃ x, xs[k]? = some x := ⟨_, List.getElem?_eq_getElem hlt⟩
        obtain ⟨⟨y1, y2⟩, hy⟩ : ∃ x, ys[k]? = some x := ⟨_, List.getElem?_eq_getElem hlt'⟩
        obtain ⟨gx1, gx2⟩ := paircs_get _ _ _ hx
        obtain ⟨gy1, gy2⟩ := paircs_get _ _ _ hy
        obtain ⟨b, o, rfl, hb, hcc⟩ := hc.at_ (fun e => by rw [e] at gx1; simp at gx1)
        obtain ⟨b', o', rfl, hb', hcc'⟩ := hc'.at_ (fun e => by rw [e] at gy1; simp at gy1)
        have c1 := hcc _ _ gx1
        have c2 := hcc _ _ gx2
        have d1 := hcc' _ _ gy1
        have d2 := hcc' _ _ gy2
        rw [← Nat.add_assoc] at c2 d2
        have HX := Lib.hid hx
        have HY := Lib.hid hy
        clear hc hc' hcc hcc' hx hy gx1 gx2 gy1 gy2
        by_cases e : x1 = y1 ∧ x2 = y2
        · obtain ⟨rfl, rfl⟩ := e
          go_wp2
          go_quiet (fail)
          go_wp2
          go_roundw
          case rel => exact ⟨k + 1, by omega, by go_num, ⟨_, rfl⟩, take_snoc_eq HX.out HY.out HT.out rfl⟩
          case measure => simp [intOf]; omega
        · have hnl : xs ≠ ys := ne_of_get HX.out HY.out (fun h => by injection h with h1 h2; exact e ⟨h1, h2⟩)
          have HNL := Lib.hid hnl
          obtain ⟨X1, hX1⟩ : ∃ z : Int, z = x1 := ⟨_, rfl⟩
          obtain ⟨X2, hX2⟩ : ∃ z : Int, z = x2 := ⟨_, rfl⟩
          obtain ⟨Y1, hY1⟩ : ∃ z : Int, z = y1 := ⟨_, rfl⟩
          obtain ⟨Y2, hY2⟩ : ∃ z : Int, z = y2 := ⟨_, rfl⟩
          have he : (X1 == Y1 && X2 == Y2) = false := by
            rw [Bool.eq_false_iff]
            intro h
            simp only [Bool.and_eq_true, beq_iff_eq] at h
            exact e ⟨by omega, by omega⟩
          rw [← hX1] at c1
          rw [← hX2] at c2
          rw [← hY1] at d1
          rw [← hY2] at d2
          clear e hnl hX1 hX2 hY1 hY2
          rcases h1 : X1 == Y1 with _ | _
          · clear he
            go_wp2
            go_quiet (fail)
            go_wp2
            go_ret
            exact ⟨ret_bool (by simp [HNL.out]), ⟨_, World.drewN_drewN _ _ _⟩⟩
          · have h2 : (X2 == Y2) = false := by rw [h1] at he; simpa using he
            clear he
            go_wp2
            go_quiet (fail)
            go_wp2
            go_ret
            exact ⟨ret_bool (by simp [HNL.out]), ⟨_, World.drewN_drewN _ _ _⟩⟩
      · have HK := Lib.hid (show k = xs.length by omega)
        clear hc hc'
        go_wp2
        go_ret
        refine ⟨ret_bool ?_, ⟨_, rfl⟩⟩
        symm
        simp only [decide_eq_true_eq]
        have := HT.out
        rw [HK.out, List.take_length, HN.out, List.take_length] at this
        exact this
  · have hne : ((xs.length : Int) != ys.length) = true := by simp; omega
    have hnl : xs ≠ ys := fun e => hn (by rw [e])
    have HNL := Lib.hid hnl
    clear hnl hc hc'
    go_enter Tryd.func29, Tryd.ntmps29
    go_wp2
    go_ret
    exact ⟨ret_bool (by simp [HNL.out]), ⟨0, rfl⟩⟩

set_option maxHeartbeats 2000000 in
theorem index_pair (v : Value) (xs : List (Nat × Nat)) (s1 s2 : Nat) (w : World) (h : SlV w 2 v xs.length (paircs xs)) :
    Calls Tryd.prog 83 #[v, .agg #[.int .i64 (s1 : Int), .int .i64 (s2 : Int)]] w fun e w' => (∃ z : Int, e = .returned (.int .i64 z) ∧ ((s1, s2) ∈ xs → decide (0 ≤ z) = true)) ∧ Below w.heap.size w w' := by
  obtain ⟨A, c, rfl, hle, hm, hlen, hc⟩ := h
  clear hlen
  unfold maxLen at hm
  obtain ⟨S1, hS1⟩ : ∃ z : Int, z = s1 := ⟨_, rfl⟩
  obtain ⟨S2, hS2⟩ : ∃ z : Int, z = s2 := ⟨_, rfl⟩
  rw [← hS1, ← hS2]
  have HS := Lib.hid (And.intro hS1 hS2)
  clear hS1 hS2
  obtain ⟨q, hq⟩ : ∃ q, q = w.heap.size := ⟨_, rfl⟩
  have pb := Blk.new w 47 [.int .i64 S1, .int .i64 S2]
  have hbw : Below w.heap.size w (w.alloc (.cells [Value.int .i64 S1, .int .i64 S2].toArray 47)) := below_alloc (Below.refl _ _) _
  go_enter Tryd.func83, Tryd.ntmps83
  go_wp2
  rw [← hq] at pb hbw ⊢
  generalize (w.alloc (.cells [Value.int .i64 S1, .int .i64 S2].toArray 47)) = W at pb hbw ⊢
  go_loopw [8] (fun i wr => ∃ k : Nat, k ≤ xs.length ∧ i = .int .i64 k ∧ (∃ a, wr = W.drewN a) ∧ (s1, s2) ∉ xs.take k) (fun i _ => xs.length - (intOf i).toNat)
  case atStart => exact ⟨0, Nat.zero_le _, rfl, ⟨0, rfl⟩, by simp⟩
  case round =>
    obtain ⟨k, hk, rfl, ⟨a, rfl⟩, ht⟩ := hrel
    have HT := Lib.hid ht
    clear ht
    have d1 : W.cell? ⟨q, 0, none⟩ = some (.int .i64 S1) := (pb.cell 0).trans rfl
    have d2 : W.cell? ⟨q, 1, none⟩ = some (.int .i64 S2) := (pb.cell 1).trans rfl
    by_cases hlt : k < xs.length
    · obtain ⟨⟨x1, x2⟩, hx⟩ : ∃ x, xs[k]? = some x := ⟨_, List.getElem?_eq_getElem hlt⟩
      obtain ⟨gx1, gx2⟩ := paircs_get _ _ _ hx
      obtain ⟨b, o, rfl, hb, hcc⟩ := hc.at_ (fun e => by rw [e] at gx1; simp at gx1)
      have c1 := (hbw.cell (p := ⟨b, o + k * 2, none⟩) (by rw [hq]; exact hb)).trans (hcc _ _ gx1)
      have c2 := (hbw.cell (p := ⟨b, o + (k * 2 + 1), none⟩) (by rw [hq]; exact hb)).trans (hcc _ _ gx2)
      rw [← Nat.add_assoc] at c2
      obtain ⟨X1, hX1⟩ : ∃ z : Int, z = x1 := ⟨_, rfl⟩
      obtain ⟨X2, hX2⟩ : ∃ z : Int, z = x2 := ⟨_, rfl⟩
      rw [← hX1] at c1
      rw [← hX2] at c2
      have HX := Lib.hid (And.intro hx (And.intro hX1 (And.intro hX2 hq)))
      clear hc hcc hx gx1 gx2 hX1 hX2 hq
      have nope : ¬ (S1 = X1 ∧ S2 = X2) → (s1, s2) ∉ xs.take (k + 1) := fun hn hmem => by
        obtain ⟨h', hx'⟩ := List.getElem?_eq_some_iff.1 HX.out.1
        rw [List.take_succ_eq_append_getElem h', hx'] at hmem
        rcases List.mem_append.1 hmem with hmem | hmem
        · exact HT.out hmem
        · simp only [List.mem_singleton, Prod.mk.injEq] at hmem
          obtain ⟨e1, e2⟩ := hmem
          have := HS.out
          have := HX.out.2
          exact hn ⟨by omega, by omega⟩
      have HN := Lib.hid nope
      clear nope
      rcases h1 : S1 == X1 with _ | _
      · have hn : ¬ (S1 = X1 ∧ S2 = X2) := fun h => by simp [h.1] at h1
        have HNo := Lib.hid (HN.out hn)
        clear hn
        go_wp2
        go_quiet (fail)
        go_wp2
        go_roundw
        case rel => exact ⟨k + 1, by omega, by go_num, ⟨_, rfl⟩, HNo.out⟩
        case measure => simp [intOf]; omega
      · rcases h2 : S2 == X2 with _ | _
        · have hn : ¬ (S1 = X1 ∧ S2 = X2) := fun h => by simp [h.2] at h2
          have HNo := Lib.hid (HN.out hn)
          clear hn
          go_wp2
          go_quiet (fail)
          go_wp2
          go_roundw
          case rel => exact ⟨k + 1, by omega, by go_num, ⟨_, rfl⟩, HNo.out⟩
          case measure => simp [intOf]; omega
        · go_wp2
          go_quiet (fail)
          go_wp2
          go_ret
          exact ⟨⟨_, rfl, fun _ => by simp⟩, by rw [← HX.out.2.2.2]; exact below_drewN (below_drewN hbw _) _⟩
    · have HK := Lib.hid (show k = xs.length by omega)
      clear hc
      have HQ := Lib.hid hq
      clear hq
      go_wp2
      go_ret
      exact ⟨⟨_, rfl, fun h => by
        have := HT.out
        rw [HK.out, List.take_length] at this
        exact absurd h this⟩, by rw [← HQ.out]; exact below_drewN hbw _⟩
theorem contains_pair (v : Value) (xs : List (Nat × Nat)) (s1 s2 : Nat) (w : World) (h : SlV w 2 v xs.length (paircs xs)) (hmem : (s1, s2) ∈ xs) :
    Calls Tryd.prog 40 #[v, .agg #[.int .i64 (s1 : Int), .int .i64 (s2 : Int)]] w fun e w' => e = .returned (.bool true) ∧ Below w.heap.size w w' := by
  have hb0 : Below w.heap.size w (w.alloc (.cells #[.int .i64 (s1 : Int), .int .i64 (s2 : Int)] 47)) := below_alloc (Below.refl _ _) _
  have hi := index_pair v xs s1 s2 _ (h.alloc (.cells #[.int .i64 (s1 : Int), .int .i64 (s2 : Int)] 47))
  obtain ⟨A, c, rfl, hle, hm, hlen, hc⟩ := h
  clear hlen hc hm hle
  have HM := Lib.hid hmem
  clear hmem
  go_enter Tryd.func40, Tryd.ntmps40
  go_wp2_with fail
  refine hi.mono ?_
  rintro e w1 ⟨⟨z, rfl, hz⟩, hb1⟩
  have HZ := Lib.hid (hz HM.out)
  have hb2 := below_next hb1 hb0
  clear hz hi hb0 hb1
  go_wp2
  go_ret
  exact ⟨ret_bool HZ.out, hb2⟩
end Go.Proofs.YtkjmddgnfgbioaaDoor


namespace Go.Proofs.YtkjmddgnfgbioaaDoor
set_option linter.unusedVariables false
set_option linter.unusedSimpArgs false
set_option maxRecDepth 100000
open Go.RowKit

theorem equal_u64 (v v' : Value) (xs ys : List Int) (w : World) (h : SlV w 1 v xs.length (ints .u64 xs)) (h' : SlV w 1 v' ys.length (ints .u64 ys)) :
    Calls Tryd.prog 15 #[v, v'] w fun e w' => e = .returned (.bool (decide (xs = ys))) ∧ ∃ m, w' = w.drewN m := by
  obtain ⟨A, c, rfl, hle, hm, hlen, hc⟩ := h
  obtain ⟨A', c', rfl, hle', hm', hlen', hc'⟩ := h'
  clear hlen hlen'
  unfold maxLen at hm hm'
  by_cases hn : xs.length = ys.length
  · have hne : ((xs.length : Int) != ys.length) = false := by simp [hn]
    have HN := Lib.hid hn
    clear hn
    go_enter Tryd.func15, Tryd.ntmps15
    go_wp2
    go_loopw [13] (fun i wr => ∃ k : Nat, k ≤ xs.length ∧ i = .int .i64 k ∧ (∃ a, wr = w.drewN a) ∧ xs.take k = ys.take k) (fun i _ => xs.length - (intOf i).toNat)
    case atStart => exact ⟨0, Nat.zero_le _, rfl, ⟨0, rfl⟩, rfl⟩
    case round =>
      obtain ⟨k, hk, rfl, ⟨a, rfl⟩, ht⟩ := hrel
      have HT := Lib.hid ht
      clear ht
      by_cases hlt : k < xs.length
      · have hlt' : k < ys.length := by rw [← HN.out]; exact hlt
        obtain ⟨b, o, x, rfl, hb, hx, hcc⟩ := hc.one hlt
        obtain ⟨b', o', y, rfl, hb', hy, hcc'⟩ := hc'.one hlt'
        clear hc hc'
        have hsn : ∀ (z : Int) (l : List Int), l[k]? = some z → l.take (k + 1) = l.take k ++ [z] := fun z l h => by
          obtain ⟨h', rfl⟩ := List.getElem?_eq_some_iff.1 h
          exact List.take_succ_eq_append_getElem h'
        have HSN := Lib.hid hsn
        clear hsn
        rcases hg : x != y with _ | _
        · go_wp2
          go_quiet (fail)
          go_wp2
          go_roundw
          case rel => exact ⟨k + 1, by omega, by go_num, ⟨_, rfl⟩, by rw [HSN.out _ _ hx.out, HSN.out _ _ hy.out, HT.out, show x = y by simpa using hg]⟩
          case measure => simp [intOf]; omega
        · go_wp2
          go_quiet (fail)
          go_wp2
          go_ret
          refine ⟨ret_bool ?_, ⟨_, World.drewN_drewN _ _ _⟩⟩
          symm
          simp only [decide_eq_false_iff_not]
          rintro rfl
          rw [hx.out] at hy
          simp at hg
          exact hg (by simpa using hy.out)
      · have HK := Lib.hid (show k = xs.length by omega)
        clear hc hc'
        go_wp2
        go_ret
        refine ⟨ret_bool ?_, ⟨_, rfl⟩⟩
        symm
        simp only [decide_eq_true_eq]
        have := HT.out
        rw [HK.out, List.take_length, HN.out, List.take_length] at this
        exact this
  · have hne : ((xs.length : Int) != ys.length) = true := by simp; omega
    have hnl : xs ≠ ys := fun e => hn (by rw [e])
    have HNL := Lib.hid hnl
    clear hnl hc hc'
    go_enter Tryd.func15, Tryd.ntmps15
    go_wp2
    go_ret
    exact ⟨ret_bool (by simp [HNL.out]), ⟨0, rfl⟩⟩
end Go.Proofs.YtkjmddgnfgbioaaDoor


namespace Go.Proofs.YtkjmddgnfgbioaaDoor
set_option linter.unusedVariables false
set_option linter.unusedSimpArgs false
set_option maxRecDepth 100000
open Go.RowKit

theorem Bs.ex_s : Bs.of_ [3, 70, 3, -1] = [8, 64] := by decide +kernel
theorem Bs.ex_t : Bs.of_ [3] = [8] := by decide +kernel
theorem Bs.ex_ls : Bs.ls 0 [8, 64] = [3, 70] := by
  have h1 : Bs.bl 8 = [3] := by
    rw [Bs.bl_pos (by decide), show 8 &&& (8 - 1) = 0 by decide, Bs.bl_zero, show Lib.ctz 64 8 = 3 by decide +kernel]
  have h2 : Bs.bl 64 = [6] := by
    rw [Bs.bl_pos (by decide), show 64 &&& (64 - 1) = 0 by decide, Bs.bl_zero, show Lib.ctz 64 64 = 6 by decide +kernel]
  rw [Bs.ls, Bs.ls, Bs.ls, h1, h2]
  rfl
theorem Bs.ex_more : Bs.size [8, 64] = 2 ∧ Bs.op Bs.fless [8] [8, 64] = [] ∧ Bs.op Bs.fless [8, 64] [8] = [0, 64] ∧ Bs.op Bs.fand [8, 64] [8] = [8] ∧ Bs.op Bs.for_ [8, 64] [8] = [8, 64] := by decide +kernel

theorem SlU.drewN {w : World} {v : Value} {xs : List Nat} (h : SlU w v xs) (k : Nat) : SlU (w.drewN k) v xs := ⟨h.1.drewN k, h.2⟩
theorem equal_i64_call (v v' : Value) (xs ys : List Int) (b : Bool) (hb : (decide (xs = ys)) = b) (w : World) (h : SlV w 1 v xs.length (ints .i64 xs)) (h' : SlV w 1 v' ys.length (ints .i64 ys)) :
    Calls Tryd.prog 56 #[v, v'] w fun e w' => e = .returned (.bool b) ∧ Below w.heap.size w w' := by
  subst hb
  exact (equal_i64 v v' xs ys w h h').mono fun e w' ⟨h1, m, h2⟩ => ⟨h1, by rw [h2]; exact below_drewN (Below.refl _ _) m⟩
theorem equal_u64_call (v v' : Value) (xs ys : List Nat) (b : Bool) (hb : (decide (xs = ys)) = b) (w : World) (h : SlU w v xs) (h' : SlU w v' ys) :
    Calls Tryd.prog 15 #[v, v'] w fun e w' => e = .returned (.bool b) ∧ Below w.heap.size w w' := by
  have e := equal_u64 v v' (xs.map fun (x : Nat) => (x : Int)) (ys.map fun (x : Nat) => (x : Int)) w (by rw [List.length_map, ← nats_ints]; exact h.1) (by rw [List.length_map, ← nats_ints]; exact h'.1)
  refine e.mono fun e w' ⟨h1, m, h2⟩ => ⟨?_, by rw [h2]; exact below_drewN (Below.refl _ _) m⟩
  rw [h1, ← hb]
  have : (xs.map fun (x : Nat) => (x : Int)) = (ys.map fun (x : Nat) => (x : Int)) ↔ xs = ys := List.map_inj_right (fun a b h => by omega)
  simp only [this]
theorem Tab.step {w w' : World} (h : Tab w) (hb : Below w.heap.size w w') : Tab w' := h.later h.lt hb
end Go.Proofs.YtkjmddgnfgbioaaDoor
