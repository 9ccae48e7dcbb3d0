/-
  Package bitset, walked: All.
-/
import Derived.Test.YtcpoglchjkpbpaaDoorBs5
import Derived.Test.YtcpoglchjkpbpaaDoorBsLs
import Derived.RangeFuncNested
import Derived.RangeFuncBound
import Derived.RangeFuncCalls
import Derived.RangeFuncLeaves
import Derived.Shelf.Abstract
import Derived.Shelf.RegionOpen
import Derived.WalkKit
import Derived.OwnWalkIn
import Derived.TacticsInMore
import Derived.LoopNIn
import Derived.LoopIn
namespace Go.Proofs.YtcpoglchjkpbpaaDoor
set_option linter.unusedVariables false
set_option linter.unusedSimpArgs false
set_option maxRecDepth 100000
open Go.RowKit Go.Shelf

attribute [local go_sem] Oper.semAt_some

/-- of the blocks below n₀ all but one are as they were -/
def KpP (n₀ p : Nat) (A B : World) : Prop := A.heap.size ≤ B.heap.size ∧ ∀ k, k < n₀ → k ≠ p → B.heap[k]? = A.heap[k]?
theorem KpP.refl (n₀ p : Nat) (A : World) : KpP n₀ p A A := ⟨Nat.le_refl _, fun _ _ _ => rfl⟩
theorem KpP.trans {n₀ p : Nat} {A B C : World} (h : KpP n₀ p A B) (k : KpP n₀ p B C) : KpP n₀ p A C := ⟨Nat.le_trans h.1 k.1, fun i hi hp => (k.2 i hi hp).trans (h.2 i hi hp)⟩
theorem KpP.cell {n₀ p : Nat} {A B : World} (h : KpP n₀ p A B) {a : Addr} (hl : a.block < n₀) (hp : a.block ≠ p) : B.cell? a = A.cell? a := World.cell?_of_block (h.2 _ hl hp)

theorem and_pred (w : Nat) (hw : w < 18446744073709551616) (h : w ≠ 0) : bits .and .u64 (w : Int) (IntKind.u64.wrap ((w : Int) - 1)) = ((w &&& (w - 1) : Nat) : Int) := by
  rw [show IntKind.u64.wrap ((w : Int) - 1) = ((w - 1 : Nat) : Int) by rw [IntKind.wrap_u64]; omega]
  exact bits_and_u64_nat w (w - 1) hw (by omega)

theorem all1_in (l qb n₀ p cap : Nat) (A : Option Addr) (xs : List Nat) (hws : Bs.Ws xs) (hreach : xs.length ≤ 17592186044416) (J Jx : List Nat → World → Prop)
    (hY : ∀ pre x W, J pre W → pre.length < (Bs.ls 0 xs).length → YieldAt Fence.wide 1 Tryd.prog l #[.int .i64 ((x : Nat) : Int)] W fun e W' =>
      (e = .returned (.bool true) ∧ J (pre ++ [x]) W' ∧ KpP n₀ p W W') ∨ (e = .returned (.bool false) ∧ Jx (pre ++ [x]) W'))
    (W : World) (hq : qb < n₀) (hqp : qb ≠ p) (hqb : W.cell? ⟨qb, 0, none⟩ = some (.slice A xs.length cap)) (hc : Cells W p A (nats xs)) (hpn : p ≤ n₀) (hT : Tab W) (htp : 0 < p) (h0 : J [] W) :
    CallsIn Fence.wide 2 Tryd.prog 65 #[.func (.yield l) #[] #[], .pointer (some ⟨qb, 0, none⟩)] W fun e W' => (∃ v, e = .returned v) ∧
      ((J (Bs.ls 0 xs) W') ∨ (∃ pre, (∃ t, Bs.ls 0 xs = pre ++ t) ∧ Jx pre W')) := by
  refine callsIn_of_wp Tryd.func65 rfl trivial ?_ rfl
  simp only [Tryd.ntmps65, List.size_toArray, List.length_cons, List.length_nil, Nat.reduceAdd, Nat.reduceSub, Array.replicate_succ, Array.replicate_zero, List.push_toArray, List.append_toArray, List.nil_append, List.cons_append]
  have hcb : ∀ wr, KpP n₀ p W wr → wr.cell? ⟨qb, 0, none⟩ = some (.slice A xs.length cap) := fun wr h => (h.cell (a := ⟨qb, 0, none⟩) hq hqp).trans hqb
  have hcc : ∀ wr, KpP n₀ p W wr → Cells wr p A (nats xs) := fun wr h => hc.keep (Nat.le_refl _) (fun a ha => h.cell (Nat.lt_of_lt_of_le ha hpn) (by omega))
  have hTT : ∀ wr, KpP n₀ p W wr → Tab wr := fun wr h j hj => (h.cell (a := ⟨0, j, none⟩) (Nat.lt_of_lt_of_le htp hpn) (by show 0 ≠ p; omega)).trans (hT j hj)
  clear hT hc
  gi_wp2
  gi_loopw [7] (fun i wr => ∃ k : Nat, k ≤ xs.length ∧ i = .int .i64 (k : Int) ∧ J (Bs.ls 0 (xs.take k)) wr ∧ KpP n₀ p W wr) (fun i _ => xs.length - (intOf i).toNat)
  case atStart => exact ⟨0, Nat.zero_le _, rfl, h0, KpP.refl _ _ _⟩
  case round =>
    clear hqb h0
    obtain ⟨k, hk, rfl, hJ, hK⟩ := hrel
    by_cases hlt : k < xs.length
    · obtain ⟨x, hx⟩ : ∃ x, xs[k]? = some x := ⟨_, List.getElem?_eq_getElem hlt⟩
      obtain ⟨b, o, rfl, hb, hcx⟩ := (hcc wr hK).nat hx
      have HX := Lib.hid hx
      clear hx
      gi_wp2
      have hxw : x < 18446744073709551616 := hws x (List.mem_of_getElem? HX.out)
      have hsn : Bs.ls 0 (xs.take (k + 1)) = Bs.ls 0 (xs.take k) ++ (Bs.bl x).map (64 * k + ·) := by
        obtain ⟨h', hx'⟩ := List.getElem?_eq_some_iff.1 HX.out
        rw [List.take_succ_eq_append_getElem h', hx', Bs.ls_snoc, List.length_take, Nat.min_eq_left (by omega)]
      have hcount : ∀ m ≤ ((Bs.bl x).map (64 * k + ·)).length, m < ((Bs.bl x).map (64 * k + ·)).length → (Bs.ls 0 (xs.take k)).length + m < (Bs.ls 0 xs).length := fun m _ hm => by
        have e : xs = xs.take (k + 1) ++ xs.drop (k + 1) := (List.take_append_drop _ _).symm
        have : (Bs.ls 0 xs).length = (Bs.ls 0 (xs.take (k + 1))).length + (Bs.ls (0 + (xs.take (k + 1)).length) (xs.drop (k + 1))).length := by
          conv => lhs; rw [e, Bs.ls_append]
          rw [List.length_append]
        rw [this, hsn, List.length_append]
        omega
      have hpre : ∀ (dn : List Nat) (y : Nat) (t : List Nat), dn ++ y :: t = (Bs.bl x).map (64 * k + ·) → ∃ t', Bs.ls 0 xs = (Bs.ls 0 (xs.take k) ++ dn ++ [y]) ++ t' := fun dn y t e => by
        have e1 : xs = xs.take (k + 1) ++ xs.drop (k + 1) := (List.take_append_drop _ _).symm
        refine ⟨t ++ Bs.ls (0 + (xs.take (k + 1)).length) (xs.drop (k + 1)), ?_⟩
        conv => lhs; rw [e1, Bs.ls_append, hsn, ← e]
        simp
      have HSN := Lib.hid (And.intro hsn hcount)
      have HPR := Lib.hid hpre
      clear hsn hcount hcb hcc hpre
      obtain ⟨wo, rfl⟩ : ∃ wo : World, wo = wr := ⟨_, rfl⟩
      gi_loopw [4] (fun i wr => ∃ (v : Nat) (dn : List Nat), i = .int .u64 (v : Int) ∧ v < 18446744073709551616 ∧ dn ++ (Bs.bl v).map (64 * k + ·) = (Bs.bl x).map (64 * k + ·) ∧ J (Bs.ls 0 (xs.take k) ++ dn) wr ∧ KpP n₀ p W wr) (fun i _ => (intOf i).toNat)
      case atStart => exact ⟨x, [], rfl, hxw, rfl, by rw [List.append_nil]; exact hJ, hK⟩
      case round =>
        clear hJ hK hxw
        obtain ⟨v, dn, rfl, hv, hd, hJ, hK⟩ := hrel
        have HD := Lib.hid hd
        clear hd
        rcases hz : ((v : Int) != 0) with _ | _
        · have HV := Lib.hid (show v = 0 by simpa using hz)
          gi_wp2
          go_roundw
          case rel => exact ⟨k + 1, by omega, by go_num, by
            have h := HD.out
            rw [HV.out, Bs.bl_zero, List.map_nil, List.append_nil] at h
            rw [HSN.out.1, ← h]
            exact hJ, hK⟩
          case measure => simp [intOf]; omega
        · have hv0 : v ≠ 0 := by simpa using hz
          have HV := Lib.hid hv0
          clear hv0
          gi_wp2_with fail
          refine ⟨trivial, (callsIn_wide.2 (tz_any _ v hv HV.out (hTT _ hK))).mono ?_⟩
          rintro e w1 ⟨rfl, rfl⟩
          obtain ⟨-, -, hc64, -⟩ := Bs.low HV.out hv
          have hbl := Bs.bl_pos HV.out
          have hclr := and_pred v hv HV.out
          have hcl := Bs.clear_low HV.out
          have hd := HD.out
          rw [hbl, List.map_cons] at hd
          have hlen : dn.length < ((Bs.bl x).map (64 * k + ·)).length := by rw [← hd, List.length_append, List.length_cons]; omega
          obtain ⟨fn, tmps, assign, body, hy, hR⟩ := hY _ (64 * k + Lib.ctz 64 v) w1 hJ (by rw [List.length_append]; exact HSN.out.2 _ (Nat.le_of_lt hlen) hlen)
          obtain ⟨c, hc⟩ : ∃ c, c = Lib.ctz 64 v := ⟨_, rfl⟩
          rw [← hc] at hc64 hd hy hR ⊢
          rw [show ((64 * k + c : Nat) : Int) = 64 * (k : Int) + (c : Int) by omega] at hy
          have HC := Lib.hid (And.intro hclr (And.intro hcl hd))
          clear hbl hclr hcl hd hlen hc HD
          gi_wp2
          refine hR.mono ?_
          rintro e W3 (⟨rfl, hJ3, hk3⟩ | ⟨rfl, hJx3⟩)
          · gi_wp2
            go_roundw
            case rel => exact ⟨v &&& (v - 1), dn ++ [64 * k + c], by rw [HC.out.1], Bs.clear_lt hv, by rw [List.append_assoc]; exact HC.out.2.2, by rw [← List.append_assoc]; exact hJ3, hK.trans hk3⟩
            case measure => simp only [intOf, HC.out.1]; have := HC.out.2.1; simp; omega
          · gi_wp2
            refine bodyPost_ret (results_none rfl _ _ _) rfl ?_
            exact ⟨⟨_, rfl⟩, .inr ⟨_, HPR.out _ _ _ HC.out.2.2, hJx3⟩⟩
    · have HK := Lib.hid (show k = xs.length by omega)
      gi_wp2
      go_end0
      exact ⟨⟨_, rfl⟩, .inl (by have := hJ; rw [HK.out, List.take_length] at this; exact this)⟩
end Go.Proofs.YtcpoglchjkpbpaaDoor
