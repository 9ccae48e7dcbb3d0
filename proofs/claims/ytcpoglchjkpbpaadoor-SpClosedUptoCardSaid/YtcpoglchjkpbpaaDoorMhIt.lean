/-
  Package bitset, walked: All, whatever the loop's body keeps.
-/
import Derived.Test.YtcpoglchjkpbpaaDoorBs7
namespace Go.Proofs.YtcpoglchjkpbpaaDoor
set_option linter.unusedVariables false
set_option linter.unusedSimpArgs false
set_option maxRecDepth 100000
open Go.RowKit Go.Shelf

attribute [local go_sem] Oper.semAt_some

theorem all1_gen (m l qb cap : Nat) (A : Option Addr) (xs : List Nat) (hws : Bs.Ws xs) (hreach : xs.length ≤ 17592186044416) (J Jx : List Nat → World → Prop) (Kp : World → World → Prop) (hKr : ∀ w, Kp w w) (hKt : ∀ {a b c : World}, Kp a b → Kp b c → Kp a c)
    (hY : ∀ pre x W, x ∈ Bs.ls 0 xs → J pre W → pre.length < (Bs.ls 0 xs).length → YieldAt Fence.wide m Tryd.prog l #[.int .i64 ((x : Nat) : Int)] W fun e W' =>
      (e = .returned (.bool true) ∧ J (pre ++ [x]) W' ∧ Kp W W') ∨ (e = .returned (.bool false) ∧ Jx (pre ++ [x]) W'))
    (W : World) (hcb : ∀ wr, Kp W wr → wr.cell? ⟨qb, 0, none⟩ = some (.slice A xs.length cap)) (hcc : ∀ wr, Kp W wr → ∃ B, Cells wr B A (nats xs)) (hTT : ∀ wr, Kp W wr → Tab wr) (h0 : J [] W) :
    CallsIn Fence.wide (m + 1) Tryd.prog 65 #[.func (.yield l) #[] #[], .pointer (some ⟨qb, 0, none⟩)] W fun e W' => (∃ v, e = .returned v) ∧
      ((J (Bs.ls 0 xs) W') ∨ (∃ pre, Jx pre W')) := by
  refine callsIn_of_wp Tryd.func65 rfl trivial ?_ rfl
  simp only [Tryd.ntmps65, List.size_toArray, List.length_cons, List.length_nil, Nat.reduceAdd, Nat.reduceSub, Array.replicate_succ, Array.replicate_zero, List.push_toArray, List.append_toArray, List.nil_append, List.cons_append]
  have hqb := hcb W (hKr W)
  gi_wp2
  gi_loopw [7] (fun i wr => ∃ k : Nat, k ≤ xs.length ∧ i = .int .i64 (k : Int) ∧ J (Bs.ls 0 (xs.take k)) wr ∧ Kp W wr) (fun i _ => xs.length - (intOf i).toNat)
  case atStart => exact ⟨0, Nat.zero_le _, rfl, h0, hKr _⟩
  case round =>
    clear hqb h0
    obtain ⟨k, hk, rfl, hJ, hK⟩ := hrel
    by_cases hlt : k < xs.length
    · obtain ⟨x, hx⟩ : ∃ x, xs[k]? = some x := ⟨_, List.getElem?_eq_getElem hlt⟩
      obtain ⟨B0, hc0⟩ := hcc wr hK
      obtain ⟨b, o, rfl, hb, hcx⟩ := hc0.nat hx
      clear hb hc0
      have HX := Lib.hid hx
      clear hx
      gi_wp2
      have hxw : x < 18446744073709551616 := hws x (List.mem_of_getElem? HX.out)
      have hsn : Bs.ls 0 (xs.take (k + 1)) = Bs.ls 0 (xs.take k) ++ (Bs.bl x).map (64 * k + ·) := by
        obtain ⟨h', hx'⟩ := List.getElem?_eq_some_iff.1 HX.out
        rw [List.take_succ_eq_append_getElem h', hx', Bs.ls_snoc, List.length_take, Nat.min_eq_left (by omega)]
      have hcount : ∀ m ≤ ((Bs.bl x).map (64 * k + ·)).length, m < ((Bs.bl x).map (64 * k + ·)).length → (Bs.ls 0 (xs.take k)).length + m < (Bs.ls 0 xs).length := fun m _ hm => by
        have e : xs = xs.take (k + 1) ++ xs.drop (k + 1) := (List.take_append_drop _ _).symm
        have : (Bs.ls 0 xs).length = (Bs.ls 0 (xs.take (k + 1))).length + (Bs.ls (0 + (xs.take (k + 1)).length) (xs.drop (k + 1))).length := by
          conv => lhs; rw [e, Bs.ls_append]
          rw [List.length_append]
        rw [this, hsn, List.length_append]
        omega
      have hmem : ∀ z ∈ (Bs.bl x).map (64 * k + ·), z ∈ Bs.ls 0 xs := fun z hz => by
        have e : xs = xs.take (k + 1) ++ xs.drop (k + 1) := (List.take_append_drop _ _).symm
        rw [e, Bs.ls_append]
        exact List.mem_append_left _ (by rw [hsn]; exact List.mem_append_right _ hz)
      have HSN := Lib.hid (And.intro hsn (And.intro hcount hmem))
      clear hsn hcount hmem hcb hcc
      obtain ⟨wo, rfl⟩ : ∃ wo : World, wo = wr := ⟨_, rfl⟩
      gi_loopw [4] (fun i wr => ∃ (v : Nat) (dn : List Nat), i = .int .u64 (v : Int) ∧ v < 18446744073709551616 ∧ dn ++ (Bs.bl v).map (64 * k + ·) = (Bs.bl x).map (64 * k + ·) ∧ J (Bs.ls 0 (xs.take k) ++ dn) wr ∧ Kp W wr) (fun i _ => (intOf i).toNat)
      case atStart => exact ⟨x, [], rfl, hxw, rfl, by rw [List.append_nil]; exact hJ, hK⟩
      case round =>
        clear hJ hK hxw
        obtain ⟨v, dn, rfl, hv, hd, hJ, hK⟩ := hrel
        have HD := Lib.hid hd
        clear hd
        rcases hz : ((v : Int) != 0) with _ | _
        · have HV := Lib.hid (show v = 0 by simpa using hz)
          gi_wp2
          go_roundw
          case rel => exact ⟨k + 1, by omega, by go_num, by
            have h := HD.out
            rw [HV.out, Bs.bl_zero, List.map_nil, List.append_nil] at h
            rw [HSN.out.1, ← h]
            exact hJ, hK⟩
          case measure => simp [intOf]; omega
        · have hv0 : v ≠ 0 := by simpa using hz
          have HV := Lib.hid hv0
          clear hv0
          gi_wp2_with fail
          refine ⟨trivial, (callsIn_wide.2 (tz_any _ v hv HV.out (hTT _ hK))).mono ?_⟩
          rintro e w1 ⟨rfl, rfl⟩
          obtain ⟨-, -, hc64, -⟩ := Bs.low HV.out hv
          have hbl := Bs.bl_pos HV.out
          have hclr := and_pred v hv HV.out
          have hcl := Bs.clear_low HV.out
          have hd := HD.out
          rw [hbl, List.map_cons] at hd
          have hlen : dn.length < ((Bs.bl x).map (64 * k + ·)).length := by rw [← hd, List.length_append, List.length_cons]; omega
          obtain ⟨fn, tmps, assign, body, hy, hR⟩ := hY _ (64 * k + Lib.ctz 64 v) w1 (HSN.out.2.2 _ (by rw [← hd]; simp)) hJ (by rw [List.length_append]; exact HSN.out.2.1 _ (Nat.le_of_lt hlen) hlen)
          obtain ⟨c, hc⟩ : ∃ c, c = Lib.ctz 64 v := ⟨_, rfl⟩
          rw [← hc] at hc64 hd hy hR ⊢
          rw [show ((64 * k + c : Nat) : Int) = 64 * (k : Int) + (c : Int) by omega] at hy
          have HC := Lib.hid (And.intro hclr (And.intro hcl hd))
          clear hbl hclr hcl hd hlen hc HD
          gi_wp2
          refine hR.mono ?_
          rintro e W3 (⟨rfl, hJ3, hk3⟩ | ⟨rfl, hJx3⟩)
          · gi_wp2
            go_roundw
            case rel => exact ⟨v &&& (v - 1), dn ++ [64 * k + c], by rw [HC.out.1], Bs.clear_lt hv, by rw [List.append_assoc]; exact HC.out.2.2, by rw [← List.append_assoc]; exact hJ3, hKt hK hk3⟩
            case measure => simp only [intOf, HC.out.1]; have := HC.out.2.1; simp; omega
          · gi_wp2
            refine bodyPost_ret (results_none rfl _ _ _) rfl ?_
            exact ⟨⟨_, rfl⟩, .inr ⟨_, hJx3⟩⟩
    · have HK := Lib.hid (show k = xs.length by omega)
      gi_wp2
      go_end0
      exact ⟨⟨_, rfl⟩, .inl (by have := hJ; rw [HK.out, List.take_length] at this; exact this)⟩

/-- the loop's body is told that what comes is in the set -/
theorem all_gen_stops (m qb cap : Nat) (A : Option Addr) (xs : List Nat) (hws : Bs.Ws xs) (hreach : xs.length ≤ 17592186044416) (Kp : World → World → Prop) (hKr : ∀ w, Kp w w) (hKt : ∀ {a b c : World}, Kp a b → Kp b c → Kp a c) (w : World)
    (hcb : ∀ W wr, Below w.heap.size w W → Kp W wr → wr.cell? ⟨qb, 0, none⟩ = some (.slice A xs.length cap)) (hcc : ∀ W wr, Below w.heap.size w W → Kp W wr → ∃ B, Cells wr B A (nats xs)) (hTT : ∀ W wr, Below w.heap.size w W → Kp W wr → Tab wr) :
    SeqStopsK Fence.wide (m + 1) Tryd.prog 65 #[.pointer (some ⟨qb, 0, none⟩)] (fun x : { x : Nat // x ∈ Bs.ls 0 xs } => #[Value.int .i64 ((x.1 : Nat) : Int)]) Kp (fun ys => ys.map (·.1) = Bs.ls 0 xs) (fun _ => True) (Bs.ls 0 xs).length w := fun l J Jx W hW _ _ hY h0 => by
  refine (all1_gen m l qb cap A xs hws hreach (fun l W => ∃ la : List { x : Nat // x ∈ Bs.ls 0 xs }, la.map (·.1) = l ∧ J la W) (fun l W => ∃ la : List { x : Nat // x ∈ Bs.ls 0 xs }, la.map (·.1) = l ∧ Jx la W) Kp hKr hKt (fun pre x W1 hx hJ hlt => ?_) W (fun wr hk => hcb W wr hW hk) (fun wr hk => hcc W wr hW hk) (fun wr hk => hTT W wr hW hk) ⟨[], rfl, h0⟩).mono ?_
  · obtain ⟨la, rfl, hJ⟩ := hJ
    have := hY la ⟨x, hx⟩ W1 hJ (by simpa using hlt)
    obtain ⟨fn, tmps, assign, body, hy, hR⟩ := this
    refine ⟨fn, tmps, assign, body, hy, hR.mono ?_⟩
    rintro e W' (⟨h1, h2, h3⟩ | ⟨h1, h2⟩)
    · exact .inl ⟨h1, ⟨_, by simp, h2⟩, h3⟩
    · exact .inr ⟨h1, _, by simp, h2⟩
  · rintro e W' ⟨he, ⟨la, h1, h2⟩ | ⟨pre, la, h1, h2⟩⟩
    · exact ⟨he, .inl ⟨_, h1, h2⟩⟩
    · exact ⟨he, .inr ⟨_, trivial, h2⟩⟩

theorem all_gen (m : Nat) (a : Option Addr) (len cap : Nat) (w : World) :
    CallsIn Fence.wide (m + 1) Tryd.prog 47 #[.slice a len cap] w fun e w' => e = .returned (.func (.func 65) #[] #[.pointer (some ⟨w.heap.size, 0, none⟩)]) ∧ w' = w.alloc (.cells #[.slice a len cap] 81) := by
  refine callsIn_of_wp Tryd.func47 rfl trivial ?_ rfl
  simp only [Tryd.ntmps47, List.size_toArray, List.length_cons, List.length_nil, Nat.reduceAdd, Nat.reduceSub, Array.replicate_succ, Array.replicate_zero, List.push_toArray, List.append_toArray, List.nil_append, List.cons_append]
  gi_wp2
  go_ret
  exact ⟨rfl, rfl⟩
end Go.Proofs.YtcpoglchjkpbpaaDoor
