/-
  Package sp, walked: the orders are counted.
-/
import Derived.Test.YtdipieplmmhnhaaSpMks
import Derived.Test.YtdipieplmmhnhaaStill
import Derived.Test.YtdipieplmmhnhaaSettle3
import Derived.Outline
namespace Go.Proofs.Ytdipieplmmhnhaa
set_option linter.unusedVariables false
set_option linter.unusedSimpArgs false
open Go.RowKit

namespace Sp
/-- a count, rest 2^64 -/
def u64 (n : Nat) : Int := ((n % 18446744073709551616 : Nat) : Int)
theorem u64_mul (a b : Nat) : IntKind.u64.wrap (u64 a * u64 b) = u64 (a * b) := by
  unfold u64
  rw [wrap_u64, ← Int.natCast_mul, Nat.mul_mod a b]
  generalize (a % 18446744073709551616) * (b % 18446744073709551616) = x
  omega
theorem u64_add (a b : Nat) : IntKind.u64.wrap (u64 a + u64 b) = u64 (a + b) := by
  unfold u64
  rw [wrap_u64]
  omega
theorem u64_zero : u64 0 = 0 := rfl
theorem u64_one : u64 1 = 1 := rfl

def row (f : Nat → Nat) (b : Nat) : List Value := (List.range (b + 1)).map fun j => .int .u64 (u64 (f j))
theorem row_length (f : Nat → Nat) (b : Nat) : (row f b).length = b + 1 := by simp [row]
theorem row_get (f : Nat → Nat) (b j : Nat) (h : j ≤ b) : (row f b)[j]? = some (.int .u64 (u64 (f j))) := by
  have : j < b + 1 := by omega
  simp [row, this]
theorem row_congr {f g : Nat → Nat} {b : Nat} (h : ∀ j, j ≤ b → f j = g j) : row f b = row g b := by
  apply List.ext_getElem?
  intro j
  by_cases hj : j ≤ b
  · rw [row_get _ _ _ hj, row_get _ _ _ hj, h j hj]
  · rw [List.getElem?_eq_none (by rw [row_length]; omega), List.getElem?_eq_none (by rw [row_length]; omega)]
theorem row_set (f : Nat → Nat) (b i x : Nat) (h : i ≤ b) : (row f b).set i (.int .u64 (u64 x)) = row (fun j => if j = i then x else f j) b := by
  apply List.ext_getElem?
  intro j
  by_cases hj : j ≤ b
  · rw [row_get _ _ _ hj, List.getElem?_set]
    by_cases e : i = j
    · subst e; simp [row_length]; omega
    · rw [if_neg e, row_get _ _ _ hj, if_neg (fun e' => e e'.symm)]
  · rw [List.getElem?_eq_none (by rw [List.length_set, row_length]; omega), List.getElem?_eq_none (by rw [row_length]; omega)]
theorem row_zero (b : Nat) : List.replicate ((b + 1) * 1) (Value.int .u64 0) = row (fun _ => 0) b := by
  apply List.ext_getElem?
  intro j
  by_cases hj : j ≤ b
  · rw [row_get _ _ _ hj, u64_zero, List.getElem?_replicate, if_pos (by omega)]
  · rw [List.getElem?_eq_none (by simp; omega), List.getElem?_eq_none (by rw [row_length]; omega)]
/-- the row while its k-th turn goes on: those below i are new -/
def mix (k i j : Nat) : Nat := if j < i then ch (k + 1) j else ch k j
theorem mix_start (k b : Nat) : row (ch k) b = row (mix k 1) b := row_congr fun j _ => by
  unfold mix
  by_cases h : j < 1
  · have : j = 0 := by omega
    subst this
    rw [if_pos h, ch_zero, ch_zero]
  · rw [if_neg h]
theorem mix_end (k b : Nat) : row (mix k (b + 1)) b = row (ch (k + 1)) b := row_congr fun j hj => by
  unfold mix; rw [if_pos (by omega)]
theorem mix_step (k m b : Nat) : row (fun j => if j = m + 1 then mix k (m + 1) (m + 1) + mix k (m + 1) m else mix k (m + 1) j) b = row (mix k (m + 1 + 1)) b := row_congr fun j hj => by
  by_cases e : j = m + 1
  · subst e
    rw [if_pos rfl]
    unfold mix
    rw [if_neg (by omega), if_pos (by omega), if_pos (by omega), ch]
  · rw [if_neg e]
    unfold mix
    by_cases h : j < m + 1
    · rw [if_pos h, if_pos (by omega)]
    · rw [if_neg h, if_neg (by omega)]
end Sp

theorem info_u64c : (Try.prog.info? 56).map (fun i => (i.zero, i.size, i.bytes)) = some (some (.int .u64 0), 1, 8) := by kernel_rfl

set_option maxRecDepth 100000 in
set_option maxHeartbeats 4000000 in
theorem choose_any (a b : Nat) (w : World) (ha : a ≤ 4194304) (hb : b ≤ 4194304) :
    Calls Try.prog 77 #[.int .i64 a, .int .i64 b] w fun e w' => e = .returned (.int .u64 (Sp.u64 (Sp.ch a b))) ∧ Below w.heap.size w w' := by
  obtain ⟨n, hn⟩ : ∃ n, n = b + 1 := ⟨_, rfl⟩
  have HN := Lib.hid hn
  have hnb : n ≤ 4194305 := by omega
  clear hn
  obtain ⟨q, hq⟩ : ∃ q, q = w.heap.size := ⟨_, rfl⟩
  have HQ := Lib.hid hq
  clear hq
  go_enter Try.func77, Try.ntmps77
  go_wp2_with (at_make; refine wp_make_flat w 109 56 (.int .u64 0) (.int .u64 0) 1 8 n Try.underlying109 info_u64c rfl (by decide) (by have := HN.out; omega) (by have := HN.out; omega) (by omega) (by omega) rfl rfl rfl rfl ?_; intro w1 hB1 hb1 hs1)
  rw [← HQ.out] at hB1 hb1 ⊢
  rw [HN.out, Sp.row_zero] at hB1
  have hq1 : q < w1.heap.size := hB1.lt
  clear hs1
  go_loopw [13] (fun i wr => ∃ k : Nat, k ≤ n ∧ i = .int .i64 k ∧ Blk wr q 56 (Sp.row (fun j => if j < k then 1 else 0) b) ∧ Below q w wr) (fun i _ => n - (intOf i).toNat)
  case atStart => exact ⟨0, Nat.zero_le _, rfl, by simpa using hB1, hb1⟩
  case round =>
    clear hB1 hb1 hq1
    obtain ⟨k, hk, rfl, hB, hbw⟩ := hrel
    by_cases hlt : k < n
    · have hkb : k ≤ b := by have := HN.out; omega
      have hset := Sp.row_set (fun j => if j < k then 1 else 0) b k 1 hkb
      have HS := Lib.hid hset
      clear hset
      go_wp2_with (refine wpl_set_blk hB k (.int .u64 1) (by kernel_rfl) (by rw [Sp.row_length]; omega) rfl rfl rfl rfl rfl rfl ?_; intro w2 hB2 hg2)
      have hb2 : Below q w w2 := hbw.trans (below_of_grown hg2 (Nat.le_of_lt hB.lt) (Nat.le_refl _))
      rw [show (1 : Int) = Sp.u64 1 from rfl, HS.out] at hB2
      have hB3 : Blk w2 q 56 (Sp.row (fun j => if j < k + 1 then 1 else 0) b) := by
        rw [Sp.row_congr (g := fun j => if j = k then 1 else if j < k then 1 else 0) (fun j _ => by split <;> split <;> (try split) <;> omega)]
        exact hB2
      clear hB2 hg2 hB hbw
      go_wp2
      go_roundw
      case rel => exact ⟨k + 1, by omega, by go_num, hB3, hb2⟩
      case measure => simp [intOf]; omega
    · have hkn : k = n := by omega
      have hB1 : Blk wr q 56 (Sp.row (Sp.ch 0) b) := by
        rw [Sp.row_congr (g := fun j => if j < k then 1 else 0) (fun j hj => by have := HN.out; rw [if_pos (by omega)]; simp [Sp.ch])]
        exact hB
      clear hB hkn
      go_wp2_with fail
      obtain ⟨wo, rfl⟩ : ∃ wo : World, wo = wr := ⟨_, rfl⟩
      go_loopw [21] (fun i wr => ∃ k : Nat, k ≤ a ∧ i = .int .i64 k ∧ Blk wr q 56 (Sp.row (Sp.ch k) b) ∧ Below q w wr) (fun i _ => a - (intOf i).toNat)
      case atStart => exact ⟨0, Nat.zero_le _, rfl, hB1, hbw⟩
      case round =>
        clear hB1 hbw
        obtain ⟨k, hk, rfl, hB, hbw⟩ := hrel
        by_cases hlt : k < a
        · go_wp2_with fail
          rw [Sp.mix_start] at hB
          obtain ⟨wm, rfl⟩ : ∃ wm : World, wm = wr := ⟨_, rfl⟩
          go_loopw [7] (fun i wr => ∃ j : Nat, 1 ≤ j ∧ j ≤ b + 1 ∧ i = .int .i64 j ∧ Blk wr q 56 (Sp.row (Sp.mix k j) b) ∧ Below q w wr) (fun i _ => b + 1 - (intOf i).toNat)
          case atStart => exact ⟨1, Nat.le_refl _, by omega, rfl, hB, hbw⟩
          case round =>
            clear hB hbw
            obtain ⟨j, hj1, hj2, rfl, hB, hbw⟩ := hrel
            by_cases hl2 : j ≤ b
            · obtain ⟨m, hm⟩ : ∃ m, j = m + 1 := ⟨j - 1, by omega⟩
              have c0 := (hB.cell j).trans (Sp.row_get _ _ _ hl2)
              have c1 := (hB.cell m).trans (Sp.row_get _ _ _ (by omega))
              have hset := Sp.row_set (Sp.mix k (m + 1)) b (m + 1) (Sp.mix k (m + 1) (m + 1) + Sp.mix k (m + 1) m) (by omega)
              rw [Sp.mix_step k m b, ← hm] at hset
              obtain ⟨x, hx⟩ : ∃ x, x = Sp.mix k j j := ⟨_, rfl⟩
              obtain ⟨y, hy⟩ : ∃ y, y = Sp.mix k j m := ⟨_, rfl⟩
              rw [← hx] at c0 hset
              rw [← hy] at c1 hset
              have HS := Lib.hid hset
              have hlen := Sp.row_length (Sp.mix k j) b
              have HL := Lib.hid hlen
              have hsub : IntKind.i64.wrap ((j : Int) - 1) = (m : Int) := by rw [IntWalk.i64_in _ (by omega)]; omega
              have g3 : (m : Int) < (n : Int) := by have := HN.out; omega
              have g2 : (j : Int) < (n : Int) := by have := HN.out; omega
              have g4 : j < (Sp.row (Sp.mix k j) b).length := by omega
              clear hx hy hlen hset hm
              have hadd := Sp.u64_add x y
              go_wp2_with fail
              (refine still_last (by kernel_rfl) (by kernel_rfl) ?_; simp only [List.length_cons, List.length_nil, Nat.reduceAdd, Nat.reduceSub, List.take_succ_cons, List.take_zero, List.drop_succ_cons, List.drop_zero]; repeat still_step; try refine wpStill_nil ?_)
              refine wpl_set_blk (w := wr.drewN 1) hB j (.int .u64 (Sp.u64 (x + y))) (by kernel_rfl) g4 rfl rfl rfl rfl rfl rfl ?_
              intro w2 hB2 hg2
              rw [HS.out] at hB2
              have hb2 : Below q w w2 := hbw.trans (below_of_grown (grown_undrewN hg2) (Nat.le_of_lt hB.lt) (Nat.le_refl _))
              clear hB hg2 c0 c1 hadd hsub hbw
              go_wp2
              go_roundw
              case rel => exact ⟨j + 1, by omega, by omega, by go_num, hB2, hb2⟩
              case measure => simp [intOf]; omega
            · have hjb : j = b + 1 := by omega
              rw [hjb, Sp.mix_end] at hB
              clear hjb
              go_wp2
              go_roundw
              case rel => exact ⟨k + 1, by omega, by go_num, hB, hbw⟩
              case measure => simp [intOf]; omega
        · have hka : k = a := by omega
          rw [hka] at hB
          clear hka
          have c0 := (hB.cell b).trans (Sp.row_get _ _ _ (Nat.le_refl _))
          have g2 : (b : Int) < (n : Int) := by have := HN.out; omega
          rw [HQ.out] at hbw
          clear hB
          go_wp2
          go_ret
          exact ⟨rfl, hbw⟩

/-! ### the counter -/
theorem two_allocs (w : World) (c0 c1 : List Value) (t0 t1 : TypeId) : Blk ((w.alloc (.cells c0.toArray t0)).alloc (.cells c1.toArray t1)) w.heap.size t0 c0 ∧ Blk ((w.alloc (.cells c0.toArray t0)).alloc (.cells c1.toArray t1)) (w.heap.size + 1) t1 c1 ∧ ((w.alloc (.cells c0.toArray t0)).alloc (.cells c1.toArray t1)).heap.size = w.heap.size + 1 + 1 ∧ Keeps (fun _ => False) w ((w.alloc (.cells c0.toArray t0)).alloc (.cells c1.toArray t1)) := by
  have h0 := Blk.new w t0 c0
  have h1 := Blk.new (w.alloc (.cells c0.toArray t0)) t1 c1
  rw [show (w.alloc (.cells c0.toArray t0)).heap.size = w.heap.size + 1 by simp] at h1
  exact ⟨h0.alloc _, h1, by simp, ((Keeps.refl _ w).alloc _).alloc _⟩
theorem four_allocs (w : World) (c0 c1 c2 c3 : List Value) (t0 t1 t2 t3 : TypeId) : Blk ((((w.alloc (.cells c0.toArray t0)).alloc (.cells c1.toArray t1)).alloc (.cells c2.toArray t2)).alloc (.cells c3.toArray t3)) w.heap.size t0 c0 ∧ Blk ((((w.alloc (.cells c0.toArray t0)).alloc (.cells c1.toArray t1)).alloc (.cells c2.toArray t2)).alloc (.cells c3.toArray t3)) (w.heap.size + 1) t1 c1 ∧
    Blk ((((w.alloc (.cells c0.toArray t0)).alloc (.cells c1.toArray t1)).alloc (.cells c2.toArray t2)).alloc (.cells c3.toArray t3)) (w.heap.size + 1 + 1) t2 c2 ∧ Blk ((((w.alloc (.cells c0.toArray t0)).alloc (.cells c1.toArray t1)).alloc (.cells c2.toArray t2)).alloc (.cells c3.toArray t3)) (w.heap.size + 1 + 1 + 1) t3 c3 ∧
    ((((w.alloc (.cells c0.toArray t0)).alloc (.cells c1.toArray t1)).alloc (.cells c2.toArray t2)).alloc (.cells c3.toArray t3)).heap.size = w.heap.size + 1 + 1 + 1 + 1 ∧ Keeps (fun _ => False) w ((((w.alloc (.cells c0.toArray t0)).alloc (.cells c1.toArray t1)).alloc (.cells c2.toArray t2)).alloc (.cells c3.toArray t3)) := by
  obtain ⟨h0, h1, hz, hk⟩ := two_allocs w c0 c1 t0 t1
  obtain ⟨h2, h3, hz2, hk2⟩ := two_allocs ((w.alloc (.cells c0.toArray t0)).alloc (.cells c1.toArray t1)) c2 c3 t2 t3
  rw [hz] at h2 h3 hz2
  exact ⟨(h0.alloc _).alloc _, (h1.alloc _).alloc _, h2, h3, hz2, hk.trans hk2⟩

structure Cn (B : Nat) (w : World) (g : Nat) (u v : Value) : Prop where
  blk : Blk w g 84 [u, v]
  base : B ≤ w.heap.size
  at_ : B ≤ g

def CnEnd (B : Nat) (w : World) (g : Nat) (t : Sp.T) : Ending → World → Prop := fun e w' =>
  e = .returned (.tuple #[]) ∧ Cn B w' g (.int .i64 t.size) (.int .u64 (Sp.u64 t.ways)) ∧ Keeps (fun k => k = g) w w'

theorem Cn.keeps {B : Nat} {w w' : World} {g : Nat} {u v : Value} (c : Cn B w g u v) {S : Nat → Prop} (k : Keeps S w w') (hS : ¬ S g) : Cn B w' g u v := ⟨c.blk.keeps k hS, by have := c.base; have := k.size; omega, c.at_⟩
theorem cn_back {B : Nat} {w w0 : World} {g : Nat} {t : Sp.T} (hk : Keeps (fun _ => False) w w0) {e : Ending} {w' : World} (he : CnEnd B w0 g t e w') : CnEnd B w g t e w' :=
  ⟨he.1, he.2.1, (hk.mono (fun _ h => h.elim)).trans he.2.2⟩
theorem Cn.turn {B : Nat} {w w' : World} {g : Nat} {u v u' v' : Value} (c : Cn B w g u v) (hB : Blk w' g 84 [u', v']) (hg : w.grownBy w' (some g)) : Cn B w' g u' v' ∧ Keeps (fun k => k = g) w w' :=
  ⟨⟨hB, by have := c.base; have := hg.size; omega, c.at_⟩, (Keeps.of_grown hg).mono (fun i hi => by injection hi)⟩
theorem two_one {u v : Value} (hu : u.oneCell' = true) (hv : v.oneCell' = true) : ∀ x ∈ [u, v], x.oneCell' = true := by
  intro x hx
  simp only [List.mem_cons, List.not_mem_nil, or_false] at hx
  rcases hx with rfl | rfl
  · exact hu
  · exact hv

theorem cn_nothing (B : Nat) (w : World) (g : Nat) (u v : Value) (c : Cn B w g u v) :
    Calls Try.prog 74 #[.pointer (some ⟨g, 0, none⟩)] w (CnEnd B w g .nil) := by
  go_enter Try.func74, Try.ntmps74
  go_wp2_with (refine wpl_put_blk c.blk [.int .i64 0, .int .u64 1] (by kernel_rfl) rfl (two_one rfl rfl) rfl rfl rfl rfl ?_; intro w2 hB2 hg2)
  have hf := c.turn hB2 hg2
  clear hB2 hg2 c
  go_wp2
  go_end0
  exact ⟨rfl, hf.1, hf.2⟩
theorem cn_one (B : Nat) (w : World) (g : Nat) (u v : Value) (c : Cn B w g u v) (a : Sp.Acc) :
    Calls Try.prog 75 #[.pointer (some ⟨g, 0, none⟩), .agg #[.int .i64 a.1, .bool a.2.1, .int .i64 a.2.2]] w (CnEnd B w g (.one a.1 a.2.1 a.2.2)) := by
  obtain ⟨a1, a2, a3⟩ := a
  simp only
  have c1 := c.keeps ((Keeps.refl (fun _ => False) w).alloc (.cells #[.int .i64 a1, .bool a2, .int .i64 a3] 23)) (fun h => h)
  have k1 : Keeps (fun k => k = g) w (w.alloc (.cells #[.int .i64 a1, .bool a2, .int .i64 a3] 23)) := (Keeps.refl _ w).alloc _
  clear c
  go_enter Try.func75, Try.ntmps75
  go_wp2_with (refine wpl_put_blk c1.blk [.int .i64 1, .int .u64 1] (by kernel_rfl) rfl (two_one rfl rfl) rfl rfl rfl rfl ?_; intro w2 hB2 hg2)
  have hf := c1.turn hB2 hg2
  clear hB2 hg2
  go_wp2
  go_end0
  exact ⟨rfl, hf.1, k1.trans hf.2⟩

theorem meth_cn (g fuel : Nat) (w : World) : (method (fuel + 1) 85 (.pointer (some ⟨g, 0, none⟩)) "forkwright/sp.nothing").run Try.prog w = .ok (74, .pointer (some ⟨g, 0, none⟩)) w ∧
    (method (fuel + 1) 85 (.pointer (some ⟨g, 0, none⟩)) "forkwright/sp.one").run Try.prog w = .ok (75, .pointer (some ⟨g, 0, none⟩)) w ∧
    (method (fuel + 1) 85 (.pointer (some ⟨g, 0, none⟩)) "forkwright/sp.two").run Try.prog w = .ok (76, .pointer (some ⟨g, 0, none⟩)) w ∧
    (nilAhead (fuel + 1) 85 (.pointer (some ⟨g, 0, none⟩)) "forkwright/sp.two").run Try.prog w = .ok (some false) w :=
  ⟨by kernel_rfl, by kernel_rfl, by kernel_rfl, by kernel_rfl⟩

def CountTell (t : Sp.T) : Prop := ∀ (B : Nat) (w : World) (g : Nat) (u v : Value) (cs : List Value), TmR B w cs t → Cn B w g u v → t.size ≤ 4194304 →
    Calls Try.prog 40 #[.agg cs.toArray, .iface 85 (.pointer (some ⟨g, 0, none⟩))] w (CnEnd B w g t)

set_option maxHeartbeats 4000000 in
theorem cn_two (par : Bool) (t0 t1 : Sp.T) (ih0 : CountTell t0) (ih1 : CountTell t1) (B : Nat) (w0 : World) (g : Nat) (u v : Value) (cs0 cs1 : List Value) (q0 : TmR B w0 cs0 t0) (q1 : TmR B w0 cs1 t1) (hC : Cn B w0 g u v) (hn : t0.size + t1.size ≤ 4194304) :
    Calls Try.prog 76 #[.pointer (some ⟨g, 0, none⟩), .bool par, .agg cs0.toArray, .agg cs1.toArray] w0 (CnEnd B w0 g (.two par t0 t1)) := by
  obtain ⟨a0, a1, a2, a3, A4, a5, a6, rfl, -, -⟩ := q0.form
  obtain ⟨b0, b1, b2, b3, B4, b5, b6, rfl, -, -⟩ := q1.form
  unfold tcells at q0 q1 ⊢
  obtain ⟨hx0, hx1, hx2, hx3, hz, hk0⟩ := four_allocs w0 [.int .i64 a0, .int .i64 a1, .bool a2, .int .i64 a3, .slice A4 a5 a6] [.int .i64 b0, .int .i64 b1, .bool b2, .int .i64 b3, .slice B4 b5 b6] [.int .i64 0, .int .u64 0] [.int .i64 0, .int .u64 0] 26 26 84 84
  have hbB := hk0.below (B := B) hC.base (fun i h => h.elim)
  have hg0 := hC.blk.lt
  have s0 := q0.later hbB
  have s1 := q1.later hbB
  have hC1 := hC.keeps hk0 (fun h => h)
  have hB0 := hC.base
  clear q0 q1 hC hbB
  go_enter Try.func76, Try.ntmps76
  go_wp2_with fail
  obtain ⟨q, hq⟩ : ∃ q, q = w0.heap.size := ⟨_, rfl⟩
  generalize ((((w0.alloc (.cells [Value.int .i64 a0, .int .i64 a1, .bool a2, .int .i64 a3, .slice A4 a5 a6].toArray 26)).alloc (.cells [Value.int .i64 b0, .int .i64 b1, .bool b2, .int .i64 b3, .slice B4 b5 b6].toArray 26)).alloc (.cells [Value.int .i64 0, .int .u64 0].toArray 84)).alloc (.cells [Value.int .i64 0, .int .u64 0].toArray 84)) = W at hx0 hx1 hx2 hx3 hz hk0 s0 s1 hC1 ⊢
  rw [← hq] at hx0 hx1 hx2 hx3 hz hg0 hB0 ⊢
  obtain ⟨qa, hqa⟩ : ∃ k, k = q + 1 + 1 := ⟨_, rfl⟩
  obtain ⟨qb, hqb⟩ : ∃ k, k = q + 1 + 1 + 1 := ⟨_, rfl⟩
  rw [← hqb] at hx3
  rw [← hqa] at hx2
  have hqab : qa + 1 = qb := by omega
  simp only [← hqa, hqab]
  clear hqab
  have cA : Cn B W qa (.int .i64 0) (.int .u64 0) := ⟨hx2, by omega, by omega⟩
  have cB : Cn B W qb (.int .i64 0) (.int .u64 0) := ⟨hx3, by omega, by omega⟩
  have look : ∀ w', Keeps (fun k => k = g ∨ k = qa ∨ k = qb) W w' → (w'.cell? ⟨q, 0, none⟩ = some (.int .i64 a0) ∧ w'.cell? ⟨q, 1, none⟩ = some (.int .i64 a1) ∧ w'.cell? ⟨q, 2, none⟩ = some (.bool a2) ∧ w'.cell? ⟨q, 3, none⟩ = some (.int .i64 a3) ∧ w'.cell? ⟨q, 4, none⟩ = some (.slice A4 a5 a6)) ∧
      (w'.cell? ⟨q + 1, 0, none⟩ = some (.int .i64 b0) ∧ w'.cell? ⟨q + 1, 1, none⟩ = some (.int .i64 b1) ∧ w'.cell? ⟨q + 1, 2, none⟩ = some (.bool b2) ∧ w'.cell? ⟨q + 1, 3, none⟩ = some (.int .i64 b3) ∧ w'.cell? ⟨q + 1, 4, none⟩ = some (.slice B4 b5 b6)) ∧
      TmR B w' [.int .i64 b0, .int .i64 b1, .bool b2, .int .i64 b3, .slice B4 b5 b6] t1 := fun w' hk => by
    have x0 := hx0.keeps hk (fun e => by omega)
    have x1 := hx1.keeps hk (fun e => by omega)
    have hbl := hk.below (B := B) (by omega) (fun i hi => by have := hC1.at_; omega)
    exact ⟨⟨by rw [x0.cell]; rfl, by rw [x0.cell]; rfl, by rw [x0.cell]; rfl, by rw [x0.cell]; rfl, by rw [x0.cell]; rfl⟩, ⟨by rw [x1.cell]; rfl, by rw [x1.cell]; rfl, by rw [x1.cell]; rfl, by rw [x1.cell]; rfl, by rw [x1.cell]; rfl⟩, s1.later hbl⟩
  have ka0 : qa ≠ qb := by omega
  have ka1 : qa ≠ g := by omega
  have ka2 : qb ≠ g := by omega
  have kg0 : Keeps (fun k => k = g) w0 W := hk0.mono (fun _ h => h.elim)
  have hlast : ∀ w', Keeps (fun k => k = g ∨ k = qa ∨ k = qb) W w' → Keeps (fun k => k = g) w0 w' := fun w' hk => kg0.step hk (fun i hi h => by omega)
  clear hx0 hx1 hx2 hx3 hk0 hqa hqb hq kg0
  obtain ⟨⟨x0, x1, x2, x3, x4⟩, -, -⟩ := look W (Keeps.refl _ _)
  have hcall := ih0 B W qa _ _ _ s0 cA (by omega)
  clear ih0 s0
  refine hcall.mono ?_
  rintro e w1 ⟨rfl, cA1, k1⟩
  have kk1 : Keeps (fun k => k = g ∨ k = qa ∨ k = qb) W w1 := k1.mono (fun i h => .inr (.inl h))
  have cB1 := cB.keeps k1 (fun e => ka0 e.symm)
  have cG1 := hC1.keeps k1 (fun e => ka1 e.symm)
  clear x0 x1 x2 x3 x4 hcall cA cB hC1 k1
  obtain ⟨-, ⟨x0, x1, x2, x3, x4⟩, r1⟩ := look w1 kk1
  go_wp2_with fail
  refine (ih1 B w1 qb _ _ _ r1 cB1 (by omega)).mono ?_
  rintro e w2 ⟨rfl, cB2, k2⟩
  have kk2 : Keeps (fun k => k = g ∨ k = qa ∨ k = qb) W w2 := kk1.trans (k2.mono (fun i h => .inr (.inr h)))
  have cA2 := cA1.keeps k2 (fun e => ka0 e)
  have cG2 := cG1.keeps k2 (fun e => ka2 e.symm)
  clear x0 x1 x2 x3 x4 r1 cA1 cB1 cG1 k2 ih1 look
  have ya0 := cA2.blk.cell 0
  have ya1 := cA2.blk.cell 1
  have yb0 := cB2.blk.cell 0
  have yb1 := cB2.blk.cell 1
  simp only [List.getElem?_cons_zero, List.getElem?_cons_succ] at ya0 ya1 yb0 yb1
  obtain ⟨sa, hsa⟩ : ∃ s, s = t0.size := ⟨_, rfl⟩
  obtain ⟨sb, hsb⟩ : ∃ s, s = t1.size := ⟨_, rfl⟩
  obtain ⟨ya, hya⟩ : ∃ s, s = t0.ways := ⟨_, rfl⟩
  obtain ⟨yb, hyb⟩ : ∃ s, s = t1.ways := ⟨_, rfl⟩
  have hfin : (Sp.T.two par t0 t1).size = sa + sb ∧ (Sp.T.two par t0 t1).ways = ya * yb * (if par then Sp.ch sa sb else 1) := by rw [Sp.T.size_two, hsa, hsb, hya, hyb]; exact ⟨rfl, rfl⟩
  have HF := Lib.hid hfin
  rw [← hsa] at ya0 hn
  rw [← hsb] at yb0 hn
  rw [← hya] at ya1
  rw [← hyb] at yb1
  have hmul := Sp.u64_mul ya yb
  rw [← hsa, ← hya] at cA2
  rw [← hsb, ← hyb] at cB2
  clear hsa hsb hya hyb hfin
  rcases par with _ | _
  · go_wp2_with (refine wpl_put_blk cG2.blk [.int .i64 ((sa : Int) + (sb : Int)), .int .u64 (Sp.u64 (ya * yb))] (by kernel_rfl) rfl (two_one rfl rfl) rfl rfl rfl rfl ?_; intro w3 hB3 hg3)
    obtain ⟨cG3, kg3⟩ := cG2.turn hB3 hg3
    have kk3 : Keeps (fun k => k = g ∨ k = qa ∨ k = qb) W w3 := kk2.trans (kg3.mono (fun i h => .inl h))
    clear hB3 hg3 cG2 cA2 cB2 kg3 kk2 ya0 ya1 yb0 yb1 hmul
    go_end0
    refine ⟨rfl, ?_, hlast _ kk3⟩
    rw [HF.out.1, HF.out.2]
    simpa using cG3
  · go_wp2_with (refine wpl_put_blk cG2.blk [.int .i64 ((sa : Int) + (sb : Int)), .int .u64 (Sp.u64 (ya * yb))] (by kernel_rfl) rfl (two_one rfl rfl) rfl rfl rfl rfl ?_; intro w3 hB3 hg3)
    obtain ⟨cG3, kg3⟩ := cG2.turn hB3 hg3
    have cA3 := cA2.keeps kg3 (fun e => ka1 e)
    have cB3 := cB2.keeps kg3 (fun e => ka2 e)
    have kk3 : Keeps (fun k => k = g ∨ k = qa ∨ k = qb) W w3 := kk2.trans (kg3.mono (fun i h => .inl h))
    clear hB3 hg3 cG2 cA2 cB2 kg3 kk2 ya0 ya1 yb0 yb1 hmul
    have hmul := Sp.u64_mul (ya * yb) (Sp.ch sa sb)
    have keepS : ∀ w', Below w3.heap.size w3 w' → (Below w3.heap.size w3 w' ∧ w'.cell? ⟨g, 1, none⟩ = some (.int .u64 (Sp.u64 (ya * yb))) ∧ w'.cell? ⟨qa, 0, none⟩ = some (.int .i64 sa) ∧ w'.cell? ⟨qb, 0, none⟩ = some (.int .i64 sb)) := fun w' hb =>
      ⟨hb, by rw [(cG3.blk.below hb).cell]; rfl, by rw [(cA3.blk.below hb).cell]; rfl, by rw [(cB3.blk.below hb).cell]; rfl⟩
    refine wp_walk_last (by kernel_rfl) (by kernel_rfl) (fun _ _ => True) (fun w' => (Below w3.heap.size w3 w' ∧ w'.cell? ⟨g, 1, none⟩ = some (.int .u64 (Sp.u64 (ya * yb))) ∧ w'.cell? ⟨qa, 0, none⟩ = some (.int .i64 sa) ∧ w'.cell? ⟨qb, 0, none⟩ = some (.int .i64 sb))) (keepS _ (below_drew (Below.refl _ _))) ?_
    simp only [List.length_cons, List.length_nil, Nat.reduceAdd, Nat.reduceSub, List.take_succ_cons, List.take_zero, List.drop_succ_cons, List.drop_zero]
    repeat (first | (refine settle_skip (fun _ => by rfl) ?_; (simp only [Act.put, List.setIfInBounds_toArray, List.set_cons_zero, List.set_cons_succ])) | (refine' settle_run (fun _ _ => trivial) (fun _ => by rfl) ?_ ?_; rotate_left; (focus (intro ρ w hS hF; (try dsimp only at hS); go_split_ands; go_simp; try with_reducible rfl)); (simp only [Act.put, List.setIfInBounds_toArray, List.set_cons_zero, List.set_cons_succ])) | (refine' settle_step (fun _ => by rfl) ?_ ?_; rotate_left; (focus (intro ρ w hS hF K hK; (simp only [Act.put, List.setIfInBounds_toArray, List.set_cons_zero, List.set_cons_succ] at hK); go_simp; first | (go_at_call 77; refine (choose_any sa sb _ (by omega) (by omega)).mono ?_; rintro e w6 ⟨rfl, hb6⟩; have hS' := keepS _ (below_next hb6 hS.1); have hE' := True.intro; exact hK _ hS' hE'))); (simp only [Act.put, List.setIfInBounds_toArray, List.set_cons_zero, List.set_cons_succ])))
    refine settle_nil ?_
    intro ρ w4 hS _
    have cG4 : Cn B w4 g (.int .i64 ((sa : Int) + (sb : Int))) (.int .u64 (Sp.u64 (ya * yb))) := ⟨cG3.blk.below hS.1, by have := cG3.base; have := hS.1.size; omega, cG3.at_⟩
    have kk4 : Keeps (fun k => k = g ∨ k = qa ∨ k = qb) W w4 := kk3.step (Keeps.of_below hS.1 (fun _ => False)) (fun i _ h => h.elim)
    clear keepS hS cG3 cA3 cB3 kk3 hmul
    refine wpl_set_blk cG4.blk 1 (.int .u64 (Sp.u64 (ya * yb * Sp.ch sa sb))) (by kernel_rfl) (by simp) rfl rfl rfl rfl rfl rfl ?_
    intro w5 hB5 hg5
    obtain ⟨cG5, kg5⟩ := cG4.turn (by simpa using hB5) hg5
    have hl := hlast _ (kk4.trans (kg5.mono (fun i h => .inl h)))
    clear hB5 hg5 cG4 kk4 kg5 hlast
    go_wp2
    go_end0
    refine ⟨rfl, ?_, hl⟩
    rw [HF.out.1, HF.out.2]
    simpa using cG5

theorem tell_counts (t : Sp.T) : CountTell t := by
  induction t with
  | nil =>
    intro B w g u v cs hT hC hn
    refine tell_nil hT (f := 74) (fun k w => (meth_cn g k w).1) (fun _ _ => by rfl) ?_
    exact (cn_nothing B _ g u v (hC.keeps (keeps_alloc _ _) (fun h => h))).mono fun e w' h => cn_back (keeps_alloc _ _) h
  | one c b l =>
    intro B w g u v cs hT hC hn
    refine tell_one hT (f := 75) (fun k w => (meth_cn g k w).2.1) (fun _ _ => by rfl) ?_
    exact (cn_one B _ g u v (hC.keeps (keeps_alloc _ _) (fun h => h)) (c, b, l)).mono fun e w' h => cn_back (keeps_alloc _ _) h
  | two par t0 t1 ih0 ih1 =>
    intro B w g u v cs hT hC hn
    rw [Sp.T.size_two] at hn
    refine tell_two hT (f := 76) (fun k w => (meth_cn g k w).2.2.1) (fun k w => (meth_cn g k w).2.2.2) (fun _ _ => by rfl) hC.base ?_
    intro cs0 cs1 r0 r1
    have hk0 : Keeps (fun _ => False) w ((w.alloc (.cells cs.toArray 26)).drewN 1) := (keeps_alloc _ _).drewN 1
    have v0 : TmR B ((w.alloc (.cells cs.toArray 26)).drewN 1) cs0 t0 := r0.keep (Nat.le_refl _) (fun p hp => World.cell?_alloc_lt w _ p (by have := hC.base; omega))
    have v1 : TmR B ((w.alloc (.cells cs.toArray 26)).drewN 1) cs1 t1 := r1.keep (Nat.le_refl _) (fun p hp => World.cell?_alloc_lt w _ p (by have := hC.base; omega))
    exact (cn_two par t0 t1 ih0 ih1 B _ g u v cs0 cs1 v0 v1 (hC.keeps hk0 (fun h => h)) hn).mono fun e w' h => cn_back hk0 h

theorem count_any (w : World) (cs : List Value) (t : Sp.T) (hT : TmR w.heap.size w cs t) (hn : t.size ≤ 4194304) :
    Calls Try.prog 28 #[.agg cs.toArray] w fun e w' => e = .returned (.int .u64 (Sp.u64 t.ways)) ∧ Below w.heap.size w w' := by
  obtain ⟨a0, a1, a2, a3, A4, a5, a6, rfl, -, -⟩ := hT.form
  unfold tcells at hT ⊢
  obtain ⟨hx0, hx1, hz, hk0⟩ := two_allocs w [.int .i64 a0, .int .i64 a1, .bool a2, .int .i64 a3, .slice A4 a5 a6] [.int .i64 0, .int .u64 0] 26 84
  have s1 := hT.later (hk0.below (Nat.le_refl _) (fun i h => h.elim))
  clear hT
  go_enter Try.func28, Try.ntmps28
  go_wp2_with fail
  have hC : Cn w.heap.size ((w.alloc (.cells #[.int .i64 a0, .int .i64 a1, .bool a2, .int .i64 a3, .slice A4 a5 a6] 26)).alloc (.cells #[.int .i64 0, .int .u64 0] 84)) (w.heap.size + 1) (.int .i64 0) (.int .u64 0) := ⟨hx1, by rw [hz]; omega, by omega⟩
  refine (tell_counts t _ _ (w.heap.size + 1) _ _ _ s1 hC hn).mono ?_
  rintro e w1 ⟨rfl, c1, k1⟩
  have hb : Below w.heap.size w w1 := (hk0.below (Nat.le_refl _) (fun i h => h.elim)).trans (k1.below hC.base (fun i hi => by omega))
  have y1 := c1.blk.cell 1
  simp only [List.getElem?_cons_zero, List.getElem?_cons_succ] at y1
  clear hx0 hx1 hz hk0 s1 hC c1 k1
  go_wp2
  go_ret
  exact ⟨rfl, hb⟩
end Go.Proofs.Ytdipieplmmhnhaa
