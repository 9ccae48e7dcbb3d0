/-
  expr.Fold, walked: its second function. (under way)
-/
import Derived.Test.YtniekhedpdkmiaaEx10
namespace Go.Proofs.Ytniekhedpdkmiaa
set_option linter.unusedVariables false
set_option linter.unusedSimpArgs false
open Go.RowKit

theorem fold2_num (k m n : Int) (s1 s2 : ByteArray) (A1 A2 : Option Addr) (l1 c1 l2 c2 : Nat) (w : World) (hr1 : Ex.rng m) (hr2 : Ex.rng n) : Calls Try.prog 32 #[.int .i64 k, .agg (xcells 1 m s1 A1 l1 c1).toArray, .agg (xcells 1 n s2 A2 l2 c2).toArray] w fun r w' => ∃ v, r = .returned v ∧ IsX (.num (Ex.doo k m n)) v w' ∧ Below w.heap.size w w' := by
  obtain ⟨p0, p1, p2, hz, hbw⟩ := allocs3 w (xcells 1 m s1 A1 l1 c1) (xcells 1 n s2 A2 l2 c2) Ex.zeros 38 38 38
  have hd := Ex.doo_rng k m n hr1 hr2
  unfold xcells Ex.zeros at p0 p1 p2 hz hbw
  have hB := hbw.size
  unfold xcells
  go_enter Try.func32, Try.ntmps32
  go_wp2_with fail
  refine (do_any k m n _).mono ?_
  rintro e w' ⟨rfl, rfl⟩
  go_wp2_with (refine wpl_put_blk p2 [.int .i64 1, .int .i64 (Ex.doo k m n), .string ⟨#[]⟩, .slice none 0 0] (by kernel_rfl) rfl (xcells_one 1 (Ex.doo k m n) ⟨#[]⟩ none 0 0) rfl rfl rfl rfl ?_; intro w3 hB3 hg3)
  exact ret_blk hB3 rfl rfl Try.underlying38 rfl (by kernel_rfl) rfl ⟨_, rfl, ⟨_, rfl, .num _ ⟨#[]⟩ none 0 0 (Nat.le_refl _) (Nat.zero_le _) hd⟩, hbw.trans (below_of_grown hg3 hB (by omega))⟩
set_option maxHeartbeats 1000000 in
theorem fold2_no (k a0 a1 : Int) (a2 : ByteArray) (A3 : Option Addr) (a4 a5 : Nat) (b0 b1 : Int) (b2 : ByteArray) (B3 : Option Addr) (b4 b5 : Nat) (ea eb : Ex.X) (w : World) (ha : XN w.heap.size w (xcells a0 a1 a2 A3 a4 a5) ea) (hb : XN w.heap.size w (xcells b0 b1 b2 B3 b4 b5) eb) (hk3 : 3 ≤ k) (hk9 : k ≤ 9) (h1 : (a0 == 1) = false) : Calls Try.prog 32 #[.int .i64 k, .agg (xcells a0 a1 a2 A3 a4 a5).toArray, .agg (xcells b0 b1 b2 B3 b4 b5).toArray] w fun r w' => ∃ v, r = .returned v ∧ IsX (.two k ea eb) v w' ∧ Below w.heap.size w w' := by
  obtain ⟨p0, p1, p2, hz, hbw⟩ := allocs3 w (xcells a0 a1 a2 A3 a4 a5) (xcells b0 b1 b2 B3 b4 b5) Ex.zeros 38 38 38
  have wi := with_any k _ _ ea eb _ ((ha.later hbw).up hbw.size) ((hb.later hbw).up hbw.size) hk3 hk9
  unfold xcells Ex.zeros at p0 p1 p2 hz hbw wi
  have hB := hbw.size
  clear ha hb
  unfold xcells
  go_enter Try.func32, Try.ntmps32
  go_wp2_with fail
  refine wi.mono ?_
  rintro e w1 ⟨cs, rfl, hx, hb1⟩
  have p5 := p2.below hb1
  have hb2 := below_next hb1 hbw
  clear wi
  obtain ⟨c0, c1, c2, C3, c4, c5, rfl, -, -⟩ := hx.form
  unfold xcells at hx ⊢
  go_wp2_with (refine wpl_put_blk p5 [.int .i64 c0, .int .i64 c1, .string c2, .slice C3 c4 c5] (by kernel_rfl) rfl (xcells_one c0 c1 c2 C3 c4 c5) rfl rfl rfl rfl ?_; intro w3 hB3 hg3)
  exact ret_blk hB3 rfl rfl Try.underlying38 rfl (by kernel_rfl) rfl ⟨_, rfl, ⟨_, rfl, hx.put p5 hg3⟩, hb2.trans (below_of_grown hg3 hb2.size (by omega))⟩
set_option maxHeartbeats 1000000 in
theorem fold2_yes (k a0 a1 : Int) (a2 : ByteArray) (A3 : Option Addr) (a4 a5 : Nat) (b0 b1 : Int) (b2 : ByteArray) (B3 : Option Addr) (b4 b5 : Nat) (ea eb : Ex.X) (w : World) (ha : XN w.heap.size w (xcells a0 a1 a2 A3 a4 a5) ea) (hb : XN w.heap.size w (xcells b0 b1 b2 B3 b4 b5) eb) (hk3 : 3 ≤ k) (hk9 : k ≤ 9) (h1 : (a0 == 1) = true) (h2 : (b0 == 1) = false) : Calls Try.prog 32 #[.int .i64 k, .agg (xcells a0 a1 a2 A3 a4 a5).toArray, .agg (xcells b0 b1 b2 B3 b4 b5).toArray] w fun r w' => ∃ v, r = .returned v ∧ IsX (.two k ea eb) v w' ∧ Below w.heap.size w w' := by
  obtain ⟨p0, p1, p2, hz, hbw⟩ := allocs3 w (xcells a0 a1 a2 A3 a4 a5) (xcells b0 b1 b2 B3 b4 b5) Ex.zeros 38 38 38
  have wi := with_any k _ _ ea eb _ ((ha.later hbw).up hbw.size) ((hb.later hbw).up hbw.size) hk3 hk9
  unfold xcells Ex.zeros at p0 p1 p2 hz hbw wi
  have hB := hbw.size
  clear ha hb
  unfold xcells
  go_enter Try.func32, Try.ntmps32
  go_wp2_with fail
  refine wi.mono ?_
  rintro e w1 ⟨cs, rfl, hx, hb1⟩
  have p5 := p2.below hb1
  have hb2 := below_next hb1 hbw
  clear wi
  obtain ⟨c0, c1, c2, C3, c4, c5, rfl, -, -⟩ := hx.form
  unfold xcells at hx ⊢
  go_wp2_with (refine wpl_put_blk p5 [.int .i64 c0, .int .i64 c1, .string c2, .slice C3 c4 c5] (by kernel_rfl) rfl (xcells_one c0 c1 c2 C3 c4 c5) rfl rfl rfl rfl ?_; intro w3 hB3 hg3)
  exact ret_blk hB3 rfl rfl Try.underlying38 rfl (by kernel_rfl) rfl ⟨_, rfl, ⟨_, rfl, hx.put p5 hg3⟩, hb2.trans (below_of_grown hg3 hb2.size (by omega))⟩
end Go.Proofs.Ytniekhedpdkmiaa
