/-
  math/bits, walked: OnesCount64, TrailingZeros64.
-/
import Derived.Test.YtcpoglchjkpbpaaDoorBs3
import Derived.Test.YtcpoglchjkpbpaaDoorBsPop
import Derived.Lib.TrailingZeros
namespace Go.Proofs.YtcpoglchjkpbpaaDoor
set_option linter.unusedVariables false
set_option linter.unusedSimpArgs false
set_option maxRecDepth 100000
open Go.RowKit Go.Shelf

theorem wrap_is (n : Int) : IntKind.i64.wrap n = wrap64 n := by
  simp [IntKind.wrap, IntKind.signed, IntKind.bits, wrap64]
  split <;> omega
namespace Bs
open Go.Lib (popAux)
theorem s1_le (m x : Nat) : s1 m x ≤ x / 2 + x := by
  unfold s1
  have := Nat.and_le_left (n := x / 2) (m := m)
  have := Nat.and_le_left (n := x) (m := m)
  omega
theorem s1_lt (m x : Nat) (hm : m ≤ 6148914691236517205) : s1 m x < 18446744073709551616 := by
  unfold s1
  have := Nat.and_le_right (n := x / 2) (m := m)
  have := Nat.and_le_right (n := x) (m := m)
  omega
theorem s2_lt (m x : Nat) (hm : m ≤ 3689348814741910323) : s2 m x ≤ 7378697629483820646 := by
  unfold s2
  have := Nat.and_le_right (n := x / 4) (m := m)
  have := Nat.and_le_right (n := x) (m := m)
  omega
theorem k1 (x : Nat) (hx : x < 18446744073709551616) : IntKind.u64.wrap (bits .and .u64 ((x : Int) / 2) 6148914691236517205 + bits .and .u64 (x : Int) 6148914691236517205) = (s1 6148914691236517205 x : Nat) := by
  have h1 := bits_and_u64_nat (x / 2) 6148914691236517205 (by omega) (by decide)
  have h2 := bits_and_u64_nat x 6148914691236517205 hx (by decide)
  have := s1_lt 6148914691236517205 x (by decide)
  rw [show ((x : Int) / 2) = ((x / 2 : Nat) : Int) by omega]
  rw [show ((6148914691236517205 : Nat) : Int) = 6148914691236517205 from rfl] at h1 h2
  rw [h1, h2, IntKind.wrap_u64]
  unfold s1 at *
  omega
theorem k2 (x : Nat) (hx : x < 18446744073709551616) : IntKind.u64.wrap (bits .and .u64 ((x : Int) / 4) 3689348814741910323 + bits .and .u64 (x : Int) 3689348814741910323) = (s2 3689348814741910323 x : Nat) := by
  have h1 := bits_and_u64_nat (x / 4) 3689348814741910323 (by omega) (by decide)
  have h2 := bits_and_u64_nat x 3689348814741910323 hx (by decide)
  have := s2_lt 3689348814741910323 x (by decide)
  rw [show ((x : Int) / 4) = ((x / 4 : Nat) : Int) by omega]
  rw [show ((3689348814741910323 : Nat) : Int) = 3689348814741910323 from rfl] at h1 h2
  rw [h1, h2, IntKind.wrap_u64]
  unfold s2 at *
  omega
theorem k3 (x : Nat) (hx : x ≤ 7378697629483820646) : bits .and .u64 (IntKind.u64.wrap ((x : Int) / 16 + x)) 1085102592571150095 = (s3 1085102592571150095 x : Nat) := by
  have h1 := bits_and_u64_nat (x / 16 + x) 1085102592571150095 (by omega) (by decide)
  rw [show IntKind.u64.wrap ((x : Int) / 16 + x) = ((x / 16 + x : Nat) : Int) by rw [IntKind.wrap_u64]; omega]
  exact h1
theorem mask_is : mask 85 8 = 6148914691236517205 ∧ mask 51 8 = 3689348814741910323 ∧ mask 15 8 = 1085102592571150095 := by decide +kernel
theorem k7 (x : Nat) (hx : x < 18446744073709551616) : bits .and .i64 (IntKind.i64.wrap (x : Int)) 127 = ((x % 128 : Nat) : Int) := by
  have h1 : (BitVec.ofInt 64 (IntKind.i64.wrap (x : Int))).toNat = x := by
    rw [show BitVec.ofInt 64 (IntKind.i64.wrap (x : Int)) = BitVec.ofInt 64 (x : Int) by
      apply BitVec.eq_of_toInt_eq
      rw [BitVec.toInt_ofInt, BitVec.toInt_ofInt]
      have : IntKind.i64.wrap (x : Int) = (x : Int) ∨ IntKind.i64.wrap (x : Int) = (x : Int) - 18446744073709551616 := by
        simp [IntKind.wrap, IntKind.signed, IntKind.bits]
        split <;> omega
      rcases this with h | h
      · rw [h]
      · rw [h]
        simp only [Int.bmod]
        omega]
    rw [BitVec.ofInt_natCast, BitVec.toNat_ofNat]
    exact Nat.mod_eq_of_lt (by omega)
  have h2 : (BitVec.ofInt 64 127).toNat = 2 ^ 7 - 1 := rfl
  show IntKind.i64.wrap ((BitVec.ofInt 64 (IntKind.i64.wrap (x : Int)) &&& BitVec.ofInt 64 127).toNat : Int) = _
  rw [BitVec.toNat_and, h1, h2, Nat.and_two_pow_sub_one_eq_mod]
  simp only [Nat.reducePow]
  simp [IntKind.wrap, IntKind.signed, IntKind.bits]
  split <;> omega
theorem pop64 (x : Nat) : ∃ p0 p1 p2 p3 p4 p5 p6 p7 : Nat, p0 ≤ 8 ∧ p1 ≤ 8 ∧ p2 ≤ 8 ∧ p3 ≤ 8 ∧ p4 ≤ 8 ∧ p5 ≤ 8 ∧ p6 ≤ 8 ∧ p7 ≤ 8 ∧ popAux 64 x = p0 + p1 + p2 + p3 + p4 + p5 + p6 + p7 ∧
    bytes 8 x = p0 + 256 * p1 + 65536 * p2 + 16777216 * p3 + 4294967296 * p4 + 1099511627776 * p5 + 281474976710656 * p6 + 72057594037927936 * p7 := by
  refine ⟨popAux 8 (x % 256), popAux 8 (x / 256 % 256), popAux 8 (x / 256 / 256 % 256), popAux 8 (x / 256 / 256 / 256 % 256), popAux 8 (x / 256 / 256 / 256 / 256 % 256), popAux 8 (x / 256 / 256 / 256 / 256 / 256 % 256), popAux 8 (x / 256 / 256 / 256 / 256 / 256 / 256 % 256), popAux 8 (x / 256 / 256 / 256 / 256 / 256 / 256 / 256 % 256), pop_le _ _, pop_le _ _, pop_le _ _, pop_le _ _, pop_le _ _, pop_le _ _, pop_le _ _, pop_le _ _, ?_, ?_⟩
  · have st : ∀ (b y : Nat), popAux (8 + b) y = popAux 8 (y % 256) + popAux b (y / 256) := fun b y => by
      rw [pop_add, pop_mod 8 y]
    have z : ∀ y, popAux 0 y = 0 := fun _ => rfl
    rw [show (64 : Nat) = 8 + 56 from rfl, st, show (56 : Nat) = 8 + 48 from rfl, st, show (48 : Nat) = 8 + 40 from rfl, st, show (40 : Nat) = 8 + 32 from rfl, st, show (32 : Nat) = 8 + 24 from rfl, st, show (24 : Nat) = 8 + 16 from rfl, st, show popAux 16 (x / 256 / 256 / 256 / 256 / 256 / 256) = popAux (8 + 8) _ from rfl, st, pop_mod 8 (x / 256 / 256 / 256 / 256 / 256 / 256 / 256)]
    simp only [Nat.reducePow]
    omega
  · simp only [bytes]
    omega
theorem t4 (p0 p1 p2 p3 p4 p5 p6 p7 d S M : Nat)
    (hM : M = 33554432 * ((p4 + p5 + p6 + p7) + 256 * (p5 + p6 + p7) + 65536 * (p6 + p7) + 16777216 * p7) + (2 * (p1 + p2 + p3 + p4) + 512 * (p2 + p3 + p4 + p5) + 131072 * (p3 + p4 + p5 + p6)) + (2 * (p5 + p6 + p7) + 512 * (p6 + p7) + 131072 * p7))
    (hS : S = p0 + p1 + p2 + p3 + p4 + p5 + p6 + p7)
    (hd' : d = 4294967296 * ((p4 + p5 + p6 + p7) + 256 * (p5 + p6 + p7) + 65536 * (p6 + p7) + 16777216 * p7) + ((p0 + p1 + p2 + p3) + 256 * (p1 + p2 + p3 + p4) + 65536 * (p2 + p3 + p4 + p5) + 16777216 * (p3 + p4 + p5 + p6))) :
    d + ((p4 + p5 + p6 + p7) + 256 * (p5 + p6 + p7) + 65536 * (p6 + p7) + 16777216 * p7) = S + 128 * M := by omega
theorem t5 (S M : Nat) (h : S ≤ 64) : (S + 128 * M) % 128 = S := by
  rw [Nat.add_mul_mod_self_left]
  exact Nat.mod_eq_of_lt (by omega)
theorem last_sum (x : Nat) : (bytes 8 x + bytes 8 x / 256 + (bytes 8 x + bytes 8 x / 256) / 65536 + (bytes 8 x + bytes 8 x / 256 + (bytes 8 x + bytes 8 x / 256) / 65536) / 4294967296) % 128 = popAux 64 x ∧ bytes 8 x ≤ 578721382704613384 := by
  obtain ⟨p0, p1, p2, p3, p4, p5, p6, p7, h0, h1, h2, h3, h4, h5, h6, h7, e, eb⟩ := pop64 x
  refine ⟨?_, by rw [eb]; omega⟩
  rw [e]
  generalize bytes 8 x = b at eb ⊢
  have dv : ∀ (m K r : Nat), r < m → (m * K + r) / m = K := fun m K r hr => by
    rw [Nat.mul_add_div (by omega), Nat.div_eq_of_lt hr, Nat.add_zero]
  have d1 : b / 256 = p1 + 256 * p2 + 65536 * p3 + 16777216 * p4 + 4294967296 * p5 + 1099511627776 * p6 + 281474976710656 * p7 := by
    rw [eb, show p0 + 256 * p1 + 65536 * p2 + 16777216 * p3 + 4294967296 * p4 + 1099511627776 * p5 + 281474976710656 * p6 + 72057594037927936 * p7 = 256 * (p1 + 256 * p2 + 65536 * p3 + 16777216 * p4 + 4294967296 * p5 + 1099511627776 * p6 + 281474976710656 * p7) + p0 by omega]
    exact dv _ _ _ (by omega)
  obtain ⟨c, hc⟩ : ∃ c, c = b + b / 256 := ⟨_, rfl⟩
  rw [← hc]
  rw [d1, eb] at hc
  have hc' : c = 65536 * ((p2 + p3) + 256 * (p3 + p4) + 65536 * (p4 + p5) + 16777216 * (p5 + p6) + 4294967296 * (p6 + p7) + 1099511627776 * p7) + ((p0 + p1) + 256 * (p1 + p2)) := by omega
  have d2 : c / 65536 = (p2 + p3) + 256 * (p3 + p4) + 65536 * (p4 + p5) + 16777216 * (p5 + p6) + 4294967296 * (p6 + p7) + 1099511627776 * p7 := by
    rw [hc']
    exact dv _ _ _ (by omega)
  obtain ⟨d, hd⟩ : ∃ d, d = c + c / 65536 := ⟨_, rfl⟩
  rw [← hd]
  rw [d2, hc'] at hd
  have hd' : d = 4294967296 * ((p4 + p5 + p6 + p7) + 256 * (p5 + p6 + p7) + 65536 * (p6 + p7) + 16777216 * p7) + ((p0 + p1 + p2 + p3) + 256 * (p1 + p2 + p3 + p4) + 65536 * (p2 + p3 + p4 + p5) + 16777216 * (p3 + p4 + p5 + p6)) := by omega
  have d3 : d / 4294967296 = (p4 + p5 + p6 + p7) + 256 * (p5 + p6 + p7) + 65536 * (p6 + p7) + 16777216 * p7 := by
    rw [hd']
    exact dv _ _ _ (by omega)
  obtain ⟨M, hM⟩ : ∃ M, M = 33554432 * ((p4 + p5 + p6 + p7) + 256 * (p5 + p6 + p7) + 65536 * (p6 + p7) + 16777216 * p7) + (2 * (p1 + p2 + p3 + p4) + 512 * (p2 + p3 + p4 + p5) + 131072 * (p3 + p4 + p5 + p6)) + (2 * (p5 + p6 + p7) + 512 * (p6 + p7) + 131072 * p7) := ⟨_, rfl⟩
  obtain ⟨S, hS⟩ : ∃ S, S = p0 + p1 + p2 + p3 + p4 + p5 + p6 + p7 := ⟨_, rfl⟩
  have h9 : d + d / 4294967296 = S + 128 * M := by
    rw [d3]
    exact t4 p0 p1 p2 p3 p4 p5 p6 p7 d S M hM hS hd'
  rw [h9, ← hS]
  exact t5 S M (by clear hM hd hd' hc hc' eb d1 d2 d3 h9 e; omega)
end Bs

theorem ones_any (w : World) (x : Nat) (hx : x < 18446744073709551616) :
    Calls Tryd.prog 61 #[.int .u64 x] w fun e w' => e = .returned (.int .i64 (Go.Lib.popAux 64 x : Nat)) ∧ w = w' := by
  have H := Lib.hid hx
  clear hx
  go_enter Tryd.func61, Tryd.ntmps61
  go_wp2
  go_ret
  refine ⟨?_, rfl⟩
  have hx := H.out
  obtain ⟨m1, m2, m3⟩ := Bs.mask_is
  have hs := (Bs.side 8 x (by simpa using hx)).2
  rw [m1, m2, m3] at hs
  rw [Bs.k1 x hx, Bs.k2 _ (Bs.s1_lt _ x (by decide)), Bs.k3 _ (Bs.s2_lt _ _ (by decide)), hs]
  obtain ⟨hl, hb⟩ := Bs.last_sum x
  have e4 : IntKind.u64.wrap ((Bs.bytes 8 x : Nat) + ((Bs.bytes 8 x : Nat) : Int) / 256) = ((Bs.bytes 8 x + Bs.bytes 8 x / 256 : Nat) : Int) := by rw [IntKind.wrap_u64]; omega
  rw [e4]
  generalize Bs.bytes 8 x = b at hl hb ⊢
  obtain ⟨c, hc⟩ : ∃ c, c = b + b / 256 := ⟨_, rfl⟩
  have hcb : c ≤ 1157442765409226768 := by omega
  rw [← hc] at hl ⊢
  have e5 : IntKind.u64.wrap ((c : Int) + (c : Int) / 65536) = ((c + c / 65536 : Nat) : Int) := by rw [IntKind.wrap_u64]; omega
  rw [e5]
  obtain ⟨d, hd⟩ : ∃ d, d = c + c / 65536 := ⟨_, rfl⟩
  have hdb : d ≤ 1257442765409226768 := by omega
  rw [← hd] at hl ⊢
  have e6 : IntKind.u64.wrap ((d : Int) + (d : Int) / 4294967296) = ((d + d / 4294967296 : Nat) : Int) := by rw [IntKind.wrap_u64]; omega
  rw [e6, ← hl]
  refine ret_int ?_
  have h7 := Bs.k7 (d + d / 4294967296) (by clear hl hd e4 e5 e6 hc; omega)
  rw [wrap_is] at h7
  exact h7
end Go.Proofs.YtcpoglchjkpbpaaDoor
