/-
  slices.Backward over bindings: a range over a function.
-/
import Derived.WalkKit
import Derived.ProofKit
import Derived.SizedLaws
import Derived.Deep.Slices
import Derived.Lib.Hide
import Derived.BigQuiet
import Derived.Deep.QuietTactic
import Derived.Deep.RegionHeld3
import Derived.Deep.AppendLies
import Derived.Maps.AppendAt
import Derived.WalkSpells
import Derived.ChangeKeysEq
import Derived.Test.YtkjmddgnfgbioaaDoorRows
import Derived.Orders
import Derived.StillTail
import Derived.Test.YtkjmddgnfgbioaaDoorChecked
import Derived.Deep.RegionWith
import Derived.RangeFuncNested
import Derived.RangeFuncBound
import Derived.RangeFuncCalls
import Derived.RangeFuncLeaves
import Derived.Shelf.Abstract
import Derived.Shelf.RegionOpen
import Derived.OwnWalkIn
import Derived.TacticsInMore
import Derived.LoopNIn
import Derived.LoopIn

namespace Go.Proofs.YtkjmddgnfgbioaaDoor
set_option linter.unusedVariables false
set_option linter.unusedSimpArgs false
set_option maxRecDepth 100000
open Go.ChangeShapes Go.WideShapes Go.ChangeAt Go.RowKit

/-- The cells of a slice's elements lie at its address, below block B. -/
def Cells (w : World) (B : Nat) (A : Option Addr) (vs : List Value) : Prop :=
  ∃ b o, (vs ≠ [] → A = some ⟨b, o, none⟩ ∧ b < B) ∧ ∀ j u, vs[j]? = some u → w.cell? ⟨b, o + j, none⟩ = some u

/-- A slice value of n elements, each of sz cells, that reads as the cells vs. -/
def SlV (w : World) (sz : Nat) (v : Value) (n : Nat) (vs : List Value) : Prop :=
  ∃ A c, v = .slice A n c ∧ n ≤ c ∧ c ≤ maxLen ∧ vs.length = n * sz ∧ Cells w w.heap.size A vs

/-- a slice's length, for a loop's measure -/
def slLen : Value → Nat | .slice _ n _ => n | _ => 0

def ints (k : IntKind) (xs : List Int) : List Value := xs.map (Value.int k)

def Wfs (k : IntKind) (xs : List Int) : Prop := ∀ x ∈ xs, (Lit.int k x).wf = true

def SlI (k : IntKind) (w : World) (v : Value) (xs : List Int) : Prop := SlV w 1 v xs.length (ints k xs) ∧ Wfs k xs

theorem ints_length (k : IntKind) (xs : List Int) : (ints k xs).length = xs.length := by simp [ints]
theorem ints_get (k : IntKind) (xs : List Int) (j : Nat) (h : j < xs.length) : (ints k xs)[j]? = some (.int k (xs.getD j 0)) := by
  simp [ints, List.getD, List.getElem?_eq_getElem h]

theorem Cells.nil (w : World) (B : Nat) (A : Option Addr) : Cells w B A [] := ⟨0, 0, fun h => absurd rfl h, fun j u h => by simp at h⟩

theorem Cells.keep {w w' : World} {B B' : Nat} {A : Option Addr} {vs : List Value} (h : Cells w B A vs) (hB : B ≤ B') (hk : ∀ p : Addr, p.block < B → w'.cell? p = w.cell? p) : Cells w' B' A vs := by
  obtain ⟨b, o, h1, h2⟩ := h
  refine ⟨b, o, fun hne => ⟨(h1 hne).1, Nat.lt_of_lt_of_le (h1 hne).2 hB⟩, fun j u hu => ?_⟩
  have hne : vs ≠ [] := by intro h0; subst h0; simp at hu
  exact (hk _ (h1 hne).2).trans (h2 j u hu)

theorem Cells.below {w w' : World} {B : Nat} {A : Option Addr} {vs : List Value} (h : Cells w B A vs) (hb : Below B w w') (hB : B ≤ w'.heap.size) : Cells w' w'.heap.size A vs :=
  h.keep hB fun _ hp => hb.cell hp

theorem SlV.below {w w' : World} {sz n : Nat} {v : Value} {vs : List Value} (h : SlV w sz v n vs) (hb : Below w.heap.size w w') : SlV w' sz v n vs := by
  obtain ⟨A, c, h1, h2, h3, h4, h5⟩ := h
  exact ⟨A, c, h1, h2, h3, h4, h5.below hb hb.size⟩

theorem SlI.below {w w' : World} {k : IntKind} {v : Value} {xs : List Int} (h : SlI k w v xs) (hb : Below w.heap.size w w') : SlI k w' v xs := ⟨h.1.below hb, h.2⟩

theorem SlV.alloc {w : World} {sz n : Nat} {v : Value} {vs : List Value} (h : SlV w sz v n vs) (o : Obj) : SlV (w.alloc o) sz v n vs := h.below ((Below.refl _ _).alloc (Nat.le_refl _) o)
theorem SlI.alloc {w : World} {k : IntKind} {v : Value} {xs : List Int} (h : SlI k w v xs) (o : Obj) : SlI k (w.alloc o) v xs := ⟨h.1.alloc o, h.2⟩

theorem SlV.step {w w' : World} {sz n : Nat} {v : Value} {vs : List Value} (hb : Below w.heap.size w w') (h : SlV w sz v n vs) : SlV w' sz v n vs := h.below hb
theorem SlI.step {w w' : World} {k : IntKind} {v : Value} {xs : List Int} (hb : Below w.heap.size w w') (h : SlI k w v xs) : SlI k w' v xs := h.below hb

theorem below_next {w w1 w2 : World} (hb : Below w1.heap.size w1 w2) (h : Below w.heap.size w w1) : Below w.heap.size w w2 := h.trans (hb.mono h.size)
theorem below_alloc {w w1 : World} (h : Below w.heap.size w w1) (o : Obj) : Below w.heap.size w (w1.alloc o) := h.alloc h.size o
theorem below_drew {w w1 : World} (h : Below w.heap.size w w1) : Below w.heap.size w w1.drew := h.drew

theorem SlV.nil (w : World) (sz : Nat) : SlV w sz (.slice none 0 0) 0 [] := ⟨none, 0, rfl, Nat.le_refl _, Nat.zero_le _, by simp, Cells.nil _ _ _⟩
theorem SlI.nil (k : IntKind) (w : World) : SlI k w (.slice none 0 0) [] := ⟨SlV.nil w 1, fun x h => by simp at h⟩

theorem Cells.of_own {w : World} {base : Nat} {e : TypeId} {size n c : Nat} {A : Option Addr} {xs : List Value} (h : w.ownsRow base e size (.slice A n c) n xs) : Cells w w.heap.size A xs := by
  rcases h.2 with ⟨h1, h2⟩ | ⟨g, cap, cur, hv, _, hg, _, _, _, _⟩
  · have : xs = [] := List.eq_nil_of_length_eq_zero (by rw [h.1, h2]; simp)
    subst this
    exact Cells.nil _ _ _
  · have hA : A = some ⟨g, 0, none⟩ := by injection hv
    subst hA
    refine ⟨g, 0, fun _ => ⟨rfl, (Array.getElem?_eq_some_iff.1 hg).1⟩, fun j u hu => ?_⟩
    have := h.cells (g := g) rfl j u hu
    rw [Nat.zero_add]
    rwa [show ((⟨g, 0, none⟩ : Addr).add j) = ⟨g, j, none⟩ from by unfold Addr.add; split <;> simp_all] at this

theorem SlV.of_own {w : World} {base : Nat} {e : TypeId} {size n : Nat} {v : Value} {xs : List Value} (h : w.ownsRow base e size v n xs) : SlV w size v n xs := by
  have h' := h
  rcases h'.2 with ⟨rfl, rfl⟩ | ⟨g, cap, cur, rfl, _, _, hle, hm, _, _⟩
  · exact ⟨none, 0, rfl, Nat.le_refl _, Nat.zero_le _, h'.1, Cells.of_own h⟩
  · exact ⟨_, cap, rfl, hle, hm, h'.1, Cells.of_own h⟩

theorem SlI.of_own {w : World} {base : Nat} {e : TypeId} {k : IntKind} {v : Value} {xs : List Int} (h : w.ownsRow base e 1 v xs.length (ints k xs)) (hw : Wfs k xs) : SlI k w v xs := ⟨SlV.of_own h, hw⟩

theorem below_drewN {B : Nat} {a w : World} (h : Below B a w) (n : Nat) : Below B a (w.drewN n) := ⟨h.os, h.tape, h.output, h.size, h.block⟩

theorem run_max_two {P : Program} (w : World) (ts : Array TypeId) (t : TypeId) (k k' : IntKind) (x y : Int) : (Builtin.max_ ts t #[.int k x, .int k' y]).run P w = .ok (.int k (max x y)) w := by
  have : (if y > x then y else x) = max x y := by split <;> omega
  rw [← this]
  rfl
theorem run_min_two {P : Program} (w : World) (ts : Array TypeId) (t : TypeId) (k k' : IntKind) (x y : Int) : (Builtin.min_ ts t #[.int k x, .int k' y]).run P w = .ok (.int k (min x y)) w := by
  have : (if y < x then y else x) = min x y := by split <;> omega
  rw [← this]
  rfl
attribute [go_sem ↓] run_max_two run_min_two

/-- one element's cell -/
theorem Cells.int {w : World} {B : Nat} {A : Option Addr} {xs : List Int} {k : IntKind} (h : Cells w B A (ints k xs)) {j : Nat} (hj : j < xs.length) :
    ∃ b o, A = some ⟨b, o, none⟩ ∧ b < B ∧ ∀ i, i < xs.length → w.cell? ⟨b, o + i, none⟩ = some (.int k (xs.getD i 0)) := by
  obtain ⟨b, o, h1, h2⟩ := h
  have hne : ints k xs ≠ [] := by
    intro h0
    have : xs.length = 0 := by simpa [ints] using congrArg List.length h0
    omega
  obtain ⟨h3, h4⟩ := h1 hne
  exact ⟨b, o, h3, h4, fun i hi => h2 i _ (ints_get k xs i hi)⟩

/-- one element, under a name of its own -/
theorem Cells.one {w : World} {B : Nat} {A : Option Addr} {xs : List Int} {k : IntKind} (h : Cells w B A (ints k xs)) {j : Nat} (hj : j < xs.length) :
    ∃ b o x, A = some ⟨b, o, none⟩ ∧ b < B ∧ Hid (xs[j]? = some x) ∧ w.cell? ⟨b, o + j, none⟩ = some (.int k x) := by
  obtain ⟨b, o, h1, h2, h3⟩ := h.int hj
  exact ⟨b, o, xs[j], h1, h2, List.getElem?_eq_getElem hj, by rw [h3 j hj]; simp [List.getD, List.getElem?_eq_getElem hj]⟩

theorem Wfs.get {k : IntKind} {xs : List Int} (h : Wfs k xs) {j : Nat} (hj : j < xs.length) : (Lit.int k (xs.getD j 0)).wf = true := by
  have e : xs.getD j 0 = xs[j] := by simp [List.getD, List.getElem?_eq_getElem hj]
  rw [e]
  exact h _ (List.getElem_mem hj)

theorem wf_u64 {x : Int} : (Lit.int .u64 x).wf = true ↔ 0 ≤ x ∧ x ≤ 18446744073709551615 := by
  simp [Lit.wf, IntKind.min, IntKind.max, IntKind.signed, IntKind.bits]
theorem wf_i64 {x : Int} : (Lit.int .i64 x).wf = true ↔ -9223372036854775808 ≤ x ∧ x ≤ 9223372036854775807 := by
  simp [Lit.wf, IntKind.min, IntKind.max, IntKind.signed, IntKind.bits]

theorem wrap_u64 (n : Int) : IntKind.u64.wrap n = n % 18446744073709551616 := by
  simp [IntKind.wrap, IntKind.bits, IntKind.signed]
theorem ints_set (k : IntKind) (xs : List Int) (i : Nat) (x : Int) : ints k (xs.set i x) = (ints k xs).set i (.int k x) := by simp [ints, List.map_set]
theorem Wfs.set {k : IntKind} {xs : List Int} (h : Wfs k xs) (i : Nat) {x : Int} (hx : (Lit.int k x).wf = true) : Wfs k (xs.set i x) := by
  intro y hy
  rcases List.mem_or_eq_of_mem_set hy with hy | rfl
  · exact h y hy
  · exact hx
theorem Wfs.append {k : IntKind} {xs ys : List Int} (h : Wfs k xs) (h' : Wfs k ys) : Wfs k (xs ++ ys) := by
  intro y hy
  rcases List.mem_append.1 hy with hy | hy
  · exact h y hy
  · exact h' y hy
theorem Wfs.replicate {k : IntKind} {x : Int} (hx : (Lit.int k x).wf = true) (n : Nat) : Wfs k (List.replicate n x) := by
  intro y hy
  rw [(List.mem_replicate.1 hy).2]
  exact hx

theorem ret_int {k : IntKind} {a b : Int} (h : a = b) : Ending.returned (.int k a) = .returned (.int k b) := by rw [h]
theorem ret_bool {a b : Bool} (h : a = b) : Ending.returned (.bool a) = .returned (.bool b) := by rw [h]

theorem Cells.take {w : World} {B : Nat} {A : Option Addr} {vs : List Value} (h : Cells w B A vs) (k : Nat) : Cells w B A (vs.take k) := by
  obtain ⟨b, o, h1, h2⟩ := h
  refine ⟨b, o, fun hne => h1 (fun h0 => hne (by rw [h0]; simp)), fun j u hu => h2 j u ?_⟩
  rw [List.getElem?_take] at hu
  split at hu
  · exact hu
  · cases hu

/-- the first k elements -/
theorem SlI.take {k : IntKind} {w : World} {A : Option Addr} {n c : Nat} {xs ys : List Int} (h : SlI k w (.slice A n c) xs) (j : Nat) (hy : ys = xs.take j) (hj : j ≤ xs.length) : SlI k w (.slice A ys.length c) ys := by
  obtain ⟨⟨A', c', he, h1, h2, h3, h4⟩, h5⟩ := h
  injection he with e1 e2 e3
  subst e1 e3
  have hl : ys.length ≤ xs.length := by rw [hy]; simp; omega
  refine ⟨⟨A, c, rfl, by omega, h2, by simp [ints], ?_⟩, fun x hx => h5 x ?_⟩
  · have : ints k ys = (ints k xs).take j := by rw [hy]; simp [ints, List.map_take]
    rw [this]
    exact h4.take j
  · rw [hy] at hx
    exact List.mem_of_mem_take hx

/-- 'make([]T, n)' -/
theorem wp_make {P : Program} (w : World) {ops : Array Oper} {rest : List Oper} {o : Oper} {a : Act} {Q : Exit → Act → World → Prop}
    (t e : TypeId) (z : Value) (bytes : Nat) (n : Nat) (ht : P.underlying t = some (.slice e)) (hinfo : (P.info? e).map (fun i => (i.zero, i.size, i.bytes)) = some (some z, 1, bytes)) (hz : z.cells = #[z])
    {L C : Int} (hL : L = (n : Int)) (hC : C = (n : Int)) (b2 : bytes * n ≤ 281474976710656) (b3 : n ≤ 9223372036854775807)
    {l c : Operand} {kl kc : IntKind} (hg : o.guard = none) (hop : o.op = Op.makeSlice t l c) (hl : a.eval l = .int kl L) (hc : a.eval c = .int kc C)
    (hK : ∀ w', w'.ownsRow w.heap.size e 1 (.slice (some ⟨w.heap.size, 0, none⟩) n n) n (List.replicate n z) → Below w.heap.size w w' → w'.heap.size = w.heap.size + 1 → wpList P ops Q rest (a.put o.dst (.slice (some ⟨w.heap.size, 0, none⟩) n n)) w') :
    wpList P ops Q (o :: rest) a w := by
  obtain ⟨i, hi, hz0, hz1, hz2⟩ := info_parts hinfo
  refine wpList_plain hg fun K hK' => ?_
  subst hL
  subst hC
  have h63' : (n : Int) ≤ 9223372036854775807 := by omega
  have hb' : (i.bytes : Int) * (n : Int) ≤ 281474976710656 := by
    have h : ((i.bytes * n : Nat) : Int) ≤ 281474976710656 := by rw [hz2]; omega
    rwa [Int.natCast_mul] at h
  have hr := run_make (P := P) w t e i z ht hi hz0 kl kc n n (by omega) (Int.le_refl _) hb' h63'
  simp only [Int.toNat_natCast, hz1, hz, Nat.mul_one] at hr
  unfold Oper.wp
  simp [execOp, hop, hl, hc, hr, Result.andThen]
  refine hK' _ _ (hK _ ?_ ((Below.refl _ _).alloc (Nat.le_refl _) _) (by simp))
  have := World.ownsRow_lit (e := e) (size := 1) (base := w.heap.size) w (madeCells #[z] n) n (Nat.le_refl _) (by unfold maxLen; omega) (by simp [madeCells])
  rwa [toList_madeCells_one] at this

theorem Cells.new (w : World) (vs : List Value) (e : TypeId) : Cells (w.alloc (.cells vs.toArray e)) (w.heap.size + 1) (some ⟨w.heap.size, 0, none⟩) vs := by
  refine ⟨w.heap.size, 0, fun _ => ⟨rfl, by omega⟩, fun j u hu => ?_⟩
  rw [cell_of_row _ _ _ _ _ _ (heap_alloc_new w (.cells vs.toArray e))]
  simpa using hu

theorem run_append_nil_src {P : Program} (w : World) (base : Nat) (t ty e : TypeId) (i : TypeInfo) (size : Nat) (ht : P.underlying t = some (.slice e)) (hi : P.info? e = some i)
    (v : Value) (n : Nat) (xs : List Value) (hown : w.ownsRow base e size v n xs) (c : Nat) : (Builtin.append_ #[t, t] ty #[v, .slice none 0 c]).run P w = .ok v w := by
  rcases hown.2 with ⟨rfl, rfl⟩ | ⟨g, cap, cur, rfl, _, _, hnc, _⟩
  · simp [Builtin.append_, run_underlying ht, sizeOf, typeInfo, hi, Builtin.lenOf, Builtin.firstCells]
  · simp [Builtin.append_, run_underlying ht, sizeOf, typeInfo, hi, Builtin.lenOf, Builtin.firstCells, hnc, storeCells]

/-- 'append(v, src...)', v nil or the call's own, src whatever -/
theorem run_append {P : Program} (w : World) (base : Nat) (t ty e : TypeId) (z : Value) (size bytes : Nat) (ht : P.underlying t = some (.slice e)) (hinfo : (P.info? e).map (fun i => (i.zero, i.size, i.bytes)) = some (some z, size, bytes)) (hz : z.cells.size = size) (hsz : 0 < size)
    (v : Value) (n : Nat) (xs : List Value) (hown : w.ownsRow base e size v n xs) (B : Nat) (A : Option Addr) (m c : Nat) (news : List Value) (hlen : news.length = m * size) (hcs : Cells w B A news) (h1 : ∀ u ∈ news, u.oneCell' = true)
    (h63 : n + m ≤ maxLen) (hbytes : (n + m) * bytes ≤ 140737488355328) (hbase : base ≤ w.heap.size) :
    ∃ v' w', (Builtin.append_ #[t, t] ty #[v, .slice A m c]).run P w = .ok v' w' ∧ w'.ownsRow base e size v' (n + m) (xs ++ news) ∧ w.grownBy w' v.ownBlock ∧ (v'.ownBlock = v.ownBlock ∨ v'.ownBlock = some w.heap.size) := by
  obtain ⟨i, hi, hz0, hz1, hz2⟩ := info_parts hinfo
  by_cases hm : m = 0
  · subst hm
    have hn : news = [] := List.eq_nil_of_length_eq_zero (by simpa using hlen)
    subst hn
    rcases A with _ | ad
    · exact ⟨v, w, run_append_nil_src w base t ty e i size ht hi v n xs hown c, by simpa using hown, World.grownBy.refl w _, .inl rfl⟩
    · obtain ⟨v', w', hrun, h2, h3, _, h5⟩ := run_append_own_at (P := P) w base t ty e i z size bytes ht hi hz0 hz1 hz2 hz hsz v n xs hown ad 0 c [] hlen (by simp) h1 h63 hbytes hbase
      exact ⟨v', w', hrun, h2, h3, h5⟩
  · obtain ⟨b, o, hA, hcell⟩ := hcs
    have hne : news ≠ [] := by
      intro h0
      rw [h0] at hlen
      have : 0 < m * size := Nat.mul_pos (by omega) hsz
      simp at hlen
      omega
    obtain ⟨rfl, _⟩ := hA hne
    obtain ⟨v', w', hrun, h2, h3, _, h5⟩ := run_append_own_at (P := P) w base t ty e i z size bytes ht hi hz0 hz1 hz2 hz hsz v n xs hown ⟨b, o, none⟩ m c news hlen (fun j u hu => by rw [Addr.add_lit]; exact hcell j u hu) h1 h63 hbytes hbase
    exact ⟨v', w', hrun, h2, h3, h5⟩

theorem own_ge {w : World} {base : Nat} {e : TypeId} {size : Nat} {v : Value} {n : Nat} {xs : List Value} (h : w.ownsRow base e size v n xs) : ∀ k, v.ownBlock = some k → base ≤ k := fun k hk => (h.lt k hk).1

theorem own_slice {w : World} {base : Nat} {e : TypeId} {size : Nat} {v : Value} {n : Nat} {xs : List Value} (h : w.ownsRow base e size v n xs) : ∃ A c, v = .slice A n c ∧ n ≤ c ∧ c ≤ maxLen := by
  rcases h.2 with ⟨rfl, rfl⟩ | ⟨g, cap, cur, rfl, _, _, hle, hm, _, _⟩
  · exact ⟨none, 0, rfl, Nat.le_refl _, Nat.zero_le _⟩
  · exact ⟨_, cap, rfl, hle, hm⟩
theorem own_addr {w : World} {base : Nat} {e : TypeId} {size : Nat} {v : Value} {n : Nat} {xs : List Value} (h : w.ownsRow base e size v n xs) (hn : 0 < n) : ∃ g c, v = .slice (some ⟨g, 0, none⟩) n c ∧ n ≤ c ∧ c ≤ maxLen ∧ base ≤ g ∧ g < w.heap.size := by
  rcases h.2 with ⟨rfl, rfl⟩ | ⟨g, cap, cur, rfl, hb, hg, hle, hm, _, _⟩
  · omega
  · exact ⟨g, cap, rfl, hle, hm, hb, (Array.getElem?_eq_some_iff.1 hg).1⟩

theorem own_len {w : World} {base : Nat} {e : TypeId} {size : Nat} {v : Value} {n : Nat} {xs : List Value} (h : w.ownsRow base e size v n xs) : slLen v = n := by
  obtain ⟨A, c, rfl, _, _⟩ := own_slice h
  rfl

theorem wp_append {P : Program} (w : World) {ops : Array Oper} {rest : List Oper} {o : Oper} {a : Act} {Q : Exit → Act → World → Prop} (s x : Operand)
    (base t e : TypeId) (z : Value) (size bytes : Nat) (ht : P.underlying t = some (.slice e)) (hinfo : (P.info? e).map (fun i => (i.zero, i.size, i.bytes)) = some (some z, size, bytes)) (hz : z.cells.size = size) (hsz : 0 < size)
    {v : Value} {n : Nat} {xs : List Value} (hown : w.ownsRow base e size v n xs) {B : Nat} {A : Option Addr} {m c : Nat} {news : List Value} (hcs : Cells w B A news) (hlen : news.length = m * size) (h1 : ∀ u ∈ news, u.oneCell' = true)
    (h63 : n + m ≤ maxLen) (hbytes : (n + m) * bytes ≤ 140737488355328) (hbase : base ≤ w.heap.size)
    (hgd : o.guard = none) (ho : o.op = .call { callee := .builtin .append, args := #[s, x], argTypes := #[t, t] }) (hs : a.eval s = v) (hx : a.eval x = .slice A m c)
    (h : ∀ v' w', w'.ownsRow base e size v' (n + m) (xs ++ news) → w.grownBy w' v.ownBlock → (v'.ownBlock = v.ownBlock ∨ v'.ownBlock = some w.heap.size) → Below base w w' → wpList P ops Q rest (a.put o.dst v') w') : wpList P ops Q (o :: rest) a w := by
  refine wpList_plain hgd fun _ hK => ?_
  obtain ⟨v', w', hrun, h2, h3, h4⟩ := run_append (P := P) w base t o.type e z size bytes ht hinfo hz hsz v n xs hown B A m c news hlen hcs h1 h63 hbytes hbase
  unfold Oper.wp execOp
  simp only [ho, resolve, invoke, builtin, Sem.run_bind, Sem.run_pure, Result.andThen_ok, List.map_toArray, List.map_cons, List.map_nil, hs, hx, hrun]
  exact hK _ _ (h v' w' h2 h3 h4 ((Below.refl _ _).grown h3 hbase (own_ge hown)))

/-- 'append(v, x)': the one element lies in a block of its own -/
theorem wp_push {P : Program} (w : World) {ops : Array Oper} {rest : List Oper} {o : Oper} {a : Act} {Q : Exit → Act → World → Prop} (s x : Operand)
    (base t e : TypeId) (z : Value) (size bytes : Nat) (ht : P.underlying t = some (.slice e)) (hinfo : (P.info? e).map (fun i => (i.zero, i.size, i.bytes)) = some (some z, size, bytes)) (hz : z.cells.size = size) (hsz : 0 < size)
    {v : Value} {n : Nat} {xs : List Value} (hown : w.ownsRow base e size v n xs) {c : Nat} (news : List Value) (hlen : news.length = 1 * size) (h1 : ∀ u ∈ news, u.oneCell' = true)
    (h63 : n + 1 ≤ maxLen) (hbytes : (n + 1) * bytes ≤ 140737488355328) (hbase : base ≤ w.heap.size)
    (hgd : o.guard = none) (ho : o.op = .call { callee := .builtin .append, args := #[s, x], argTypes := #[t, t] }) (hs : a.eval s = v) (hx : a.eval x = .slice (some ⟨w.heap.size, 0, none⟩) 1 c)
    (h : ∀ v' w', w'.ownsRow base e size v' (n + 1) (xs ++ news) → w.grownBy w' v.ownBlock → (v'.ownBlock = v.ownBlock ∨ v'.ownBlock = some (w.heap.size + 1)) → Below base w w' → wpList P ops Q rest (a.put o.dst v') w') : wpList P ops Q (o :: rest) a (w.alloc (.cells news.toArray e)) := by
  refine wp_append _ s x base t e z size bytes ht hinfo hz hsz (hown.alloc _) (Cells.new w news e) hlen h1 h63 hbytes (Nat.le_trans hbase (by simp)) hgd ho hs hx fun v' w' h2 h3 h4 h5 => ?_
  have hg : w.grownBy w' v.ownBlock :=
    ⟨h3.os, h3.tape, h3.output, Nat.le_trans (by simp) h3.size, fun k hk hne => (h3.block k (by simp; omega) hne).trans (Below.heap_alloc w _ k hk)⟩
  exact h v' w' h2 hg (by simpa using h4) (((Below.refl _ _).alloc hbase _).trans h5)

theorem flat_length {α : Type} (f : α → List Value) (n : Nat) (hf : ∀ a, (f a).length = n) (l : List α) : (l.flatMap f).length = l.length * n := by
  induction l with
  | nil => simp
  | cons a l ih => rw [List.flatMap_cons, List.length_append, hf, ih, List.length_cons, Nat.add_mul]; omega

theorem flat_get {α : Type} (f : α → List Value) (n : Nat) (hf : ∀ a, (f a).length = n) (l : List α) (k j : Nat) (x : α) (hx : l[k]? = some x) (hj : j < n) : (l.flatMap f)[k * n + j]? = (f x)[j]? := by
  induction l generalizing k with
  | nil => simp at hx
  | cons a l ih =>
    rw [List.flatMap_cons]
    rcases k with _ | k
    · simp at hx
      subst hx
      rw [Nat.zero_mul, Nat.zero_add, List.getElem?_append_left (by rw [hf]; exact hj)]
    · have e : (k + 1) * n + j = (f a).length + (k * n + j) := by rw [hf, Nat.add_mul]; omega
      rw [e, List.getElem?_append_right (by omega), Nat.add_sub_cancel_left]
      exact ih k (by simpa using hx)

/-- the address of a slice whose cells are known, and its cells one by one -/
theorem Cells.at_ {w : World} {B : Nat} {A : Option Addr} {vs : List Value} (h : Cells w B A vs) (hne : vs ≠ []) : ∃ b o, A = some ⟨b, o, none⟩ ∧ b < B ∧ ∀ j u, vs[j]? = some u → w.cell? ⟨b, o + j, none⟩ = some u := by
  obtain ⟨b, o, h1, h2⟩ := h
  exact ⟨b, o, (h1 hne).1, (h1 hne).2, h2⟩

theorem own_base {w : World} {base base' : Nat} {e : TypeId} {size : Nat} {v : Value} {n : Nat} {xs : List Value} (h : w.ownsRow base e size v n xs) (hb : base' ≤ base) : w.ownsRow base' e size v n xs := by
  refine ⟨h.1, ?_⟩
  rcases h.2 with h' | ⟨g, cap, cur, h1, h2, h3⟩
  · exact .inl h'
  · exact .inr ⟨g, cap, cur, h1, by omega, h3⟩

/-- an argument that is a slice of integers -/
theorem open_sl {H : Type} {enc : TypeId × Value → H} {P : Program} {w : World} {t e : TypeId} {k : IntKind} {v : Value} {d : DataW H} {ps : List MemPlace} (ht : P.underlying t = some (.slice e)) (he : P.underlying e = some (.int k)) (hc : P.cellsOf e = 1)
    (hv : ∃ a len cap, v = .slice a len cap)
    (h : DataW.Trod enc P w 0 (fun _ => true) true t v d ps) (hlt : ∀ x ∈ ps, x.block < w.heap.size) :
    ∃ xs : List Int, SlI k w v xs ∧ ((d = .nil ∧ xs = []) ∨ ∃ sp : List (DataW H), d = .slice (lits k xs) sp) := by
  obtain ⟨a0, len, cap, rfl⟩ := hv
  obtain ⟨fuel, hf⟩ := h
  rcases open_ints ht he hc hf with ⟨hcs, hx⟩ | ⟨a, len', cap', zs, hcs, _, hl, hm, hz, hx, hcell, hwz⟩
  · simp [Value.cells] at hcs
    obtain ⟨rfl, rfl, rfl⟩ := hcs
    simp only [Prod.mk.injEq] at hx
    exact ⟨[], SlI.nil _ _, .inl ⟨hx.1, rfl⟩⟩
  · simp [Value.cells] at hcs
    obtain ⟨rfl, rfl, rfl⟩ := hcs
    simp only [Prod.mk.injEq] at hx
    simp only [if_true] at hz
    have htl : (zs.take len).length = len := by simp; omega
    refine ⟨zs.take len, ⟨⟨some a, cap, by rw [htl], by omega, hm, by simp [ints], ?_⟩, fun x hx => hwz x (List.mem_of_mem_take hx)⟩, .inr ⟨_, hx.1⟩⟩
    by_cases h0 : zs.take len = []
    · rw [h0]
      exact Cells.nil _ _ _
    · have hl0 : 0 < len := by
        rcases Nat.eq_zero_or_pos len with h | h
        · subst h; simp at h0
        · exact h
      obtain ⟨b, off, spot⟩ := a
      have hspot : spot = none := by simpa [Addr.add] using World.cell?_spot (hcell 0 (by omega))
      subst hspot
      refine ⟨b, off, fun _ => ⟨rfl, hlt (.cell b off) (by rw [hx.2]; exact MemPlace.mem_row.2 ⟨0, by omega, by simp⟩)⟩, fun j u hu => ?_⟩
      have hj : j < len := by
        have := (List.getElem?_eq_some_iff.1 hu).1
        simp [ints] at this
        omega
      have := hcell j (by omega)
      rw [add_plain] at this
      rw [this, ← hu]
      simp [ints, List.getD, hj, List.getElem?_eq_getElem (show j < zs.length by omega)]

/-- all arguments read behind the call as before it -/
theorem trodAll_keep {H : Type} {enc : TypeId × Value → H} {P : Program} (hl : laidOutB P = true) {W W' : World} (hb : Below W.heap.size W W') :
    ∀ (ts : List TypeId) (vs : List Value) (ds : List (DataW H)) (ps : List MemPlace), (∀ t ∈ ts, P.readableRec t = true ∧ t < P.types.size) → (∀ x ∈ ps, x.block < W.heap.size) →
      DataW.TrodAll enc P W 0 (fun _ => true) true ts vs ds ps → DataW.TrodAll enc P W' 0 (fun b => decide (b < W.heap.size)) true ts vs ds ps
  | [], [], [], _, _, _, h => h
  | t :: ts, v :: vs, d :: ds, ps, hts, hlt, h => by
    obtain ⟨p, q, h1, h2, rfl⟩ := h
    exact ⟨p, q, Below.trod hl (hts t (by simp)).1 (hts t (by simp)).2 h1 hb (fun x hx => hlt x (by simp [hx])),
      trodAll_keep hl hb ts vs ds q (fun t' h' => hts t' (by simp [h'])) (fun x hx => hlt x (by simp [hx])) h2, rfl⟩
  | [], _ :: _, _, _, _, _, h => h.elim
  | [], [], _ :: _, _, _, _, h => h.elim
  | _ :: _, [], _, _, _, _, h => h.elim
  | _ :: _, _ :: _, [], _, _, _, h => h.elim

/-- THE END OF A LAW: it returned true, and nothing that was there has turned. -/
theorem post_true {H : Type} {enc : TypeId × Value → H} {P : Program} {f : Func} {s : ChangeSpec} {W W' : World} {args : Array Value} {ds gs : List (DataW H)} {before : List MemPlace} {tb : TypeId}
    (hl : laidOutB P = true) (hres : f.resultTypes = #[tb]) (htb : P.underlying tb = some .bool) (hts : ∀ t ∈ f.params.toList, P.readableRec t = true ∧ t < P.types.size) (hvars : s.vars = [])
    (hfn : s.fn H ds = { results := [.lit (.bool true)], args := ds })
    (hW : DataW.Whole enc P f.params.toList s.vars false W args.toList ds gs before) (hb : Below W.heap.size W W') :
    s.post enc P f false true false false W args (.bool true) W' := by
  have hW' := hW
  obtain ⟨p, q, hA, hV, rfl, _, _⟩ := hW
  have hgs : gs = [] ∧ q = [] := by
    rw [hvars] at hV
    cases gs with
    | nil => exact ⟨rfl, hV⟩
    | cons g gs => exact hV.elim
  obtain ⟨rfl, rfl⟩ := hgs
  have e : s.fn H (ds ++ []) = { results := [.lit (.bool true)], args := ds } := by rw [List.append_nil]; exact hfn
  refine ⟨ds, [], _, [], p, [], hW', ?_, ?_, ?_, hb.frame _, fun h => by cases h⟩
  · rw [e, hres]
    exact trodAll_mk1 (shut_bool htb true)
  · rw [e]
    exact trodAll_keep hl hb _ _ _ _ hts (fun x hx => by simpa using hW'.lt x (by simp [hx])) hA
  · rw [e, hvars]
    rfl

end Go.Proofs.YtkjmddgnfgbioaaDoor


namespace Go.Proofs.YtkjmddgnfgbioaaDoor
set_option linter.unusedVariables false
set_option linter.unusedSimpArgs false
set_option maxRecDepth 100000
open Go.ChangeShapes Go.WideShapes Go.ChangeAt Go.RowKit Go.Deep

/-- every field is an int of one cell, and they lie one behind the other -/
def intFields (P : Program) (fs : Array Field) : Bool :=
  (List.range fs.size).all fun j => match fs[j]? with
    | some f => f.offset == j && P.cellsOf f.type == 1 && (match P.underlying f.type with | some (.int .i64) => true | _ => false)
    | none => false

theorem intFields_at {P : Program} {fs : Array Field} (h : intFields P fs = true) {j : Nat} (hj : j < fs.size) : ∃ f, fs[j]? = some f ∧ f.offset = j ∧ P.cellsOf f.type = 1 ∧ P.underlying f.type = some (.int .i64) := by
  have := List.all_eq_true.1 h j (by simpa using hj)
  rw [Array.getElem?_eq_getElem hj] at this
  simp only [Bool.and_eq_true, beq_iff_eq] at this
  refine ⟨fs[j], Array.getElem?_eq_getElem hj, this.1.1, this.1.2, ?_⟩
  have h3 := this.2
  split at h3
  · assumption
  · cases h3

def irow (r : List Int) : List Value := ints .i64 r

section
variable {H : Type} {enc : TypeId × Value → H} {P : Program} {w : World}

/-- one struct's cells are integers -/
theorem struct_ints {e : TypeId} {fs : Array Field} {n fuel : Nat} {cs : List Value} {x : DataW H × List MemPlace} (he : P.underlying e = some (.struct fs)) (hn : fs.size = n) (hC : P.cellsOf e = n) (hf : intFields P fs = true)
    (h : DataW.trod enc P w 0 (fun _ => true) true fuel e cs = some x) : ∃ r : List Int, r.length = n ∧ cs = irow r ∧ Wfs .i64 r := by
  obtain ⟨xs, m, _, _, hl, hxl, hfs⟩ := DataW.trod_struct he h
  rw [hC] at hl
  have each : ∀ j, j < n → ∃ k : Int, cs[j]? = some (.int .i64 k) ∧ (Lit.int .i64 k).wf = true := by
    intro j hj
    obtain ⟨f, hfj, ho, hc, hu⟩ := intFields_at hf (j := j) (by omega)
    have h1 := hfs j f hfj
    rw [ho, hc] at h1
    have hxj : xs[j]? = some xs[j] := List.getElem?_eq_getElem (by omega)
    rw [hxj] at h1
    obtain ⟨k, hk, _, hw⟩ := DataW.trod_int hu h1
    refine ⟨k, ?_, hw⟩
    have := congrArg (fun l => l[0]?) hk
    simp only [List.getElem?_cons_zero] at this
    rw [← this, List.getElem?_take, if_pos (by decide), List.getElem?_drop, Nat.add_zero]
  refine ⟨(List.range n).map fun j => intOf (cs.getD j undef), by simp, ?_, ?_⟩
  · apply List.ext_getElem?
    intro j
    by_cases hj : j < n
    · obtain ⟨k, hk, _⟩ := each j hj
      rw [hk]
      simp [irow, ints, hj, hk, List.getD, intOf]
    · rw [List.getElem?_eq_none (by omega), List.getElem?_eq_none (by simp [irow, ints]; omega)]
  · intro y hy
    obtain ⟨j, hj, rfl⟩ := List.mem_map.1 hy
    obtain ⟨k, hk, hw⟩ := each j (by simpa using hj)
    simp only [List.getD, hk, Option.getD_some, intOf]
    exact hw

/-- an argument that is a slice of structs of n integers -/
theorem open_rows {t e : TypeId} {fs : Array Field} {n : Nat} {v : Value} {d : DataW H} {ps : List MemPlace} (ht : P.underlying t = some (.slice e)) (he : P.underlying e = some (.struct fs)) (hn : fs.size = n) (hn0 : 0 < n) (hC : P.cellsOf e = n) (hf : intFields P fs = true)
    (hv : ∃ a len cap, v = .slice a len cap) (h : DataW.Trod enc P w 0 (fun _ => true) true t v d ps) (hlt : ∀ x ∈ ps, x.block < w.heap.size) :
    ∃ rs : List (List Int), (∀ r ∈ rs, r.length = n ∧ Wfs .i64 r) ∧ SlV w n v rs.length (rs.flatMap irow) ∧ ((d = .nil ∧ rs = []) ∨ ∃ (el sp : List (DataW H)), d = .slice el sp ∧ el.length = rs.length) := by
  obtain ⟨a0, len, cap, rfl⟩ := hv
  obtain ⟨fuel, hfu⟩ := h
  rcases open_slice ht hfu with ⟨hcs, hx⟩ | ⟨a, len', cap', m, k, D, Pl, hcs, _, hl, hm, hmm, hx, hi⟩
  · simp [Value.cells] at hcs
    obtain ⟨rfl, rfl, rfl⟩ := hcs
    simp only [Prod.mk.injEq] at hx
    exact ⟨[], by simp, SlV.nil _ _, .inl ⟨hx.1, rfl⟩⟩
  · simp [Value.cells] at hcs
    obtain ⟨rfl, rfl, rfl⟩ := hcs
    simp only [Prod.mk.injEq] at hx
    simp only [if_true] at hmm
    rw [hC] at hi hx
    have each : ∀ i, i < len → ∃ r : List Int, (r.length = n ∧ Wfs .i64 r) ∧ w.cells? 0 (a.add (i * n)) n = some (irow r) := by
      intro i hil
      obtain ⟨cs', hc, htr⟩ := hi i (by omega)
      obtain ⟨r, hr, hcr, hw⟩ := struct_ints he hn hC hf htr
      exact ⟨r, ⟨hr, hw⟩, by rw [hc, hcr]⟩
    obtain ⟨f, hff⟩ := choose_lt each
    have hlen : ∀ r ∈ (List.range len).map f, r.length = n ∧ Wfs .i64 r := by
      intro r hr
      obtain ⟨i, hi', rfl⟩ := List.mem_map.1 hr
      exact (hff i (by simpa using hi')).1
    have hflat : (((List.range len).map f).flatMap irow).length = len * n := by
      have : ∀ l : List (List Int), (∀ r ∈ l, r.length = n) → (l.flatMap irow).length = l.length * n := by
        intro l
        induction l with
        | nil => simp
        | cons r l ih =>
          intro hl'
          rw [List.flatMap_cons, List.length_append, ih (fun x hx => hl' x (by simp [hx])), List.length_cons, Nat.add_mul]
          have := hl' r (by simp)
          simp [irow, ints, this]
          omega
      rw [this _ fun r hr => (hlen r hr).1]
      simp
    refine ⟨(List.range len).map f, hlen, ⟨some a, cap, by simp, by simpa using hl, hm, by simpa using hflat, ?_⟩, .inr ⟨_, _, hx.1, by simp⟩⟩
    by_cases h0 : len = 0
    · subst h0
      exact Cells.nil _ _ _
    · obtain ⟨b, off, spot⟩ := a
      have hcell : ∀ i, i < len → ∀ j u, (irow (f i))[j]? = some u → w.cell? ((⟨b, off, spot⟩ : Addr).add (i * n + j)) = some u := by
        intro i hil j u hu
        have hj : j < n := by
          have := (List.getElem?_eq_some_iff.1 hu).1
          have h1 := (hff i hil).1.1
          simp [irow, ints, h1] at this
          exact this
        obtain ⟨_, _, hat⟩ := World.cells?_some (hff i hil).2
        have := hat j hj
        rw [Go.Deep.add_add] at this
        rw [this, hu]
      have hspot : spot = none := by
        have hr := (hff 0 (by omega)).1.1
        have hex : ∃ u, (irow (f 0))[0]? = some u := ⟨_, List.getElem?_eq_getElem (by simp [irow, ints]; omega)⟩
        obtain ⟨u, hu⟩ := hex
        have := hcell 0 (by omega) 0 u hu
        simpa [Addr.add] using World.cell?_spot this
      subst hspot
      refine ⟨b, off, fun _ => ⟨rfl, hlt (.cell b off) (by
        rw [hx.2]
        refine List.mem_append_left _ (MemPlace.mem_row.2 ⟨0, ?_, by simp⟩)
        exact Nat.mul_pos (by omega) hn0)⟩, fun j u hu => ?_⟩
      have hjl : j < len * n := by
        have := (List.getElem?_eq_some_iff.1 hu).1
        omega
      have hq : j / n < len := Nat.div_lt_of_lt_mul (by rw [Nat.mul_comm]; exact hjl)
      have hr : j % n < n := Nat.mod_lt _ hn0
      have hj : j = j / n * n + j % n := by have := Nat.div_add_mod j n; rw [Nat.mul_comm] at this; omega
      have hget : ((List.range len).map f)[j / n]? = some (f (j / n)) := by simp [hq]
      have key : ∀ (l : List (List Int)), (∀ r ∈ l, r.length = n) → ∀ (q s : Nat) (r : List Int), l[q]? = some r → s < n → (l.flatMap irow)[q * n + s]? = (irow r)[s]? := by
        intro l
        induction l with
        | nil => intro _ q s r h'; simp at h'
        | cons r0 l ih =>
          intro hl' q s r h' hs
          have h00 : (irow r0).length = n := by simp [irow, ints, hl' r0 (by simp)]
          rw [List.flatMap_cons]
          rcases q with _ | q
          · simp at h'
            subst h'
            rw [Nat.zero_mul, Nat.zero_add, List.getElem?_append_left (by omega)]
          · have e : (q + 1) * n + s = (irow r0).length + (q * n + s) := by rw [h00, Nat.add_mul]; omega
            rw [e, List.getElem?_append_right (by omega), Nat.add_sub_cancel_left]
            exact ih (fun x hx => hl' x (by simp [hx])) q s r (by simpa using h') hs
      rw [hj, key _ (fun r hr => (hlen r hr).1) _ _ _ hget hr] at hu
      have := hcell _ hq _ _ hu
      rw [← hj, Addr.add_lit] at this
      exact this
end
end Go.Proofs.YtkjmddgnfgbioaaDoor


namespace Go.Proofs.YtkjmddgnfgbioaaDoor
set_option linter.unusedVariables false
set_option linter.unusedSimpArgs false
set_option maxRecDepth 100000
open Go

def fieldsOf (P : Program) (t : TypeId) : Array Field := match P.underlying t with | some (.struct fs) => fs | _ => #[]
end Go.Proofs.YtkjmddgnfgbioaaDoor


namespace Go.Proofs.YtkjmddgnfgbioaaDoor
set_option linter.unusedVariables false
set_option linter.unusedSimpArgs false
set_option maxRecDepth 100000
open Go.ChangeShapes Go.WideShapes Go.ChangeAt Go.RowKit

def Blk (w : World) (g : Nat) (t : TypeId) (cs : List Value) : Prop := w.heap[g]? = some (.cells cs.toArray t (0, 0))

section
variable {w w' : World} {g : Nat} {t : TypeId} {cs : List Value}
theorem Blk.lt (h : Blk w g t cs) : g < w.heap.size := (Array.getElem?_eq_some_iff.1 h).1
theorem Blk.cell (h : Blk w g t cs) (i : Nat) : w.cell? ⟨g, i, none⟩ = cs[i]? := by
  rw [cell_of_row w g i cs.toArray t (0, 0) h]; simp
theorem Blk.frozen (h : Blk w g t cs) (i : Nat) : w.frozen? ⟨g, i, none⟩ = false := frozen_of_row w g i _ t h
theorem Blk.new (w : World) (t : TypeId) (cs : List Value) : Blk (w.alloc (.cells cs.toArray t)) w.heap.size t cs := heap_alloc_new w _
theorem Blk.alloc (h : Blk w g t cs) (o : Obj) : Blk (w.alloc o) g t cs := (Below.heap_alloc w o g h.lt).trans h
theorem Blk.below (h : Blk w g t cs) (hb : Below w.heap.size w w') : Blk w' g t cs := (hb.block g h.lt).trans h
theorem Blk.set_ (h : Blk w g t cs) (i : Nat) (u : Value) : Blk (w.setCell ⟨g, i, none⟩ u) g t (cs.set i u) := by
  have := heap_setCell_same w g i cs.toArray t u h
  unfold Blk
  rw [this]
  simp
theorem Blk.far (h : Blk w g t cs) {p : Addr} (hp : g ≠ p.block) (u : Value) : Blk (w.setCell p u) g t cs := (Below.heap_setCell w p u g hp).trans h
theorem Blk.row (h : Blk w g t cs) (ds : List Value) : Blk (w.setRow g ds.toArray) g t ds := setRow_heap w g cs.toArray _ t _ h
theorem Blk.farRow (h : Blk w g t cs) {k : Nat} (hk : g ≠ k) (ds : Array Value) : Blk (w.setRow k ds) g t cs := (setRow_other w k g ds hk).trans h

theorem Blk.drewN (h : Blk w g t cs) (n : Nat) : Blk (w.drewN n) g t cs := h
theorem Blk.drew (h : Blk w g t cs) : Blk w.drew g t cs := h
theorem grown_undrewN {a b : World} {n : Nat} {r : Option Nat} (h : (a.drewN n).grownBy b r) : a.grownBy b r := ⟨h.os, h.tape, h.output, h.size, h.block⟩
theorem Blk.grown (h : Blk w g t cs) {r : Option Nat} (hg : w.grownBy w' r) (hne : some g ≠ r) : Blk w' g t cs := (hg.block g h.lt hne).trans h

theorem grown_setRow (w : World) (g : Nat) (ds : Array Value) : w.grownBy (w.setRow g ds) (some g) := ⟨rfl, rfl, rfl, by simp, fun k _ hk => setRow_other w g k ds (fun e => hk (by simp [e]))⟩
theorem grown_setCell (w : World) (g i : Nat) (u : Value) : w.grownBy (w.setCell ⟨g, i, none⟩ u) (some g) := ⟨rfl, rfl, rfl, by simp [World.setCell], fun k _ hk => Below.heap_setCell w _ u k (fun e => hk (by simp [e]))⟩
theorem grown_alloc (w : World) (o : Obj) (r : Option Nat) : w.grownBy (w.alloc o) r := World.grownBy_alloc w o r
theorem grown_trans {a b c : World} {r : Option Nat} (h : a.grownBy b r) (k : b.grownBy c r) : a.grownBy c r :=
  ⟨k.os.trans h.os, k.tape.trans h.tape, k.output.trans h.output, Nat.le_trans h.size k.size, fun i hi hne => (k.block i (Nat.lt_of_lt_of_le hi h.size) hne).trans (h.block i hi hne)⟩
theorem grown_of_below {a b : World} (h : Below a.heap.size a b) (r : Option Nat) : a.grownBy b r := ⟨h.os, h.tape, h.output, h.size, fun i hi _ => h.block i hi⟩
theorem grown_drewN (w : World) (n : Nat) (r : Option Nat) : w.grownBy (w.drewN n) r := ⟨rfl, rfl, rfl, Nat.le_refl _, fun _ _ _ => rfl⟩
theorem grown_drew (w : World) (r : Option Nat) : w.grownBy w.drew r := ⟨rfl, rfl, rfl, Nat.le_refl _, fun _ _ _ => rfl⟩
/-- only block g may have turned, and g is the call's own -/
theorem below_of_grown {a b : World} {B g : Nat} (h : a.grownBy b (some g)) (hB : B ≤ a.heap.size) (hg : B ≤ g) : Below B a b :=
  ⟨h.os, h.tape, h.output, h.size, fun i hi => h.block i (by omega) (fun e => by injection e; omega)⟩
end

theorem wpList_want {P : Program} {ops : Array Oper} {Q : Exit → Act → World → Prop} {a : Act} {w : World} {rest : List Oper} {o : Oper} (hg : Region.wanted o (yielded ops a.tmps) = true)
    (h : ∀ K : Act → World → Prop, (∀ a w, wpList P ops Q rest a w → K a w) → o.wp P a w K Q) : wpList P ops Q (o :: rest) a w :=
  wpList_step fun K hK => by rw [if_pos hg]; exact h K hK

section
variable {P : Program} {w : World} {g : Nat} {t : TypeId} {cs : List Value}

theorem run_loadVar_blk (h : Blk w g t cs) (ty : TypeId) (o k : Nat) (hu : ((P.underlying ty).map fun | .struct _ | .array _ _ => true | _ => false) = some true) (hi : (P.info? ty).map (·.size) = some k) (hk : o + k ≤ cs.length) :
    (loadVar ty ⟨g, o, none⟩).run P w = .ok (.agg ((cs.drop o).take k).toArray) w := by
  obtain ⟨d, hd, hdd⟩ := Option.map_eq_some_iff.1 hu
  obtain ⟨i, hii, his⟩ := Option.map_eq_some_iff.1 hi
  have hl : ((cs.drop o).take k).length = k := by simp; omega
  have hc : ∀ j v, ((cs.drop o).take k)[j]? = some v → w.cell? ((⟨g, o, none⟩ : Addr).add j) = some v := by
    intro j v hv
    rw [Addr.add_lit, h.cell]
    rw [List.getElem?_take] at hv
    split at hv
    · rw [← hv, List.getElem?_drop]
    · cases hv
  have hld := run_loadCells_list (P := P) w ⟨g, o, none⟩ _ hc
  rw [hl] at hld
  have hagg : (isAgg ty).run P w = .ok true w := by
    unfold isAgg
    rw [Sem.run_bind, run_underlying hd w]
    cases d <;> simp_all
  simp [loadVar, Sem.run_bind, hagg, sizeOf, typeInfo, hii, his, hld]

theorem wp_load_blk {o : Oper} {a : Act} {K : Act → World → Prop} {Q : Exit → Act → World → Prop} (h : Blk w g t cs) (ty : TypeId) (x : Operand) (off k : Nat)
    (hu : ((P.underlying ty).map fun | .struct _ | .array _ _ => true | _ => false) = some true) (hi : (P.info? ty).map (·.size) = some k) (hk : off + k ≤ cs.length)
    (ho : o.op = .load ty x) (hx : a.eval x = .pointer (some ⟨g, off, none⟩))
    (hK : K (a.put o.dst (.agg ((cs.drop off).take k).toArray)) w) : o.wp P a w K Q := by
  unfold Oper.wp execOp
  simp only [ho, hx, Instr.loadAt, Instr.sureAddr, Sem.run_bind, Sem.run_pure, Result.andThen_ok, run_loadVar_blk h ty off k hu hi hk]
  exact hK

theorem wpl_load_blk {ops : Array Oper} {rest : List Oper} {o : Oper} {a : Act} {Q : Exit → Act → World → Prop} (h : Blk w g t cs) (ty : TypeId) (off k : Nat)
    (hu : ((P.underlying ty).map fun | .struct _ | .array _ _ => true | _ => false) = some true) (hi : (P.info? ty).map (·.size) = some k) (hk : off + k ≤ cs.length)
    (hgd : Region.wanted o (yielded ops a.tmps) = true) {x : Operand} (ho : o.op = .load ty x) (hx : a.eval x = .pointer (some ⟨g, off, none⟩))
    (hK : wpList P ops Q rest (a.put o.dst (.agg ((cs.drop off).take k).toArray)) w) : wpList P ops Q (o :: rest) a w :=
  wpList_want hgd fun _ h' => wp_load_blk h ty x off k hu hi hk ho hx (h' _ _ hK)

theorem run_storeVar_blk (h : Blk w g t cs) (ty : TypeId) (o k : Nat) (vs : List Value) (hi : (P.info? ty).map (·.size) = some k) (hv : vs.length = k) (hk : o + k ≤ cs.length) (h1 : ∀ v ∈ vs, v.oneCell' = true) :
    (storeVar ty ⟨g, o, none⟩ (.agg vs.toArray)).run P w = .ok () (w.setRow g (cs.take o ++ vs ++ cs.drop (o + k)).toArray) := by
  obtain ⟨i, hii, his⟩ := Option.map_eq_some_iff.1 hi
  have := run_storeCells_at P g o t vs 0 cs.toArray w h (by simp; omega) h1
  simp only [Nat.add_zero, hv] at this
  simp [storeVar, sizeOf, typeInfo, hii, his, Value.cells, hv, this]

theorem wp_store_blk {o : Oper} {a : Act} {K : Act → World → Prop} {Q : Exit → Act → World → Prop} (h : Blk w g t cs) (ty : TypeId) (x y : Operand) (off k : Nat) (vs : List Value) (hi : (P.info? ty).map (·.size) = some k) (hv : vs.length = k) (hk : off + k ≤ cs.length) (h1 : ∀ v ∈ vs, v.oneCell' = true)
    (ho : o.op = .store ty x y) (hx : a.eval x = .pointer (some ⟨g, off, none⟩)) (hy : a.eval y = .agg vs.toArray)
    (hK : K (a.put o.dst undef) (w.setRow g (cs.take off ++ vs ++ cs.drop (off + k)).toArray)) : o.wp P a w K Q := by
  unfold Oper.wp execOp
  simp only [ho, hx, hy, Instr.storeAt, Instr.sureAddr, Sem.run_bind, Sem.run_pure, Result.andThen_ok, run_storeVar_blk h ty off k vs hi hv hk h1]
  exact hK

theorem wpl_store_blk {ops : Array Oper} {rest : List Oper} {o : Oper} {a : Act} {Q : Exit → Act → World → Prop} (h : Blk w g t cs) (ty : TypeId) (off k : Nat) (vs : List Value) (hi : (P.info? ty).map (·.size) = some k) (hv : vs.length = k) (hk : off + k ≤ cs.length) (h1 : ∀ v ∈ vs, v.oneCell' = true)
    (hgd : Region.wanted o (yielded ops a.tmps) = true) {x y : Operand} (ho : o.op = .store ty x y) (hx : a.eval x = .pointer (some ⟨g, off, none⟩)) (hy : a.eval y = .agg vs.toArray)
    (hK : ∀ w', Blk w' g t (cs.take off ++ vs ++ cs.drop (off + k)) → w.grownBy w' (some g) → wpList P ops Q rest (a.put o.dst undef) w') : wpList P ops Q (o :: rest) a w :=
  wpList_want hgd fun _ h' => wp_store_blk h ty x y off k vs hi hv hk h1 ho hx hy (h' _ _ (hK _ (h.row _) (grown_setRow _ _ _)))

theorem whole_put {cs vs : List Value} {k : Nat} (h : cs.length = k) : cs.take 0 ++ vs ++ cs.drop (0 + k) = vs := by
  rw [List.take_zero, List.nil_append, List.drop_of_length_le (by omega), List.append_nil]

/-- a store of all of it -/
theorem wpl_put_blk {ops : Array Oper} {rest : List Oper} {o : Oper} {a : Act} {Q : Exit → Act → World → Prop} (h : Blk w g t cs) (vs : List Value) {ty : TypeId} (hi : (P.info? ty).map (·.size) = some cs.length) (hv : vs.length = cs.length) (h1 : ∀ v ∈ vs, v.oneCell' = true)
    (hgd : Region.wanted o (yielded ops a.tmps) = true) {x y : Operand} (ho : o.op = .store ty x y) (hx : a.eval x = .pointer (some ⟨g, 0, none⟩)) (hy : a.eval y = .agg vs.toArray)
    (hK : ∀ w', Blk w' g t vs → w.grownBy w' (some g) → wpList P ops Q rest (a.put o.dst undef) w') : wpList P ops Q (o :: rest) a w := by
  refine wpl_store_blk h ty 0 cs.length vs hi hv (by omega) h1 hgd ho hx hy fun w' h2 h3 => hK w' ?_ h3
  rwa [whole_put rfl] at h2
/-- a load of all of it -/
theorem wpl_get_blk {ops : Array Oper} {rest : List Oper} {o : Oper} {a : Act} {Q : Exit → Act → World → Prop} (h : Blk w g t cs) {ty : TypeId}
    (hu : ((P.underlying ty).map fun | .struct _ | .array _ _ => true | _ => false) = some true) (hi : (P.info? ty).map (·.size) = some cs.length)
    (hgd : Region.wanted o (yielded ops a.tmps) = true) {x : Operand} (ho : o.op = .load ty x) (hx : a.eval x = .pointer (some ⟨g, 0, none⟩))
    (hK : wpList P ops Q rest (a.put o.dst (.agg cs.toArray)) w) : wpList P ops Q (o :: rest) a w := by
  refine wpl_load_blk h ty 0 cs.length hu hi (by omega) hgd ho hx ?_
  rw [List.drop_zero, List.take_length]
  exact hK

/-- a store into one cell of it -/
theorem wpl_set_blk {ops : Array Oper} {rest : List Oper} {o : Oper} {a : Act} {Q : Exit → Act → World → Prop} (h : Blk w g t cs) (i : Nat) (u : Value) {ty : TypeId} (hi : (P.info? ty).map (·.size) = some 1) (hk : i < cs.length) (hu : u.cells = #[u]) (h1 : u.oneCell' = true)
    (hgd : Region.wanted o (yielded ops a.tmps) = true) {x y : Operand} (ho : o.op = .store ty x y) (hx : a.eval x = .pointer (some ⟨g, i, none⟩)) (hy : a.eval y = u)
    (hK : ∀ w', Blk w' g t (cs.set i u) → w.grownBy w' (some g) → wpList P ops Q rest (a.put o.dst undef) w') : wpList P ops Q (o :: rest) a w := by
  refine wpList_want hgd fun _ h' => ?_
  obtain ⟨inf, hii, his⟩ := Option.map_eq_some_iff.1 hi
  have := run_storeCells_at P g i t [u] 0 cs.toArray w h (by simp; omega) (by simpa using h1)
  simp only [Nat.add_zero, List.length_singleton] at this
  have hrun : (storeVar ty ⟨g, i, none⟩ u).run P w = .ok () (w.setRow g (cs.take i ++ [u] ++ cs.drop (i + 1)).toArray) := by
    simp [storeVar, sizeOf, typeInfo, hii, his, hu, this]
  have e : cs.take i ++ [u] ++ cs.drop (i + 1) = cs.set i u := by
    rw [List.set_eq_take_append_cons_drop, if_pos hk]
    simp
  rw [e] at hrun
  unfold Oper.wp execOp
  simp only [ho, hx, hy, Instr.storeAt, Instr.sureAddr, Sem.run_bind, Sem.run_pure, Result.andThen_ok, hrun]
  exact h' _ _ (hK _ (h.row _) (grown_setRow _ _ _))
end

/-- a result that lies in a block -/
theorem ret_blk {P : Program} {fn : Func} {R : Ending → World → Prop} {a : Act} {w : World} {p : Tmp} {ty : TypeId} {g : Nat} {t : TypeId} {cs : List Value} (hB : Blk w g t cs) (hr : fn.results = #[.cell p ty]) (hp : a.tmps.getD p undef = .pointer (some ⟨g, 0, none⟩)) {d : TypeDesc}
    (hu : P.underlying ty = some d) (hd : (match d with | .struct _ | .array _ _ => true | _ => false) = true) (hi : (P.info? ty).map (·.size) = some cs.length) (hdf : a.defers = []) (hR : R (.returned (.agg cs.toArray)) w) : bodyPost P fn R .ret a w :=
  bodyPost_ret (results_cell_row hr _ _ g t cs.toArray (0, 0) d hp hB hu hd (by simpa using hi)) hdf hR

/-! ### two arrays of bools -/
def bools (l : List Bool) : List Value := l.map .bool
theorem bools_one (l : List Bool) : ∀ v ∈ bools l, v.oneCell' = true := by
  intro v hv
  obtain ⟨b, _, rfl⟩ := List.mem_map.1 hv
  rfl

theorem run_eqItems_bools {P : Program} (w : World) (d : Nat) (e : TypeId) (he : P.underlying e = some .bool) (hc : P.cellsOf e = 1) (xs ys : List Bool) (hl : xs.length = ys.length) :
    ∀ (n k : Nat), k + n = xs.length → (Op.eqItems (d + 1) e (P.cellsOf e) (bools xs).toArray (bools ys).toArray (List.range' k n)).run P w = .ok (decide (xs.drop k = ys.drop k)) w := by
  intro n
  induction n with
  | zero =>
    intro k hk
    rw [List.drop_of_length_le (by omega), List.drop_of_length_le (by omega)]
    simp [Op.eqItems]
  | succ n ih =>
    intro k hk
    have hx : xs[k]? = some xs[k] := List.getElem?_eq_getElem (by omega)
    have hy : ys[k]? = some ys[k] := List.getElem?_eq_getElem (by omega)
    have hagg : (isAgg e).run P w = .ok false w := by
      unfold isAgg
      rw [Sem.run_bind, run_underlying he w]
      rfl
    have px : (part e (bools xs).toArray (k * P.cellsOf e)).run P w = .ok (.bool xs[k]) w := by
      simp [part, Sem.run_bind, hagg, hc, bools, hx]
    have py : (part e (bools ys).toArray (k * P.cellsOf e)).run P w = .ok (.bool ys[k]) w := by
      simp [part, Sem.run_bind, hagg, hc, bools, hy]
    rw [List.range'_succ]
    simp only [Op.eqItems, Sem.run_bind, px, py, run_equalIn_bool w d e _ _ he, Result.andThen_ok]
    have dx : xs.drop k = xs[k] :: xs.drop (k + 1) := List.drop_eq_getElem_cons (by omega)
    have dy : ys.drop k = ys[k] :: ys.drop (k + 1) := List.drop_eq_getElem_cons (by omega)
    have e : (xs.drop k = ys.drop k) ↔ (xs[k] = ys[k] ∧ xs.drop (k + 1) = ys.drop (k + 1)) := by rw [dx, dy, List.cons.injEq]
    by_cases hb : xs[k] = ys[k]
    · have hb' : (!(xs[k] == ys[k])) = false := by simp [hb]
      rw [hb', if_neg (by simp), ih (k + 1) (by omega)]
      simp only [e, hb, true_and]
    · have hb' : (!(xs[k] == ys[k])) = true := by simp [hb]
      rw [hb', if_pos rfl]
      simp only [e, hb, false_and]
      rfl

theorem run_equal_bools {P : Program} (w : World) (t e : TypeId) (n : Nat) (ht : P.underlying t = some (.array n e)) (he : P.underlying e = some .bool) (hc : P.cellsOf e = 1) (hi : (P.info? e).isSome = true) (xs ys : List Bool) (hx : xs.length = n) (hy : ys.length = n) (b : Bool) (hb : decide (xs = ys) = b) :
    (Op.equalIn 10000 t (.agg (bools xs).toArray) (.agg (bools ys).toArray)).run P w = .ok b w := by
  subst hb
  obtain ⟨i, hi⟩ := Option.isSome_iff_exists.1 hi
  have := run_equalIn_array (P := P) w 9999 (bools xs).toArray (bools ys).toArray ht hi
  have h2 := run_eqItems_bools (P := P) w 9998 e he hc xs ys (by omega) n 0 (by omega)
  rw [← List.range_eq_range'] at h2
  rw [this, h2]
  simp
end Go.Proofs.YtkjmddgnfgbioaaDoor


namespace Go.Proofs.YtkjmddgnfgbioaaDoor
set_option linter.unusedVariables false
set_option linter.unusedSimpArgs false
set_option maxRecDepth 100000
open Go.RowKit

/-- of the blocks that were there those outside S are as they were -/
structure Keeps (S : Nat → Prop) (w w' : World) : Prop where
  os : w'.os = w.os
  tape : w'.tape = w.tape
  output : w'.output = w.output
  size : w.heap.size ≤ w'.heap.size
  block : ∀ k, k < w.heap.size → ¬ S k → w'.heap[k]? = w.heap[k]?

section
variable {S S' : Nat → Prop} {a b c w w' : World}
theorem Keeps.refl (S : Nat → Prop) (w : World) : Keeps S w w := ⟨rfl, rfl, rfl, Nat.le_refl _, fun _ _ _ => rfl⟩
theorem Keeps.trans (h : Keeps S a b) (k : Keeps S b c) : Keeps S a c :=
  ⟨k.os.trans h.os, k.tape.trans h.tape, k.output.trans h.output, Nat.le_trans h.size k.size, fun i hi hn => (k.block i (Nat.lt_of_lt_of_le hi h.size) hn).trans (h.block i hi hn)⟩
/-- the second may have turned blocks that the first has made, too -/
theorem Keeps.step (h : Keeps S a b) (k : Keeps S' b c) (hs : ∀ i, i < a.heap.size → S' i → S i) : Keeps S a c :=
  ⟨k.os.trans h.os, k.tape.trans h.tape, k.output.trans h.output, Nat.le_trans h.size k.size, fun i hi hn => (k.block i (Nat.lt_of_lt_of_le hi h.size) (fun h' => hn (hs i hi h'))).trans (h.block i hi hn)⟩
theorem Keeps.mono (h : Keeps S a b) (hs : ∀ i, S i → S' i) : Keeps S' a b := ⟨h.os, h.tape, h.output, h.size, fun i hi hn => h.block i hi (fun h' => hn (hs i h'))⟩
theorem Keeps.of_grown {r : Option Nat} (h : a.grownBy b r) : Keeps (fun k => some k = r) a b := ⟨h.os, h.tape, h.output, h.size, fun i hi hn => h.block i hi hn⟩
theorem Keeps.of_below (h : Below a.heap.size a b) (S : Nat → Prop) : Keeps S a b := ⟨h.os, h.tape, h.output, h.size, fun i hi _ => h.block i hi⟩
theorem Keeps.alloc (h : Keeps S a b) (o : Obj) : Keeps S a (b.alloc o) := h.step (Keeps.of_grown (grown_alloc b o none)) (fun i _ hi => by cases hi)
theorem Keeps.drewN (h : Keeps S a b) (n : Nat) : Keeps S a (b.drewN n) := ⟨h.os, h.tape, h.output, h.size, h.block⟩
theorem Keeps.undrewN {n : Nat} (h : Keeps S (a.drewN n) b) : Keeps S a b := ⟨h.os, h.tape, h.output, h.size, h.block⟩
theorem Keeps.below {B : Nat} (h : Keeps S a b) (hB : B ≤ a.heap.size) (hs : ∀ i, S i → B ≤ i) : Below B a b := ⟨h.os, h.tape, h.output, h.size, fun i hi => h.block i (by omega) (fun h' => by have := hs i h'; omega)⟩
theorem Blk.keeps {g : Nat} {t : TypeId} {cs : List Value} (h : Blk w g t cs) (k : Keeps S w w') (hg : ¬ S g) : Blk w' g t cs := (k.block g h.lt hg).trans h
theorem own_keeps {base : Nat} {e : TypeId} {size n : Nat} {v : Value} {xs : List Value} (h : w.ownsRow base e size v n xs) (k : Keeps S w w') (hv : ∀ g, v.ownBlock = some g → ¬ S g) : w'.ownsRow base e size v n xs := by
  refine ⟨h.1, ?_⟩
  rcases h.2 with h' | ⟨g, cap, cur, rfl, hb, hg, rest⟩
  · exact .inl h'
  · refine .inr ⟨g, cap, cur, rfl, hb, ?_, rest⟩
    rw [k.block g (Array.getElem?_eq_some_iff.1 hg).1 (hv g rfl)]
    exact hg
theorem Cells.keeps {A : Option Addr} {vs : List Value} {B : Nat} (h : Cells w B A vs) (k : Keeps S w w') (hB : B ≤ w.heap.size) (hs : ∀ i, S i → B ≤ i) : Cells w' B A vs :=
  h.keep (Nat.le_refl _) fun _ hp => (k.below hB hs).cell hp

/-- rows of unlike element types lie in unlike blocks -/
theorem own_own_ne {base base' : Nat} {e e' : TypeId} {size size' n n' : Nat} {v v' : Value} {xs xs' : List Value} (h : w.ownsRow base e size v n xs) (h' : w.ownsRow base' e' size' v' n' xs') (hne : e ≠ e') {g : Nat} (hg : v.ownBlock = some g) : v'.ownBlock ≠ some g := by
  intro hg'
  rcases h.2 with ⟨rfl, _⟩ | ⟨g1, cap, cur, rfl, _, hh, _⟩
  · simp [Value.ownBlock] at hg
  · rcases h'.2 with ⟨rfl, _⟩ | ⟨g2, cap', cur', rfl, _, hh', _⟩
    · simp [Value.ownBlock] at hg'
    · simp only [Value.ownBlock, Option.some.injEq] at hg hg'
      subst hg
      subst hg'
      rw [hh] at hh'
      injection hh' with hh'
      injection hh' with _ ht
      exact hne ht
theorem own_blk_ne {base : Nat} {e t : TypeId} {size n g : Nat} {v : Value} {xs cs : List Value} (h : w.ownsRow base e size v n xs) (h' : Blk w g t cs) (hne : e ≠ t) : v.ownBlock ≠ some g := by
  intro hg
  rcases h.2 with ⟨rfl, _⟩ | ⟨g1, cap, cur, rfl, _, hh, _⟩
  · simp [Value.ownBlock] at hg
  · simp only [Value.ownBlock, Option.some.injEq] at hg
    subst hg
    unfold Blk at h'
    rw [hh] at h'
    injection h' with h'
    injection h' with _ ht
    exact hne ht
end
end Go.Proofs.YtkjmddgnfgbioaaDoor


namespace Go.Proofs.YtkjmddgnfgbioaaDoor.Ex
set_option linter.unusedVariables false
set_option linter.unusedSimpArgs false
set_option maxRecDepth 100000

abbrev Bs := List UInt8

inductive X where
  | num (n : Int)
  | name (s : Bs)
  | two (k : Int) (a b : X)
  | bad
deriving DecidableEq

def X.leaves : X → Nat
  | .two _ a b => a.leaves + b.leaves
  | _ => 1
theorem X.leaves_pos : ∀ e : X, 1 ≤ e.leaves
  | .num _ => Nat.le_refl _
  | .name _ => Nat.le_refl _
  | .bad => Nat.le_refl _
  | .two _ a b => by have := a.leaves_pos; unfold X.leaves; omega

/-- what a name is: the last binding -/
def look (s : Bs) : List (Bs × Int) → Int
  | [] => 0
  | b :: l => if l.any (fun x => x.1 == s) then look s l else if b.1 == s then b.2 else 0
theorem look_snoc (s : Bs) (l : List (Bs × Int)) (b : Bs × Int) : look s (l ++ [b]) = if b.1 == s then b.2 else look s l := by
  induction l with
  | nil => simp [look]
  | cons c l ih =>
    rw [List.cons_append, look, List.any_append, ih]
    by_cases h : (b.1 == s) = true
    · simp [h]
    · have h' : (b.1 == s) = false := by simpa using h
      simp only [h', Bool.false_eq_true, if_false, List.any_cons, List.any_nil, Bool.or_false]
      rw [look]
end Go.Proofs.YtkjmddgnfgbioaaDoor.Ex


namespace Go.Proofs.YtkjmddgnfgbioaaDoor
set_option linter.unusedVariables false
set_option linter.unusedSimpArgs false
set_option maxRecDepth 100000
open Go.ChangeShapes Go.WideShapes Go.ChangeAt Go.RowKit

def xcells (k n : Int) (s : ByteArray) (A : Option Addr) (len cap : Nat) : List Value := [.int .i64 k, .int .i64 n, .string s, .slice A len cap]

def Ex.rng (n : Int) : Prop := -9223372036854775808 ≤ n ∧ n ≤ 9223372036854775807

inductive XRN (N : Bool) (B : Nat) (w : World) : List Value → Ex.X → Prop
  | num (n : Int) (s : ByteArray) (A : Option Addr) (len cap : Nat) : len ≤ cap → cap ≤ maxLen → Ex.rng n → (hN : N = true → s = ⟨#[]⟩ ∧ len = 0 := by intro h; first | exact absurd h (by decide) | exact ⟨rfl, rfl⟩) → XRN N B w (xcells 1 n s A len cap) (.num n)
  | name (n : Int) (s : ByteArray) (A : Option Addr) (len cap : Nat) : len ≤ cap → cap ≤ maxLen → (hN : N = true → n = 0 ∧ len = 0 := by intro h; first | exact absurd h (by decide) | exact ⟨rfl, rfl⟩) → XRN N B w (xcells 2 n s A len cap) (.name s.data.toList)
  | bad (k n : Int) (s : ByteArray) (A : Option Addr) (len cap : Nat) : len ≤ cap → cap ≤ maxLen → k ≠ 1 → k ≠ 2 → ¬ ((3 ≤ k ∧ k ≤ 9) ∧ 2 ≤ len) → (hN : N = false := by rfl) → XRN N B w (xcells k n s A len cap) .bad
  | two (k n : Int) (s : ByteArray) (g o len cap : Nat) (cs0 cs1 : List Value) (e0 e1 : Ex.X) : len ≤ cap → cap ≤ maxLen → 3 ≤ k → k ≤ 9 → 2 ≤ len → g < B →
      (∀ j u, cs0[j]? = some u → w.cell? ⟨g, o + j, none⟩ = some u) → (∀ j u, cs1[j]? = some u → w.cell? ⟨g, o + 4 + j, none⟩ = some u) → XRN N B w cs0 e0 → XRN N B w cs1 e1 →
      (hN : N = true → n = 0 ∧ s = ⟨#[]⟩ ∧ len = 2 := by intro h; first | exact absurd h (by decide) | exact ⟨rfl, rfl, rfl⟩) → XRN N B w (xcells k n s (some ⟨g, o, none⟩) len cap) (.two k e0 e1)
/-- what lies there, read; and that it is as the program itself makes it -/
abbrev XR := XRN false
abbrev XN := XRN true

theorem XRN.form {N : Bool} {B : Nat} {w : World} {cs : List Value} {e : Ex.X} (h : XRN N B w cs e) : ∃ k n s A len cap, cs = xcells k n s A len cap ∧ len ≤ cap ∧ cap ≤ maxLen := by
  cases h with
  | num n s A len cap h1 h2 => exact ⟨_, _, _, _, _, _, rfl, h1, h2⟩
  | name n s A len cap h1 h2 => exact ⟨_, _, _, _, _, _, rfl, h1, h2⟩
  | bad k n s A len cap h1 h2 => exact ⟨_, _, _, _, _, _, rfl, h1, h2⟩
  | two k n s g o len cap cs0 cs1 e0 e1 h1 h2 => exact ⟨_, _, _, _, _, _, rfl, h1, h2⟩
theorem XRN.keep {N : Bool} {B B' : Nat} {w w' : World} {cs : List Value} {e : Ex.X} (h : XRN N B w cs e) (hB : B ≤ B') (hk : ∀ p : Addr, p.block < B → w'.cell? p = w.cell? p) : XRN N B' w' cs e := by
  induction h with
  | num n s A len cap h1 h2 h3 hN => exact .num n s A len cap h1 h2 h3 hN
  | name n s A len cap h1 h2 hN => exact .name n s A len cap h1 h2 hN
  | bad k n s A len cap h1 h2 h3 h4 h5 hN => exact .bad k n s A len cap h1 h2 h3 h4 h5 hN
  | two k n s g o len cap cs0 cs1 e0 e1 h1 h2 h3 h4 h5 h6 h7 h8 _ _ hN i0 i1 =>
    exact .two k n s g o len cap cs0 cs1 e0 e1 h1 h2 h3 h4 h5 (Nat.lt_of_lt_of_le h6 hB) (fun j u hu => (hk ⟨g, o + j, none⟩ h6).trans (h7 j u hu)) (fun j u hu => (hk ⟨g, o + 4 + j, none⟩ h6).trans (h8 j u hu)) i0 i1 hN
theorem XRN.later {N : Bool} {B : Nat} {w w' : World} {cs : List Value} {e : Ex.X} (h : XRN N B w cs e) (hb : Below B w w') : XRN N B w' cs e := h.keep (Nat.le_refl _) (fun _ hp => hb.cell hp)
theorem XRN.up {N : Bool} {B B' : Nat} {w : World} {cs : List Value} {e : Ex.X} (h : XRN N B w cs e) (hB : B ≤ B') : XRN N B' w cs e := h.keep hB (fun _ _ => rfl)
theorem XRN.alloc {N : Bool} {B : Nat} {w : World} {cs : List Value} {e : Ex.X} (h : XRN N B w cs e) (hB : B ≤ w.heap.size) (o : Obj) : XRN N B (w.alloc o) cs e := h.later ((Below.refl _ _).alloc hB o)
theorem XRN.read {N : Bool} {B : Nat} {w : World} {cs : List Value} {e : Ex.X} (h : XRN N B w cs e) : XR B w cs e := by
  induction h with
  | num n s A len cap h1 h2 h3 hN => exact .num n s A len cap h1 h2 h3
  | name n s A len cap h1 h2 hN => exact .name n s A len cap h1 h2
  | bad k n s A len cap h1 h2 h3 h4 h5 hN => exact .bad k n s A len cap h1 h2 h3 h4 h5
  | two k n s g o len cap cs0 cs1 e0 e1 h1 h2 h3 h4 h5 h6 h7 h8 _ _ hN i0 i1 =>
    exact .two k n s g o len cap cs0 cs1 e0 e1 h1 h2 h3 h4 h5 h6 h7 h8 i0 i1
/-! ### an argument -/
theorem Ex.bulk_pos {H : Type} (d : DataW H) : 1 ≤ Rows.uptoBulk d := by
  cases d with
  | lit x => cases x <;> simp [Rows.uptoBulk]
  | _ => simp [Rows.uptoBulk]
theorem Ex.bulk_two {H : Type} (x y : DataW H) (l : List (DataW H)) : Rows.uptoBulk x + Rows.uptoBulk y ≤ Rows.uptoBulkAll (x :: y :: l) := by
  rw [Rows.uptoBulkAll, Rows.uptoBulkAll]; omega

theorem open_expr {H : Type} {enc : TypeId × Value → H} {w : World} : ∀ (fuel : Nat) (cs : List Value) (x : DataW H × List MemPlace), DataW.trod enc Tryd.prog w 0 (fun _ => true) true fuel 38 cs = some x → (∀ p ∈ x.2, p.block < w.heap.size) →
    ∃ e : Ex.X, XR w.heap.size w cs e ∧ e.leaves ≤ Rows.uptoBulk x.1 := by
  intro fuel
  induction fuel using Nat.strongRecOn with
  | _ fuel ih =>
    intro cs x h hlt
    have hT : Tryd.prog.underlying 38 = some (.struct (fieldsOf Tryd.prog 38)) := by kernel_rfl
    obtain ⟨xs, m, rfl, rfl, hl, hxl, hfs⟩ := DataW.trod_struct hT h
    have q0 : (fieldsOf Tryd.prog 38)[0]?.map (fun f => (f.type, f.offset)) = some (3, 0) := by kernel_rfl
    have q1 : (fieldsOf Tryd.prog 38)[1]?.map (fun f => (f.type, f.offset)) = some (3, 1) := by kernel_rfl
    have q2 : (fieldsOf Tryd.prog 38)[2]?.map (fun f => (f.type, f.offset)) = some (9, 2) := by kernel_rfl
    have q3 : (fieldsOf Tryd.prog 38)[3]?.map (fun f => (f.type, f.offset)) = some (36, 3) := by kernel_rfl
    have hsz : (fieldsOf Tryd.prog 38).size = 4 := by kernel_rfl
    obtain ⟨f0, g0, p0⟩ := Option.map_eq_some_iff.1 q0
    obtain ⟨f1, g1, p1⟩ := Option.map_eq_some_iff.1 q1
    obtain ⟨f2, g2, p2⟩ := Option.map_eq_some_iff.1 q2
    obtain ⟨f3, g3, p3⟩ := Option.map_eq_some_iff.1 q3
    injection p0 with p0 p0'
    injection p1 with p1 p1'
    injection p2 with p2 p2'
    injection p3 with p3 p3'
    have h0 := hfs 0 f0 g0
    have h1 := hfs 1 f1 g1
    have h2 := hfs 2 f2 g2
    have h3 := hfs 3 f3 g3
    have c0 : Tryd.prog.cellsOf 3 = 1 := by kernel_rfl
    have c1 : Tryd.prog.cellsOf 9 = 1 := by kernel_rfl
    have c2 : Tryd.prog.cellsOf 36 = 1 := by kernel_rfl
    have cT : Tryd.prog.cellsOf 38 = 4 := by kernel_rfl
    rw [p0, p0', c0] at h0
    rw [p1, p1', c0] at h1
    rw [p2, p2', c1] at h2
    rw [p3, p3', c2] at h3
    rw [cT] at hl
    rw [hsz] at hxl
    match xs, hxl, cs, hl with
    | [x0, x1, x2, x3], _, [v0, v1, v2, v3], _ =>
      simp only [List.drop_succ_cons, List.drop_zero, List.take_succ_cons, List.take_zero, List.getElem?_cons_zero, List.getElem?_cons_succ] at h0 h1 h2 h3
      obtain ⟨k, hk, -, hwk⟩ := DataW.trod_int Tryd.underlying3 h0
      obtain ⟨n, hn, -, hwn⟩ := DataW.trod_int Tryd.underlying3 h1
      obtain ⟨s, hs, -, hws⟩ := DataW.trod_string Tryd.underlying9 h2
      simp only [List.cons.injEq, and_true] at hk hn hs
      subst hk hn hs
      have hrn : Ex.rng n := wf_i64.1 hwn
      have bulk1 : Rows.uptoBulk (DataW.agg (H := H) [x0.1, x1.1, x2.1, x3.1]) = Rows.uptoBulk x0.1 + (Rows.uptoBulk x1.1 + (Rows.uptoBulk x2.1 + Rows.uptoBulk x3.1)) + 1 := by
        simp [Rows.uptoBulk, Rows.uptoBulkAll]
      have leaf : ∀ (len cap : Nat) (A : Option Addr), len ≤ cap → cap ≤ maxLen → ¬ ((3 ≤ k ∧ k ≤ 9) ∧ 2 ≤ len) → ∃ e : Ex.X, XR w.heap.size w [.int .i64 k, .int .i64 n, .string s, .slice A len cap] e ∧ e.leaves ≤ Rows.uptoBulk (DataW.agg (H := H) [x0.1, x1.1, x2.1, x3.1]) := fun len cap A hle hm hno => by
        have hb := Ex.bulk_pos (DataW.agg (H := H) [x0.1, x1.1, x2.1, x3.1])
        by_cases hk1 : k = 1
        · subst hk1; exact ⟨.num n, .num n s A len cap hle hm hrn, hb⟩
        · by_cases hk2 : k = 2
          · subst hk2; exact ⟨.name s.data.toList, .name n s A len cap hle hm, hb⟩
          · exact ⟨.bad, .bad k n s A len cap hle hm hk1 hk2 hno, hb⟩
      rcases DataW.trod_slice Tryd.underlying36 h3 with ⟨hcs, hx⟩ | ⟨a, len, cap, el, rest, nn, hnn, hcs, hx, -, hle, hm, hlen, hel, hsp, -⟩
      · simp only [List.cons.injEq, and_true] at hcs
        subst hcs
        exact leaf 0 0 none (Nat.le_refl _) (Nat.zero_le _) (by omega)
      · simp only [List.cons.injEq, and_true] at hcs
        subst hcs
        by_cases hk2 : (3 ≤ k ∧ k ≤ 9) ∧ 2 ≤ len
        · obtain ⟨⟨hk3, hk9⟩, h2l⟩ := hk2
          have kid : ∀ i, i < len → ∃ (y : DataW H × List MemPlace) (cs' : List Value) (e : Ex.X), el[i]? = some y ∧ cs'.length = 4 ∧ (∀ j u, cs'[j]? = some u → w.cell? ((a.add (i * 4)).add j) = some u) ∧ XR w.heap.size w cs' e ∧ e.leaves ≤ Rows.uptoBulk y.1 := by
            intro i hi
            have h4 := hel i hi
            rw [cT, List.getElem?_eq_getElem (by omega)] at h4
            obtain ⟨cs', hc', htr⟩ := Option.bind_eq_some_iff.1 h4
            obtain ⟨hb0, hl5, hat⟩ := World.cells?_some hc'
            obtain ⟨e, he1, he2⟩ := ih nn (by omega) cs' _ htr (fun p hp => hlt p (by
              rw [hx]
              simp only [List.flatMap_cons, List.flatMap_nil, List.mem_append, List.append_nil]
              exact .inr (.inr (.inr (.inr (List.mem_flatMap.2 ⟨el[i], List.mem_append_left _ (List.getElem_mem _), hp⟩))))))
            refine ⟨el[i], cs', e, List.getElem?_eq_getElem (by omega), hl5, fun j u hu => ?_, he1, he2⟩
            have hj : j < 4 := by have := (List.getElem?_eq_some_iff.1 hu).1; omega
            rw [hat j hj, hu]
          obtain ⟨ya, csa, ea, qa, la, ca, ra, ba⟩ := kid 0 (by omega)
          obtain ⟨yb, csb, eb, qb, lb, cb, rb, bb⟩ := kid 1 (by omega)
          obtain ⟨g, o, sp⟩ := a
          have hsp0 : sp = none := by
            have := ca 0 _ (List.getElem?_eq_getElem (by omega))
            simpa [Addr.add] using World.cell?_spot this
          subst hsp0
          have ca' : ∀ j u, csa[j]? = some u → w.cell? ⟨g, o + j, none⟩ = some u := fun j u hu => by
            have := ca j u hu
            rw [Addr.add_lit, Addr.add_lit] at this
            simpa using this
          have cb' : ∀ j u, csb[j]? = some u → w.cell? ⟨g, o + 4 + j, none⟩ = some u := fun j u hu => by
            have := cb j u hu
            rw [Addr.add_lit, Addr.add_lit] at this
            simpa using this
          have hg : g < w.heap.size := World.block_lt_of_cell? w _ (ca' 0 _ (List.getElem?_eq_getElem (by omega)))
          have hbulk : ea.leaves + eb.leaves ≤ Rows.uptoBulk x3.1 := by
            rw [hx]
            match el, hlen, qa, qb with
            | e0 :: e1 :: el', _, qa, qb =>
              simp only [List.getElem?_cons_zero, List.getElem?_cons_succ, Option.some.injEq] at qa qb
              subst qa qb
              have := Ex.bulk_two e0.1 e1.1 (el'.map (·.1))
              simp only [List.map_cons, Rows.uptoBulk]
              omega
          exact ⟨.two k ea eb, .two k n s g o len cap csa csb ea eb hle hm hk3 hk9 h2l hg ca' cb' ra rb, by show _ ≤ Rows.uptoBulk (DataW.agg (H := H) [x0.1, x1.1, x2.1, x3.1]); rw [bulk1]; show ea.leaves + eb.leaves ≤ _; omega⟩
        · exact leaf len cap _ hle hm hk2
end Go.Proofs.YtkjmddgnfgbioaaDoor


namespace Go.Proofs.YtkjmddgnfgbioaaDoor
set_option linter.unusedVariables false
set_option linter.unusedSimpArgs false
set_option maxRecDepth 100000
open Go.ChangeShapes Go.WideShapes Go.ChangeAt Go.RowKit

/-- 'append(v, src...)' as one operation, whatever comes behind -/
theorem step_append {P : Program} {w : World} {ops : Array Oper} {o : Oper} {a : Act} {K : Act → World → Prop} {Q : Exit → Act → World → Prop} {E : Prop} (s x : Operand)
    (base t e : TypeId) (z : Value) (size bytes : Nat) (ht : P.underlying t = some (.slice e)) (hinfo : (P.info? e).map (fun i => (i.zero, i.size, i.bytes)) = some (some z, size, bytes)) (hz : z.cells.size = size) (hsz : 0 < size)
    {v : Value} {n : Nat} {xs : List Value} (hown : w.ownsRow base e size v n xs) {B : Nat} {A : Option Addr} {m c : Nat} {news : List Value} (hcs : Cells w B A news) (hlen : news.length = m * size) (h1 : ∀ u ∈ news, u.oneCell' = true)
    (h63 : n + m ≤ maxLen) (hbytes : (n + m) * bytes ≤ 140737488355328) (hbase : base ≤ w.heap.size)
    (hgd : Region.wanted o (yielded ops a.tmps) = true) (ho : o.op = .call { callee := .builtin .append, args := #[s, x], argTypes := #[t, t] }) (hs : a.eval s = v) (hx : a.eval x = .slice A m c)
    (h : ∀ v' w', w'.ownsRow base e size v' (n + m) (xs ++ news) → w.grownBy w' v.ownBlock → (v'.ownBlock = v.ownBlock ∨ v'.ownBlock = some w.heap.size) → Below base w w' → K (a.put o.dst v') w') :
    if Region.wanted o (yielded ops a.tmps) = true then Oper.wp P o a w K Q else E := by
  rw [if_pos hgd]
  obtain ⟨v', w', hrun, h2, h3, h4⟩ := run_append (P := P) w base t o.type e z size bytes ht hinfo hz hsz v n xs hown B A m c news hlen hcs h1 h63 hbytes hbase
  unfold Oper.wp execOp
  simp only [ho, resolve, invoke, builtin, Sem.run_bind, Sem.run_pure, Result.andThen_ok, List.map_toArray, List.map_cons, List.map_nil, hs, hx, hrun]
  exact h v' w' h2 h3 h4 ((Below.refl _ _).grown h3 hbase (own_ge hown))

theorem Keeps.cell {S : Nat → Prop} {w w' : World} (k : Keeps S w w') {p : Addr} {v : Value} (h : w.cell? p = some v) (hn : ¬ S p.block) : w'.cell? p = some v := by
  have hlt : p.block < w.heap.size := by
    rcases Nat.lt_or_ge p.block w.heap.size with h' | h'
    · exact h'
    · simp [World.cell?, Array.getElem?_eq_none h'] at h
  rw [World.cell?_of_block (w := w) (k.block p.block hlt hn)]
  exact h
theorem SlV.lit (w : World) (vs : List Value) (e : TypeId) (sz n : Nat) (hv : vs.length = n * sz) (hn : n ≤ 1000) : SlV (w.alloc (.cells vs.toArray e)) sz (.slice (some ⟨w.heap.size, 0, none⟩) n n) n vs := by
  have := World.ownsRow_lit (e := e) (size := sz) (base := w.heap.size) w vs.toArray n (Nat.le_refl _) (by unfold maxLen; omega) (by simpa using hv)
  exact SlV.of_own (by simpa using this)
theorem SlV.drewN {w : World} {sz n : Nat} {v : Value} {vs : List Value} (h : SlV w sz v n vs) (k : Nat) : SlV (w.drewN k) sz v n vs := h
theorem ints_one1 (k : IntKind) (xs : List Int) : ∀ u ∈ ints k xs, u.oneCell' = true := by
  intro u hu
  obtain ⟨x, _, rfl⟩ := List.mem_map.1 hu
  rfl
/-- what was laid into a block of its own, behind a call that made memory -/
theorem cells_new_below {w w2 : World} {vs : List Value} {e : TypeId} (hb : Below (w.alloc (.cells vs.toArray e)).heap.size (w.alloc (.cells vs.toArray e)) w2) : Cells w2 (w.heap.size + 1) (some ⟨w.heap.size, 0, none⟩) vs :=
  (Cells.new w vs e).keep (Nat.le_refl _) (fun p hp => hb.cell (by simpa using hp))
theorem cells_new_drew {w w2 : World} {vs : List Value} {e : TypeId} (hb : Below (w.alloc (.cells vs.toArray e)).drew.heap.size (w.alloc (.cells vs.toArray e)).drew w2) : Cells w2 (w.heap.size + 1) (some ⟨w.heap.size, 0, none⟩) vs :=
  (Cells.new w vs e).keep (Nat.le_refl _) (fun p hp => hb.cell (by simpa using hp))
theorem below_self {w w1 w2 : World} (h : Below w.heap.size w w1) (hb : Below w1.heap.size w1 w2) : Below w.heap.size w w2 := below_next hb h
end Go.Proofs.YtkjmddgnfgbioaaDoor


namespace Go.Proofs.YtkjmddgnfgbioaaDoor
set_option linter.unusedVariables false
set_option linter.unusedSimpArgs false
set_option maxRecDepth 100000
open Go

abbrev Env := Tmp → Value

/-- what is known of a value, and stays known while the world goes on -/
structure Fact (E : World → World → Prop) where
  holds : Value → World → Prop
  keep : ∀ v w w', holds v w → E w w' → holds v w'

inductive Kind (E : World → World → Prop) where
  | fixed (v : Value)
  | fresh (F : Fact E)

section
variable {P : Program} {ops : Array Oper} {Q : Exit → Act → World → Prop} {S : World → Prop} {E : World → World → Prop}

def Kind.val (ρ : Env) (o : Oper) : Kind E → Value
  | .fixed v => v
  | .fresh _ => match o.dst with | some d => ρ d | none => undef
def Kind.rel : Kind E → Value → World → Prop
  | .fixed v => fun u _ => u = v
  | .fresh F => F.holds

def FactsOK (looks : List Tmp) (ρ : Env) (w : World) : List (Tmp × Fact E) → Prop
  | [] => True
  | (t, F) :: r => (looks.contains t = true → F.holds (ρ t) w) ∧ FactsOK looks ρ w r

def StepTo (P : Program) (ops : Array Oper) (S : World → Prop) (E : World → World → Prop) (o : Oper) (a : Act) (w : World) (R : Value → World → Prop) : Prop :=
  if Region.wanted o (yielded ops a.tmps) = true then
    ∀ K : Act → World → Prop, (∀ v w', R v w' → S w' → E w w' → K (a.put o.dst v) w') → o.wp P a w K (fun _ _ _ => False)
  else R undef w

def Settle (P : Program) (ops : Array Oper) (S : World → Prop) (E : World → World → Prop) (Z : (Env → Act) → List (Tmp × Fact E) → Prop) : List Oper → (Env → Act) → List (Tmp × Fact E) → Prop
  | [], A, Fs => Z A Fs
  | o :: rest, A, Fs =>
    (∃ v, (∀ ρ w, S w → FactsOK (o.looksAt ops) ρ w Fs → StepTo P ops S E o (A ρ) w (fun u _ => u = v)) ∧ Settle P ops S E Z rest (fun ρ => (A ρ).put o.dst v) Fs) ∨
    (∃ d F, o.dst = some d ∧ (∀ ρ w, S w → FactsOK (o.looksAt ops) ρ w Fs → StepTo P ops S E o (A ρ) w F.holds) ∧ Settle P ops S E Z rest (fun ρ => (A ρ).put (some d) (ρ d)) ((d, F) :: Fs))

def actOf (a : Act) (ρ : Env) (l : List (Oper × Kind E)) : Act := l.foldl (fun a p => a.put p.1.dst (p.2.val ρ p.1)) a
def addFact (Fs : List (Tmp × Fact E)) (p : Oper × Kind E) : List (Tmp × Fact E) :=
  match p.2, p.1.dst with
  | .fresh F, some d => (d, F) :: Fs
  | _, _ => Fs
def factsOf (l : List (Oper × Kind E)) : List (Tmp × Fact E) := l.foldl addFact []

structure Plan (P : Program) (ops : Array Oper) (S : World → Prop) (a : Act) (l : List (Oper × Kind E)) : Prop where
  dst : ∀ p ∈ l, (∃ F, p.2 = .fresh F) → ∃ d, p.1.dst = some d
  step : ∀ pre p post, l = pre ++ p :: post → ∀ ρ w, S w → FactsOK (p.1.looksAt ops) ρ w (factsOf pre) → StepTo P ops S E p.1 (actOf a ρ pre) w p.2.rel

theorem plan_snoc {a : Act} {l : List (Oper × Kind E)} (h : Plan P ops S a l) {p : Oper × Kind E} (h1 : (∃ F, p.2 = .fresh F) → ∃ d, p.1.dst = some d)
    (h2 : ∀ ρ w, S w → FactsOK (p.1.looksAt ops) ρ w (factsOf l) → StepTo P ops S E p.1 (actOf a ρ l) w p.2.rel) : Plan P ops S a (l ++ [p]) := by
  refine ⟨fun q hq hf => ?_, fun pre q post he => ?_⟩
  · rcases List.mem_append.1 hq with hq | hq
    · exact h.dst q hq hf
    · rw [List.mem_singleton.1 hq] at hf ⊢
      exact h1 hf
  · rcases List.eq_nil_or_concat post with rfl | ⟨post', q', rfl⟩
    · have := List.append_inj' he rfl
      obtain ⟨e1, e2⟩ := this
      injection e2 with e2
      subst e1 e2
      exact h2
    · have e : pre ++ q :: (post' ++ [q']) = (pre ++ q :: post') ++ [q'] := by simp
      rw [List.concat_eq_append, e] at he
      exact h.step pre q post' (List.append_inj' he rfl).1

theorem settle_plan {Z : (Env → Act) → List (Tmp × Fact E) → Prop} {a : Act} : ∀ (l : List Oper) (pre : List (Oper × Kind E)), Plan P ops S a pre → Settle P ops S E Z l (fun ρ => actOf a ρ pre) (factsOf pre) →
    ∃ full : List (Oper × Kind E), Plan P ops S a full ∧ full.map (·.1) = pre.map (·.1) ++ l ∧ Z (fun ρ => actOf a ρ full) (factsOf full) := by
  intro l
  induction l with
  | nil => exact fun pre hp h => ⟨pre, hp, by simp, h⟩
  | cons o rest ih =>
    intro pre hp h
    rcases h with ⟨v, h1, h2⟩ | ⟨d, F, hd, h1, h2⟩
    · obtain ⟨full, q1, q2, q3⟩ := ih (pre ++ [(o, .fixed v)]) (plan_snoc (p := (o, .fixed v)) hp (fun ⟨F, h⟩ => by cases h) h1) (by
        have e1 : (fun ρ => actOf a ρ (pre ++ [(o, (Kind.fixed v : Kind E))])) = fun ρ => (actOf a ρ pre).put o.dst v := by
          funext ρ; simp [actOf, Kind.val]
        have e2 : factsOf (pre ++ [(o, (Kind.fixed v : Kind E))]) = factsOf pre := by simp [factsOf, addFact]
        rw [e1, e2]
        exact h2)
      exact ⟨full, q1, by rw [q2]; simp, q3⟩
    · obtain ⟨full, q1, q2, q3⟩ := ih (pre ++ [(o, .fresh F)]) (plan_snoc (p := (o, .fresh F)) hp (fun _ => ⟨d, hd⟩) h1) (by
        have e1 : (fun ρ => actOf a ρ (pre ++ [(o, (Kind.fresh F : Kind E))])) = fun ρ => (actOf a ρ pre).put (some d) (ρ d) := by
          funext ρ; simp [actOf, Kind.val, hd]
        have e2 : factsOf (pre ++ [(o, (Kind.fresh F : Kind E))]) = (d, F) :: factsOf pre := by simp [factsOf, addFact, hd]
        rw [e1, e2]
        exact h2)
      exact ⟨full, q1, by rw [q2]; simp, q3⟩

/-! ### what an act holds when some of the operations have come up -/
structure Holds (a0 : Act) (full : List (Oper × Kind E)) (L : Nat → Prop) (ρ : Env) (a : Act) : Prop where
  defers : a.defers = a0.defers
  size : a.tmps.size = a0.tmps.size
  far : ∀ t, (∀ i p, L i → full[i]? = some p → p.1.dst ≠ some t) → a.tmps[t]? = a0.tmps[t]?
  near : ∀ i p t, L i → full[i]? = some p → p.1.dst = some t → t < a0.tmps.size → a.tmps[t]? = some (p.2.val ρ p.1)

theorem put_size (a : Act) (d : Option Tmp) (v : Value) : (a.put d v).tmps.size = a.tmps.size := by cases d <;> simp [Act.put]
theorem put_defers' (a : Act) (d : Option Tmp) (v : Value) : (a.put d v).defers = a.defers := by cases d <;> simp [Act.put]
theorem put_get_ne (a : Act) (d : Option Tmp) (v : Value) (t : Tmp) (h : d ≠ some t) : (a.put d v).tmps[t]? = a.tmps[t]? := by
  cases d with
  | none => rfl
  | some d => simp [Act.put, Array.getElem?_setIfInBounds_ne (show d ≠ t from fun e => h (by rw [e]))]
theorem put_get_eq (a : Act) (v : Value) (t : Tmp) (h : t < a.tmps.size) : (a.put (some t) v).tmps[t]? = some v := by
  simp [Act.put, h]

theorem Holds.put {a0 a : Act} {full : List (Oper × Kind E)} {L L' : Nat → Prop} {ρ ρ' : Env} (h : Holds a0 full L ρ a) {i : Nat} {p : Oper × Kind E} (hp : full[i]? = some p) (hL : ∀ j, L' j ↔ j = i ∨ L j)
    (hdist : ∀ j q, L j → full[j]? = some q → ∀ d, q.1.dst = some d → p.1.dst ≠ some d) (hρ : ∀ j q, L j → full[j]? = some q → q.2.val ρ' q.1 = q.2.val ρ q.1) :
    Holds a0 full L' ρ' (a.put p.1.dst (p.2.val ρ' p.1)) := by
  refine ⟨(put_defers' _ _ _).trans h.defers, (put_size _ _ _).trans h.size, fun t ht => ?_, fun j q t hj hq hd hlt => ?_⟩
  · rw [put_get_ne _ _ _ _ (ht i p ((hL i).2 (.inl rfl)) hp)]
    exact h.far t fun j q hj hq => ht j q ((hL j).2 (.inr hj)) hq
  · rcases (hL j).1 hj with rfl | hj'
    · rw [hp] at hq
      injection hq with hq
      subst hq
      rw [hd]
      exact put_get_eq _ _ _ (by rw [h.size]; exact hlt)
    · rw [put_get_ne _ _ _ _ (hdist j q hj' hq t hd), h.near j q t hj' hq hd hlt, hρ j q hj' hq]

theorem Holds.agree {a0 a a' : Act} {full : List (Oper × Kind E)} {L L' : Nat → Prop} {ρ : Env} (h : Holds a0 full L ρ a) (h' : Holds a0 full L' ρ a') (t : Tmp)
    (ht : ∀ j q, full[j]? = some q → q.1.dst = some t → (L j ↔ L' j)) : a.tmps[t]? = a'.tmps[t]? := by
  by_cases hex : ∃ j q, L j ∧ full[j]? = some q ∧ q.1.dst = some t
  · obtain ⟨j, q, hj, hq, hd⟩ := hex
    rcases Nat.lt_or_ge t a0.tmps.size with hlt | hge
    · rw [h.near j q t hj hq hd hlt, h'.near j q t ((ht j q hq hd).1 hj) hq hd hlt]
    · rw [Array.getElem?_eq_none (by rw [h.size]; exact hge), Array.getElem?_eq_none (by rw [h'.size]; exact hge)]
  · rw [h.far t (fun j q hj hq hd => hex ⟨j, q, hj, hq, hd⟩), h'.far t (fun j q hj hq hd => hex ⟨j, q, (ht j q hq hd).2 hj, hq, hd⟩)]

theorem Holds.unique {a0 a a' : Act} {full : List (Oper × Kind E)} {L : Nat → Prop} {ρ : Env} (h : Holds a0 full L ρ a) (h' : Holds a0 full L ρ a') : a = a' := by
  have e : a.tmps = a'.tmps := Array.ext_getElem? fun t => h.agree h' t fun _ _ _ _ => Iff.rfl
  have d := h.defers.trans h'.defers.symm
  cases a; cases a'; simp_all

/-- the order of the text is one, and what is not apart waits -/
def linearB (ops : Array Oper) : Bool :=
  Region.noSelect ops && (List.range ops.size).all fun j =>
    match ops[j]? with
    | none => true
    | some oj => oj.after.all (fun e => !Region.binds .any e || decide (e.on < j)) && !((oj.dst.map fun d => (oj.looksAt ops).contains d).getD false) && (List.range j).all fun i =>
      match ops[i]? with
      | none => true
      | some oi => (oi.apart ops oj || oj.after.any (fun e => Region.binds .any e && e.on == i)) && (match oi.dst with | some d => oj.dst != some d | none => true)

structure Linear (ops : Array Oper) : Prop where
  sel : ∀ (j : Nat) (o : Oper) cs b, ops[j]? = some o → o.op ≠ .select cs b
  back : ∀ (j : Nat) (o : Oper), ops[j]? = some o → ∀ e ∈ o.after, Region.binds .any e = true → e.on < j
  self : ∀ (j : Nat) (o : Oper) d, ops[j]? = some o → o.dst = some d → d ∉ o.looksAt ops
  wait : ∀ (i j : Nat) (oi oj : Oper), i < j → ops[i]? = some oi → ops[j]? = some oj → oi.apart ops oj = true ∨ ∃ e ∈ oj.after, Region.binds .any e = true ∧ e.on = i
  dist : ∀ (i j : Nat) (oi oj : Oper) d, i < j → ops[i]? = some oi → ops[j]? = some oj → oi.dst = some d → oj.dst ≠ some d

theorem linear_of (h : linearB ops = true) : Linear ops := by
  unfold linearB at h
  rw [Bool.and_eq_true, List.all_eq_true] at h
  obtain ⟨h0, h⟩ := h
  have key : ∀ (j : Nat) (oj : Oper), ops[j]? = some oj → _ := fun j oj hj => by
    have := h j (List.mem_range.2 (Array.getElem?_eq_some_iff.1 hj).1)
    rw [hj] at this
    simp only [Bool.and_eq_true] at this
    exact this
  refine ⟨Region.noSelect_spec h0, fun j o ho e he hb => ?_, fun j o d ho hd hmem => ?_, fun i j oi oj hij hi hj => ?_, fun i j oi oj d hij hi hj hd => ?_⟩
  · have := (key j o ho).1.1
    rw [Array.all_eq_true_iff_forall_mem] at this
    have := this e he
    simpa [hb] using this
  · have := (key j o ho).1.2
    rw [hd] at this
    simp [hmem] at this
  · have := (List.all_eq_true.1 (key j oj hj).2) i (List.mem_range.2 hij)
    rw [hi] at this
    simp only [Bool.and_eq_true, Bool.or_eq_true] at this
    rcases this.1 with h | h
    · exact .inl h
    · obtain ⟨n, hn, hb⟩ := Array.any_eq_true.1 h
      simp only [Bool.and_eq_true, beq_iff_eq] at hb
      exact .inr ⟨_, Array.getElem_mem hn, hb.1, hb.2⟩
  · have := (List.all_eq_true.1 (key j oj hj).2) i (List.mem_range.2 hij)
    rw [hi] at this
    simp only [Bool.and_eq_true] at this
    have h2 := this.2
    rw [hd] at h2
    simpa using h2

/-! ### whatever order comes up -/
theorem factsOK_of {looks : List Tmp} {ρ : Env} {w : World} : ∀ (Fs : List (Tmp × Fact E)), (∀ t F, (t, F) ∈ Fs → looks.contains t = true → F.holds (ρ t) w) → FactsOK looks ρ w Fs
  | [], _ => trivial
  | (t, F) :: r, h => ⟨h t F (by simp), factsOK_of r fun t' F' hm => h t' F' (by simp [hm])⟩

theorem mem_facts {l : List (Oper × Kind E)} {t : Tmp} {F : Fact E} : ∀ {Fs : List (Tmp × Fact E)}, (t, F) ∈ l.foldl addFact Fs → (t, F) ∈ Fs ∨ ∃ (i : Nat) (p : Oper × Kind E), l[i]? = some p ∧ p.2 = .fresh F ∧ p.1.dst = some t := by
  induction l with
  | nil => exact fun h => .inl h
  | cons q l ih =>
    intro Fs h
    rw [List.foldl_cons] at h
    rcases ih h with h | ⟨i, p, h1, h2⟩
    · obtain ⟨o, k⟩ := q
      rcases k with v | G
      · exact .inl (by simpa [addFact] using h)
      · rcases hd : o.dst with _ | d
        · exact .inl (by simpa [addFact, hd] using h)
        · simp only [addFact, hd, List.mem_cons, Prod.mk.injEq] at h
          rcases h with ⟨rfl, rfl⟩ | h
          · exact .inr ⟨0, _, rfl, rfl, hd⟩
          · exact .inl h
    · exact .inr ⟨i + 1, p, by simpa using h1, h2⟩

theorem wp_carry {o : Oper} {a1 a2 : Act} {w : World} {R : Value → World → Prop} {K : Act → World → Prop} (he : execOp a2.eval o = execOp a1.eval o) (hsz : a1.tmps.size = a2.tmps.size)
    (h : o.wp P a1 w (fun a' w' => ∃ v, a' = a1.put o.dst v ∧ R v w') (fun _ _ _ => False)) (hK : ∀ v w', R v w' → K (a2.put o.dst v) w') : o.wp P a2 w K Q := by
  have key : ∀ u v, a1.put o.dst u = a1.put o.dst v → a2.put o.dst u = a2.put o.dst v := by
    intro u v huv
    cases hd : o.dst with
    | none => rfl
    | some d =>
      rw [hd] at huv
      rcases Nat.lt_or_ge d a1.tmps.size with hlt | hge
      · have h1 := put_get_eq a1 u d hlt
        rw [huv, put_get_eq a1 v d hlt] at h1
        injection h1 with h1
        rw [h1]
      · have : ¬ d < a2.tmps.size := by rw [← hsz]; exact Nat.not_lt.2 hge
        simp [Act.put, Array.setIfInBounds, this]
  have kd : ∀ (d : Deferred) u v, ({ a1 with defers := d :: a1.defers } : Act).put o.dst u = a1.put o.dst v → False := by
    intro d u v h
    have := congrArg Act.defers h
    rw [put_defers', put_defers'] at this
    simp at this
  unfold Oper.wp at *
  rw [he]
  generalize (execOp a1.eval o).run P w = r at *
  cases r with
  | ok n w' =>
    cases n <;> simp only [Oper.upon] at h ⊢
    case value u => obtain ⟨v, e, hR⟩ := h; rw [key u v e]; exact hK v _ hR
    case skip => obtain ⟨v, e, hR⟩ := h; rw [key _ v e]; exact hK v _ hR
    case defer d => obtain ⟨v, e, hR⟩ := h; exact (kd d _ v e).elim
    case enter f args =>
      refine Calls.mono h fun e w'' hh => ?_
      cases e with
      | returned u => obtain ⟨v, e, hR⟩ := hh; simp only; rw [key u v e]; exact hK v _ hR
      | panicked c => exact hh.elim
      | outgrown => obtain ⟨_, _, hf⟩ := hh; exact hf.elim
    case row row args => exact Rows.mono h fun u w'' hh => by obtain ⟨v, e, hR⟩ := hh; rw [key u v e]; exact hK v _ hR
  | halt x w' => cases x <;> simp only [Oper.upon] at h ⊢

theorem holds_prefix (a0 : Act) (full : List (Oper × Kind E)) (ρ : Env) (hdist : ∀ (i j : Nat) (p q : Oper × Kind E) (d : Tmp), i < j → full[i]? = some p → full[j]? = some q → p.1.dst = some d → q.1.dst ≠ some d) :
    ∀ n, n ≤ full.length → Holds a0 full (fun i => i < n) ρ (actOf a0 ρ (full.take n)) := by
  intro n
  induction n with
  | zero => exact fun _ => ⟨rfl, rfl, fun _ _ => rfl, fun i p t hi => absurd hi (Nat.not_lt_zero _)⟩
  | succ n ih =>
    intro hn
    have hp : full[n]? = some full[n] := List.getElem?_eq_getElem (by omega)
    have e : actOf a0 ρ (full.take (n + 1)) = (actOf a0 ρ (full.take n)).put full[n].1.dst (full[n].2.val ρ full[n].1) := by
      unfold actOf
      rw [List.take_succ_eq_append_getElem (by omega), List.foldl_append]
      rfl
    rw [e]
    exact (ih (by omega)).put hp (fun j => by omega) (fun j q hj hq d hd => hdist j n q _ d hj hq hp hd) (fun _ _ _ _ => rfl)

theorem any_order {a0 : Act} {full : List (Oper × Kind E)} (hops : full.map (·.1) = ops.toList) (hlin : Linear ops) (hp : Plan P ops S a0 full)
    (hZ : ∀ ρ w, S w → (∀ t F, (t, F) ∈ factsOf full → F.holds (ρ t) w) → Q .normal (actOf a0 ρ full) w) :
    ∀ (fuel : Nat) (listed : Array Bool) (a : Act) (w : World) (ρ : Env), listed.size = ops.size → (∀ i j o, listed.getD j false = true → ops[j]? = some o → (∃ e ∈ o.after, Region.binds .any e = true ∧ e.on = i) → listed.getD i false = true) →
      (∃ todo : List Nat, todo.length ≤ fuel ∧ ∀ i, i < ops.size → listed.getD i false = false → i ∈ todo) →
      Holds a0 full (fun i => listed.getD i false = true) ρ a → S w → (∀ (i : Nat) (p : Oper × Kind E) (F : Fact E) (d : Tmp), listed.getD i false = true → full[i]? = some p → p.2 = .fresh F → p.1.dst = some d → F.holds (ρ d) w) →
      wpAny P .any ops Q fuel listed a w := by
  have hget : ∀ (i : Nat) (p : Oper × Kind E), full[i]? = some p → ops[i]? = some p.1 := fun i p h => by
    have : (full.map (·.1))[i]? = some p.1 := by simp [h]
    rw [hops] at this
    simpa using this
  have hlen : full.length = ops.size := by
    have := congrArg List.length hops
    simpa using this
  have hget' : ∀ (i : Nat) (o : Oper), ops[i]? = some o → ∃ p : Oper × Kind E, full[i]? = some p ∧ p.1 = o := fun i o h => by
    have hi : i < full.length := by rw [hlen]; exact (Array.getElem?_eq_some_iff.1 h).1
    have h1 := hget i _ (List.getElem?_eq_getElem hi)
    rw [h] at h1
    injection h1 with h1
    exact ⟨_, List.getElem?_eq_getElem hi, h1.symm⟩
  have hdist : ∀ (i j : Nat) (p q : Oper × Kind E) (d : Tmp), i < j → full[i]? = some p → full[j]? = some q → p.1.dst = some d → q.1.dst ≠ some d := fun i j p q d hij h1 h2 => hlin.dist i j _ _ d hij (hget i p h1) (hget j q h2)
  have hdist2 : ∀ (i j : Nat) (p q : Oper × Kind E) (d : Tmp), i ≠ j → full[i]? = some p → full[j]? = some q → p.1.dst = some d → q.1.dst ≠ some d := fun i j p q d hij h1 h2 hd hd' => by
    rcases Nat.lt_or_gt_of_ne hij with h | h
    · exact hdist i j p q d h h1 h2 hd hd'
    · exact hdist j i q p d h h2 h1 hd' hd
  -- all have come up
  have fin : ∀ (listed : Array Bool) (a : Act) (w : World) (ρ : Env), listed.size = ops.size → (∀ i, i < ops.size → listed.getD i false = true) → Holds a0 full (fun i => listed.getD i false = true) ρ a → S w →
      (∀ (i : Nat) (p : Oper × Kind E) (F : Fact E) (d : Tmp), listed.getD i false = true → full[i]? = some p → p.2 = .fresh F → p.1.dst = some d → F.holds (ρ d) w) → Q .normal a w := fun listed a w ρ hsz hall hH hS hF => by
    have h1 : Holds a0 full (fun i => i < full.length) ρ (actOf a0 ρ full) := by
      have := holds_prefix a0 full ρ hdist full.length (Nat.le_refl _)
      rwa [List.take_length] at this
    have h2 : Holds a0 full (fun i => i < full.length) ρ a :=
      ⟨hH.defers, hH.size, fun t ht => hH.far t fun i p hi hp => ht i p (List.getElem?_eq_some_iff.1 hp).1 hp, fun i p t hi => hH.near i p t (hall i (by omega))⟩
    rw [h2.unique h1]
    refine hZ ρ w hS fun t F hm => ?_
    rcases mem_facts hm with h | ⟨i, p, h1, h2, h3⟩
    · cases h
    · exact hF i p F t (hall i (by have := (List.getElem?_eq_some_iff.1 h1).1; omega)) h1 h2 h3
  have none_left : ∀ listed : Array Bool, listed.size = ops.size → Region.ready .any ops listed = [] → ∀ n i, i < n → i < ops.size → listed.getD i false = true := by
    intro listed hsz hr n
    induction n with
    | zero => intro i h; omega
    | succ n ih =>
      intro i hi hlt
      cases hli : listed.getD i false with
      | true => rfl
      | false =>
        have ho : ops[i]? = some ops[i] := Array.getElem?_eq_getElem hlt
        have hmem : i ∈ Region.ready .any ops listed := by
          rw [mem_ready]
          refine ⟨?_, _, ho, fun e he hb => ?_⟩
          · simp only [Array.getD, hsz, hlt, dif_pos] at hli ⊢
            exact hli
          · have := hlin.back i _ ho e he hb
            exact ih e.on (by omega) (by omega)
        rw [hr] at hmem
        cases hmem
  intro fuel
  induction fuel with
  | zero =>
    intro listed a w ρ hsz hdown ⟨todo, htodo, hin⟩ hH hS hF
    have hall : ∀ i, i < ops.size → listed.getD i false = true := fun i hi => by
      cases hli : listed.getD i false with
      | true => rfl
      | false =>
        have := hin i hi hli
        rw [List.eq_nil_of_length_eq_zero (Nat.le_zero.1 htodo)] at this
        cases this
    refine ⟨?_, fin listed a w ρ hsz hall hH hS hF⟩
    rw [List.eq_nil_iff_forall_not_mem]
    intro i hi
    obtain ⟨h0, o, ho, _⟩ := mem_ready.1 hi
    have hlt := (Array.getElem?_eq_some_iff.1 ho).1
    have := hall i hlt
    simp only [Array.getD, hsz, hlt, dif_pos] at this h0
    rw [this] at h0
    cases h0
  | succ fuel ih =>
    intro listed a w ρ hsz hdown ⟨todo, htodo, hin⟩ hH hS hF
    refine ⟨fun hr => fin listed a w ρ hsz (fun i hi => none_left listed hsz hr (i + 1) i (by omega) hi) hH hS hF, fun i hi => ?_⟩
    obtain ⟨h0, o, ho, hall⟩ := mem_ready.1 hi
    have hlt := (Array.getElem?_eq_some_iff.1 ho).1
    have h0' : listed.getD i false = false := by
      simp only [Array.getD, hsz, hlt, dif_pos] at h0 ⊢
      exact h0
    obtain ⟨p, hpi, rfl⟩ := hget' i o ho
    have hil : i < full.length := by omega
    have hpre : Holds a0 full (fun j => j < i) ρ (actOf a0 ρ (full.take i)) := holds_prefix a0 full ρ hdist i (by omega)
    have hsplit : full = full.take i ++ p :: full.drop (i + 1) := by
      have : full[i] = p := by have := List.getElem?_eq_getElem hil; rw [hpi] at this; injection this with this; exact this.symm
      rw [← this, List.getElem_cons_drop, List.take_append_drop]
    have hstep := hp.step _ p _ hsplit ρ w hS
    have conf : ∀ (j : Nat) (q : Oper × Kind E), full[j]? = some q → ∀ t, q.1.dst = some t → t ∈ p.1.looksAt ops → (listed.getD j false = true ↔ j < i) := by
      intro j q hq t hd hl
      have hoj := hget j q hq
      rcases Nat.lt_trichotomy j i with h | h | h
      · refine ⟨fun _ => h, fun _ => ?_⟩
        rcases hlin.wait j i _ _ h hoj ho with hap | ⟨e, he, hb, hon⟩
        · exact absurd hl ((Oper.apart_spec hap).1 t hd)
        · rw [← hon]; exact hall e he hb
      · subst h
        rw [hpi] at hq
        injection hq with hq
        subst hq
        exact absurd hl (hlin.self j _ t ho hd)
      · refine ⟨fun hj => ?_, fun h' => by omega⟩
        exfalso
        rcases hlin.wait i j _ _ h ho hoj with hap | ⟨e, he, hb, hon⟩
        · exact absurd hl ((Oper.apart_spec hap).2.2 t hd)
        · have := hdown i j _ hj hoj ⟨e, he, hb, hon⟩
          rw [h0'] at this
          cases this
    have hfacts : FactsOK (p.1.looksAt ops) ρ w (factsOf (full.take i)) := factsOK_of _ fun t F hm hl => by
      rcases mem_facts hm with h | ⟨j, q, h1, h2, h3⟩
      · cases h
      · have hji : j < i := by
          have := (List.getElem?_eq_some_iff.1 h1).1
          rw [List.length_take] at this
          omega
        have hq : full[j]? = some q := by
          rw [List.getElem?_take, if_pos hji] at h1
          exact h1
        exact hF j q F t ((conf j q hq t h3 (by simpa using hl)).2 hji) hq h2 h3
    have hst := hstep hfacts
    have hag : ∀ t, t ∈ p.1.looksAt ops → a.tmps[t]? = (actOf a0 ρ (full.take i)).tmps[t]? := fun t ht =>
      hH.agree hpre t fun j q hq hd => conf j q hq t hd ht
    have hexec : execOp a.eval p.1 = execOp (actOf a0 ρ (full.take i)).eval p.1 := execOp_congr p.1 (fun cs b => hlin.sel i _ cs b ho) fun x hx => by
      cases x with
      | tmp t =>
        have := hag t (List.mem_append_left _ (List.mem_filterMap.2 ⟨.tmp t, by simpa using hx, rfl⟩))
        simp only [Act.eval, Array.getD_eq_getD_getElem?]
        rw [this]
      | _ => rfl
    have hwant : Region.wanted p.1 (yielded ops a.tmps) = Region.wanted p.1 (yielded ops (actOf a0 ρ (full.take i)).tmps) := by
      unfold Region.wanted
      cases hg : p.1.guard with
      | none => rfl
      | some gw =>
        obtain ⟨g, want⟩ := gw
        have : yielded ops a.tmps g = yielded ops (actOf a0 ρ (full.take i)).tmps g := by
          unfold yielded
          cases ht : (ops[g]?).bind (·.dst) with
          | none => rfl
          | some t =>
            have := hag t (List.mem_append_right _ (by simp [hg, ht]))
            simp only [Option.bind_some, this]
        simp only [this]
    have size_eq : (actOf a0 ρ (full.take i)).tmps.size = a.tmps.size := hpre.size.trans hH.size.symm
    -- the way on
    have go : ∀ v w', p.2.rel v w' → S w' → (∀ (j : Nat) (q : Oper × Kind E) (F : Fact E) (d : Tmp), listed.getD j false = true → full[j]? = some q → q.2 = .fresh F → q.1.dst = some d → F.holds (ρ d) w') →
        wpAny P .any ops Q fuel (listed.setIfInBounds i true) (a.put p.1.dst v) w' := by
      intro v w' hR hS' hF'
      have next : ∀ ρ' : Env, p.2.val ρ' p.1 = v → (∀ j q, j ≠ i → full[j]? = some q → q.2.val ρ' q.1 = q.2.val ρ q.1) → (∀ j q F d, j ≠ i → full[j]? = some q → q.2 = .fresh F → q.1.dst = some d → ρ' d = ρ d) → (∀ F d, p.2 = .fresh F → p.1.dst = some d → F.holds (ρ' d) w') →
          wpAny P .any ops Q fuel (listed.setIfInBounds i true) (a.put p.1.dst v) w' := by
        intro ρ' hv hothers hd' hself
        have hset : ∀ j, (listed.setIfInBounds i true).getD j false = true ↔ j = i ∨ listed.getD j false = true := fun j => by
          by_cases hji : j = i
          · subst hji
            simp [Array.getD, hsz, hlt]
          · rw [getD_set_ne false (Ne.symm hji)]
            simp [hji]
        refine ih _ _ _ ρ' (by simpa using hsz) (fun i' j o' hj ho' he => ?_) ⟨todo.filter (· != i), ?_, fun j hj hjl => ?_⟩ ?_ hS' (fun j q F d hj hq hf hd => ?_)
        · rcases (hset j).1 hj with rfl | hj
          · obtain ⟨e, he, hb, hon⟩ := he
            rw [ho] at ho'
            injection ho' with ho'
            subst ho'
            rw [hset, ← hon]
            exact .inr (hall e he hb)
          · exact (hset i').2 (.inr (hdown i' j o' hj ho' he))
        · have : (todo.filter (· != i)).length < todo.length := by
            rw [List.length_filter_lt_length_iff_exists]
            exact ⟨i, hin i hlt h0', by simp⟩
          omega
        · have hne : j ≠ i := fun e => by
            have := (hset j).2 (.inl e)
            rw [this] at hjl
            cases hjl
          refine List.mem_filter.2 ⟨hin j hj ?_, by simpa using hne⟩
          rwa [getD_set_ne false (Ne.symm hne)] at hjl
        · have := hH.put (ρ' := ρ') hpi hset (fun j q hj hq d hd => hdist2 j i q p d (fun e => by rw [e, h0'] at hj; cases hj) hq hpi hd) (fun j q hj hq => hothers j q (fun e => by rw [e, h0'] at hj; cases hj) hq)
          rwa [hv] at this
        · rcases (hset j).1 hj with rfl | hj
          · rw [hpi] at hq
            injection hq with hq
            subst hq
            exact hself F d hf hd
          · have hne : j ≠ i := fun e => by rw [e, h0'] at hj; cases hj
            rw [hd' j q F d hne hq hf hd]
            exact hF' j q F d hj hq hf hd
      cases hk : p.2 with
      | fixed v0 =>
        have hv : v = v0 := by rw [hk] at hR; exact hR
        exact next ρ (by rw [hk]; exact hv.symm) (fun _ _ _ _ => rfl) (fun _ _ _ _ _ _ _ _ => rfl) (fun F d hf => by rw [hk] at hf; cases hf)
      | fresh F =>
        obtain ⟨d, hd⟩ := hp.dst p (by rw [hsplit]; simp) ⟨F, hk⟩
        have hR' : F.holds v w' := by rw [hk] at hR; exact hR
        have hne : ∀ j q d', j ≠ i → full[j]? = some q → q.1.dst = some d' → d' ≠ d := fun j q d' hji hq hd' e => hdist2 j i q p d' hji hq hpi hd' (by rw [hd, e])
        refine next (fun t => if t = d then v else ρ t) (by rw [hk]; simp [Kind.val, hd]) (fun j q hji hq => ?_) (fun j q F' d' hji hq _ hd' => if_neg (hne j q d' hji hq hd')) (fun F' d' hf hd' => ?_)
        · cases hkq : q.2 with
          | fixed v0 => rfl
          | fresh F' =>
            obtain ⟨d', hd'⟩ := hp.dst q (List.mem_of_getElem? hq) ⟨F', hkq⟩
            simp only [Kind.val, hd']
            exact if_neg (hne j q d' hji hq hd')
        · rw [hk] at hf
          injection hf with hf
          rw [hd] at hd'
          injection hd' with hd'
          subst hf hd'
          simpa using hR'
    unfold wpOp
    simp only [ho]
    unfold StepTo at hst
    rw [← hwant] at hst
    split
    · rename_i hw
      rw [if_pos hw] at hst
      refine .inl (wp_carry (R := fun v w' => p.2.rel v w' ∧ S w' ∧ E w w') hexec size_eq (hst _ fun v w' h1 h2 h3 => ⟨v, rfl, h1, h2, h3⟩) fun v w' ⟨h1, h2, h3⟩ => go v w' h1 h2 fun j q F d hj hq hf hd => F.keep _ _ _ (hF j q F d hj hq hf hd) h3)
    · rename_i hw
      rw [if_neg hw] at hst
      exact go undef w hst hS hF

/-- THE RULE -/
theorem wp_settle {id : Nat} {a : Act} {w : World} {l : List Oper} (hm : P.follows .mixedOrders = true) (hlin : linearB l.toArray = true) (E : World → World → Prop) (S : World → Prop) (hS : S w.drew)
    (h : Settle P l.toArray S E (fun A Fs => ∀ ρ w', S w' → (∀ t F, (t, F) ∈ Fs → F.holds (ρ t) w') → Q .normal (A ρ) w') l (fun _ => a) []) : (Code.region id l.toArray true).wp P Q a w := by
  obtain ⟨full, hp, he, hZ⟩ := settle_plan l [] ⟨(fun _ h => by cases h), (fun pre p post he => by simp at he)⟩ h
  refine wp_region_any hm (any_order (by simpa using he) (linear_of hlin) hp hZ _ _ a _ (fun _ => undef) (by simp) (fun i j o hj => ?_) ⟨List.range l.toArray.size, by simp, fun i hi _ => List.mem_range.2 hi⟩ ⟨rfl, rfl, fun _ _ => rfl, fun i p t hi => ?_⟩ hS fun i p F d hi => ?_)
  · exfalso; revert hj; simp [Array.getD]
  · exfalso; revert hi; simp [Array.getD]
  · exfalso; revert hi; simp [Array.getD]
end
end Go.Proofs.YtkjmddgnfgbioaaDoor


namespace Go.Proofs.YtkjmddgnfgbioaaDoor
set_option linter.unusedVariables false
set_option linter.unusedSimpArgs false
set_option maxRecDepth 100000
open Go Go.RowKit

section
variable {P : Program} {ops : Array Oper} {S : World → Prop} {E : World → World → Prop} {Z : (Env → Act) → List (Tmp × Fact E) → Prop} {o : Oper} {rest : List Oper} {A : Env → Act} {Fs : List (Tmp × Fact E)}

/-- the same, that nothing looks into -/
structure Walk (P : Program) (ops : Array Oper) (S : World → Prop) (E : World → World → Prop) (Z : (Env → Act) → List (Tmp × Fact E) → Prop) (l : List Oper) (A : Env → Act) (Fs : List (Tmp × Fact E)) : Prop where
  out : Settle P ops S E Z l A Fs

theorem settle_nil (h : Z A Fs) : Walk P ops S E Z [] A Fs := ⟨h⟩

theorem settle_skip (hw : ∀ ρ, Region.wanted o (yielded ops (A ρ).tmps) = false) (h : Walk P ops S E Z rest (fun ρ => (A ρ).put o.dst undef) Fs) : Walk P ops S E Z (o :: rest) A Fs :=
  ⟨.inl ⟨undef, fun ρ w _ _ => by unfold StepTo; rw [if_neg (by rw [hw]; simp)], h.out⟩⟩

theorem settle_run {v : Value} (hE : ∀ w, S w → E w w) (hw : ∀ ρ, Region.wanted o (yielded ops (A ρ).tmps) = true)
    (hr : ∀ ρ w, S w → FactsOK (o.looksAt ops) ρ w Fs → (execOp (A ρ).eval o).run P w = .ok (.value v) w) (h : Walk P ops S E Z rest (fun ρ => (A ρ).put o.dst v) Fs) : Walk P ops S E Z (o :: rest) A Fs :=
  ⟨.inl ⟨v, fun ρ w hS hF => by
    unfold StepTo
    rw [if_pos (hw ρ)]
    intro K hK
    unfold Oper.wp
    rw [hr ρ w hS hF]
    exact hK v w rfl hS (hE w hS), h.out⟩⟩

theorem settle_call {v : Value} {f : FuncId} {args : Env → Array Value} (hw : ∀ ρ, Region.wanted o (yielded ops (A ρ).tmps) = true)
    (hr : ∀ ρ w, (execOp (A ρ).eval o).run P w = .ok (.enter f (args ρ)) w)
    (hc : ∀ ρ w, S w → FactsOK (o.looksAt ops) ρ w Fs → Calls P f (args ρ) w fun e w' => e = .returned v ∧ S w' ∧ E w w') (h : Walk P ops S E Z rest (fun ρ => (A ρ).put o.dst v) Fs) : Walk P ops S E Z (o :: rest) A Fs :=
  ⟨.inl ⟨v, fun ρ w hS hF => by
    unfold StepTo
    rw [if_pos (hw ρ)]
    intro K hK
    unfold Oper.wp
    rw [hr ρ w]
    refine (hc ρ w hS hF).mono fun e w' ⟨h1, h2, h3⟩ => ?_
    subst h1
    exact hK v w' rfl h2 h3, h.out⟩⟩

/-- whatever gives the value -/
theorem settle_step {v : Value} (hw : ∀ ρ, Region.wanted o (yielded ops (A ρ).tmps) = true)
    (hc : ∀ ρ w, S w → FactsOK (o.looksAt ops) ρ w Fs → ∀ K : Act → World → Prop, (∀ w', S w' → E w w' → K ((A ρ).put o.dst v) w') → o.wp P (A ρ) w K (fun _ _ _ => False)) (h : Walk P ops S E Z rest (fun ρ => (A ρ).put o.dst v) Fs) : Walk P ops S E Z (o :: rest) A Fs :=
  ⟨.inl ⟨v, fun ρ w hS hF => by
    unfold StepTo
    rw [if_pos (hw ρ)]
    exact fun K hK => hc ρ w hS hF K fun w' h1 h2 => hK v w' rfl h1 h2, h.out⟩⟩
/-- whatever gives a value of which a fact is known -/
theorem settle_known {d : Tmp} (F : Fact E) (hd : o.dst = some d) (hw : ∀ ρ, Region.wanted o (yielded ops (A ρ).tmps) = true)
    (hc : ∀ ρ w, S w → FactsOK (o.looksAt ops) ρ w Fs → ∀ K : Act → World → Prop, (∀ v w', F.holds v w' → S w' → E w w' → K ((A ρ).put o.dst v) w') → o.wp P (A ρ) w K (fun _ _ _ => False)) (h : Walk P ops S E Z rest (fun ρ => (A ρ).put (some d) (ρ d)) ((d, F) :: Fs)) : Walk P ops S E Z (o :: rest) A Fs :=
  ⟨.inr ⟨d, F, hd, fun ρ w hS hF => by
    unfold StepTo
    rw [if_pos (hw ρ)]
    exact fun K hK => hc ρ w hS hF K hK, h.out⟩⟩

/-- a call of whose result a fact is known -/
theorem settle_fresh {f : FuncId} {args : Env → Array Value} {d : Tmp} (F : Fact E) (hd : o.dst = some d) (hw : ∀ ρ, Region.wanted o (yielded ops (A ρ).tmps) = true)
    (hr : ∀ ρ w, (execOp (A ρ).eval o).run P w = .ok (.enter f (args ρ)) w)
    (hc : ∀ ρ w, S w → FactsOK (o.looksAt ops) ρ w Fs → Calls P f (args ρ) w fun e w' => ∃ v, e = .returned v ∧ F.holds v w' ∧ S w' ∧ E w w') (h : Walk P ops S E Z rest (fun ρ => (A ρ).put (some d) (ρ d)) ((d, F) :: Fs)) : Walk P ops S E Z (o :: rest) A Fs :=
  ⟨.inr ⟨d, F, hd, fun ρ w hS hF => by
    unfold StepTo
    rw [if_pos (hw ρ)]
    intro K hK
    unfold Oper.wp
    rw [hr ρ w]
    refine (hc ρ w hS hF).mono fun e w' ⟨v, h0, h1, h2, h3⟩ => ?_
    subst h0
    exact hK v w' h1 h2 h3, h.out⟩⟩

/-- an operation that gives a value of which a fact is known, and leaves the world -/
theorem settle_value {d : Tmp} (F : Fact E) (hE : ∀ w, S w → E w w) (hd : o.dst = some d) (hw : ∀ ρ, Region.wanted o (yielded ops (A ρ).tmps) = true)
    (hr : ∀ ρ w, S w → FactsOK (o.looksAt ops) ρ w Fs → ∃ v, (execOp (A ρ).eval o).run P w = .ok (.value v) w ∧ F.holds v w) (h : Walk P ops S E Z rest (fun ρ => (A ρ).put (some d) (ρ d)) ((d, F) :: Fs)) : Walk P ops S E Z (o :: rest) A Fs :=
  ⟨.inr ⟨d, F, hd, fun ρ w hS hF => by
    unfold StepTo
    rw [if_pos (hw ρ)]
    intro K hK
    obtain ⟨v, h1, h2⟩ := hr ρ w hS hF
    unfold Oper.wp
    rw [h1]
    exact hK v w h2 hS (hE w hS), h.out⟩⟩

/-- a copy of such a value -/
theorem settle_copy {d t : Tmp} {F : Fact E} (hE : ∀ w, S w → E w w) (hd : o.dst = some d) (hg : o.guard = none) (ho : o.op = .move (.tmp t) ∨ o.op = .assign (.tmp t)) (ht : ∀ ρ, (A ρ).eval (.tmp t) = ρ t) (hF : (t, F) ∈ Fs)
    (h : Walk P ops S E Z rest (fun ρ => (A ρ).put (some d) (ρ d)) ((d, F) :: Fs)) : Walk P ops S E Z (o :: rest) A Fs := by
  refine settle_value F hE hd (fun ρ => by simp [Region.wanted, hg]) (fun ρ w hS hFs => ?_) h
  have key : ∀ (l : List (Tmp × Fact E)), FactsOK (o.looksAt ops) ρ w l → (t, F) ∈ l → F.holds (ρ t) w := by
    intro l
    induction l with
    | nil => exact fun _ h => by cases h
    | cons p r ih =>
      obtain ⟨t', F'⟩ := p
      intro ⟨h1, h2⟩ hm
      rcases List.mem_cons.1 hm with e | hm
      · injection e with e1 e2
        subst e1 e2
        refine h1 ?_
        rcases ho with ho | ho <;> simp [Oper.looksAt, ho, Op.operands]
      · exact ih h2 hm
  refine ⟨ρ t, ?_, key Fs hFs hF⟩
  rcases ho with ho | ho <;> simp [execOp, ho, ht]
/-- THE RULE, with that -/
theorem wp_walk {Q : Exit → Act → World → Prop} {id : Nat} {a : Act} {w : World} {l : List Oper} (hm : P.follows .mixedOrders = true) (hlin : linearB l.toArray = true) (E : World → World → Prop) (S : World → Prop) (hS : S w.drew)
    (h : Walk P l.toArray S E (fun A Fs => ∀ ρ w', S w' → (∀ t F, (t, F) ∈ Fs → F.holds (ρ t) w') → Q .normal (A ρ) w') l (fun _ => a) []) : (Code.region id l.toArray true).wp P Q a w :=
  wp_settle hm hlin E S hS h.out
end
end Go.Proofs.YtkjmddgnfgbioaaDoor


namespace Go.Proofs.YtkjmddgnfgbioaaDoor
set_option linter.unusedVariables false
set_option linter.unusedSimpArgs false
set_option maxRecDepth 100000
open Go

section
variable {P : Program} {ops : Array Oper} {Q : Exit → Act → World → Prop} {S : World → Prop} {E : World → World → Prop}

theorem wpAny_seq_more {md : Region.Mode} (x : Nat) : ∀ (l : List Oper) (k : Nat) (listed : Array Bool) (a : Act) (w : World), (∀ j, l[j]? = ops[k + j]?) →
    Region.seqB md ops l.length k listed = true → wpList P ops Q l a w → wpAny P md ops Q (l.length + x) listed a w
  | [], _, listed, _, _, _, hB, h => by
    have hr : Region.ready md ops listed = [] := by simpa [Region.seqB] using hB
    rcases x with _ | x
    · exact ⟨hr, h⟩
    · rw [show ([] : List Oper).length + (x + 1) = x + 1 by simp]
      exact ⟨fun _ => h, fun i hi => by rw [hr] at hi; cases hi⟩
  | o :: l, k, listed, a, w, hl, hB, h => by
    have h0 : ops[k]? = some o := by simpa using (hl 0).symm
    simp only [List.length_cons, Region.seqB, Bool.and_eq_true, decide_eq_true_eq] at hB
    rw [show (o :: l).length + x = (l.length + x) + 1 by simp only [List.length_cons]; omega]
    refine ⟨fun h1 => (by rw [hB.1] at h1; cases h1), fun i hi => ?_⟩
    rw [hB.1] at hi
    have hik : i = k := by simpa using hi
    subst hik
    have hw : wpOp P ops Q i (wpList P ops Q l) a w := by unfold wpOp; simp only [h0]; exact h
    exact wpOp_mono (fun a' w' h' => wpAny_seq_more x l (i + 1) _ a' w' (fun j => by have := hl (j + 1); simpa [Nat.add_assoc, Nat.add_comm 1 j] using this) hB.2 h') hw

/-- of the first n operations: the order of the text is one, and what is not apart waits -/
def linearNB (ops : Array Oper) (n : Nat) : Bool :=
  Region.noSelect ops && (List.range n).all fun j =>
    match ops[j]? with
    | none => true
    | some oj => oj.after.all (fun e => !Region.binds .any e || decide (e.on < j)) && !((oj.dst.map fun d => (oj.looksAt ops).contains d).getD false) && (List.range j).all fun i =>
      match ops[i]? with
      | none => true
      | some oi => (oi.apart ops oj || oj.after.any (fun e => Region.binds .any e && e.on == i)) && (match oi.dst with | some d => oj.dst != some d | none => true)

structure LinearN (ops : Array Oper) (n : Nat) : Prop where
  sel : ∀ (j : Nat) (o : Oper) cs b, ops[j]? = some o → o.op ≠ .select cs b
  back : ∀ (j : Nat) (o : Oper), j < n → ops[j]? = some o → ∀ e ∈ o.after, Region.binds .any e = true → e.on < j
  self : ∀ (j : Nat) (o : Oper) d, j < n → ops[j]? = some o → o.dst = some d → d ∉ o.looksAt ops
  wait : ∀ (i j : Nat) (oi oj : Oper), i < j → j < n → ops[i]? = some oi → ops[j]? = some oj → oi.apart ops oj = true ∨ ∃ e ∈ oj.after, Region.binds .any e = true ∧ e.on = i
  dist : ∀ (i j : Nat) (oi oj : Oper) d, i < j → j < n → ops[i]? = some oi → ops[j]? = some oj → oi.dst = some d → oj.dst ≠ some d

theorem linearN_of {n : Nat} (h : linearNB ops n = true) : LinearN ops n := by
  unfold linearNB at h
  rw [Bool.and_eq_true, List.all_eq_true] at h
  obtain ⟨h0, h⟩ := h
  have key : ∀ (j : Nat) (oj : Oper), j < n → ops[j]? = some oj → _ := fun j oj hjn hj => by
    have := h j (List.mem_range.2 hjn)
    rw [hj] at this
    simp only [Bool.and_eq_true] at this
    exact this
  refine ⟨Region.noSelect_spec h0, fun j o hjn ho e he hb => ?_, fun j o d hjn ho hd hmem => ?_, fun i j oi oj hij hjn hi hj => ?_, fun i j oi oj d hij hjn hi hj hd => ?_⟩
  · have := (key j o hjn ho).1.1
    rw [Array.all_eq_true_iff_forall_mem] at this
    have := this e he
    simpa [hb] using this
  · have := (key j o hjn ho).1.2
    rw [hd] at this
    simp [hmem] at this
  · have := (List.all_eq_true.1 (key j oj hjn hj).2) i (List.mem_range.2 hij)
    rw [hi] at this
    simp only [Bool.and_eq_true, Bool.or_eq_true] at this
    rcases this.1 with h | h
    · exact .inl h
    · obtain ⟨n, hn, hb⟩ := Array.any_eq_true.1 h
      simp only [Bool.and_eq_true, beq_iff_eq] at hb
      exact .inr ⟨_, Array.getElem_mem hn, hb.1, hb.2⟩
  · have := (List.all_eq_true.1 (key j oj hjn hj).2) i (List.mem_range.2 hij)
    rw [hi] at this
    simp only [Bool.and_eq_true] at this
    have h2 := this.2
    rw [hd] at h2
    simpa using h2

theorem getD_ext {x y : Array Bool} (hs : x.size = y.size) (h : ∀ i, x.getD i false = y.getD i false) : x = y := by
  apply Array.ext hs
  intro i h1 h2
  have := h i
  simpa [h1, h2] using this

theorem any_order_tail {a0 : Act} {full : List (Oper × Kind E)} {n : Nat} (hn : n < ops.size) (hops : full.map (·.1) = ops.toList.take n) (hlin : LinearN ops n) (hsk : Region.sinkB .any ops n = true) (hch : Region.chainB .any ops n = true)
    (hsq : ∀ listed : Array Bool, listed.size = ops.size → (∀ i, i < n → listed.getD i false = true) → (∀ i, n ≤ i → listed.getD i false = false) → Region.seqB .any ops (ops.size - n) n listed = true) (hp : Plan P ops S a0 full)
    (hZ : ∀ ρ w, S w → (∀ t F, (t, F) ∈ factsOf full → F.holds (ρ t) w) → wpList P ops Q (ops.toList.drop n) (actOf a0 ρ full) w) :
    ∀ (fuel : Nat) (listed : Array Bool) (a : Act) (w : World) (ρ : Env), HeadInv .any ops n listed →
      (∃ todo : List Nat, todo.length ≤ fuel ∧ ∀ i, i < n → listed.getD i false = false → i ∈ todo) →
      Holds a0 full (fun i => listed.getD i false = true) ρ a → S w → (∀ (i : Nat) (p : Oper × Kind E) (F : Fact E) (d : Tmp), listed.getD i false = true → full[i]? = some p → p.2 = .fresh F → p.1.dst = some d → F.holds (ρ d) w) →
      wpAny P .any ops Q (fuel + (ops.size - n)) listed a w := by
  have hget : ∀ (i : Nat) (p : Oper × Kind E), full[i]? = some p → ops[i]? = some p.1 := fun i p h => by
    have : (full.map (·.1))[i]? = some p.1 := by simp [h]
    rw [hops, List.getElem?_take] at this
    split at this
    · simpa using this
    · cases this
  have hlen : full.length = n := by
    have := congrArg List.length hops
    simp only [List.length_map, List.length_take, Array.length_toList] at this
    omega
  have hget' : ∀ (i : Nat) (o : Oper), i < n → ops[i]? = some o → ∃ p : Oper × Kind E, full[i]? = some p ∧ p.1 = o := fun i o hin h => by
    have hi : i < full.length := by rw [hlen]; exact hin
    have h1 := hget i _ (List.getElem?_eq_getElem hi)
    rw [h] at h1
    injection h1 with h1
    exact ⟨_, List.getElem?_eq_getElem hi, h1.symm⟩
  have hdist : ∀ (i j : Nat) (p q : Oper × Kind E) (d : Tmp), i < j → full[i]? = some p → full[j]? = some q → p.1.dst = some d → q.1.dst ≠ some d := fun i j p q d hij h1 h2 => hlin.dist i j _ _ d hij (by have := (List.getElem?_eq_some_iff.1 h2).1; omega) (hget i p h1) (hget j q h2)
  have hdist2 : ∀ (i j : Nat) (p q : Oper × Kind E) (d : Tmp), i ≠ j → full[i]? = some p → full[j]? = some q → p.1.dst = some d → q.1.dst ≠ some d := fun i j p q d hij h1 h2 hd hd' => by
    rcases Nat.lt_or_gt_of_ne hij with h | h
    · exact hdist i j p q d h h1 h2 hd hd'
    · exact hdist j i q p d h h2 h1 hd' hd
  -- all have come up
  have fin : ∀ (fuel : Nat) (listed : Array Bool) (a : Act) (w : World) (ρ : Env), HeadInv .any ops n listed → (∀ i, i < n → listed.getD i false = true) → Holds a0 full (fun i => listed.getD i false = true) ρ a → S w →
      (∀ (i : Nat) (p : Oper × Kind E) (F : Fact E) (d : Tmp), listed.getD i false = true → full[i]? = some p → p.2 = .fresh F → p.1.dst = some d → F.holds (ρ d) w) → wpAny P .any ops Q (fuel + (ops.size - n)) listed a w := fun fuel listed a w ρ inv hall hH hS hF => by
    have h1 : Holds a0 full (fun i => i < full.length) ρ (actOf a0 ρ full) := by
      have := holds_prefix a0 full ρ hdist full.length (Nat.le_refl _)
      rwa [List.take_length] at this
    have h2 : Holds a0 full (fun i => i < full.length) ρ a :=
      ⟨hH.defers, hH.size, fun t ht => hH.far t fun i p hi hp => ht i p (List.getElem?_eq_some_iff.1 hp).1 hp, fun i p t hi => hH.near i p t (hall i (by omega))⟩
    rw [h2.unique h1]
    have hz := hZ ρ w hS fun t F hm => by
      rcases mem_facts hm with h | ⟨i, p, h1, h2, h3⟩
      · cases h
      · exact hF i p F t (hall i (by have := (List.getElem?_eq_some_iff.1 h1).1; omega)) h1 h2 h3
    have hdl : (ops.toList.drop n).length = ops.size - n := by simp
    have hs := hsq listed inv.size hall (fun i hi => by
      rcases Nat.lt_or_ge i ops.size with h | h
      · exact getD_both (inv.tail i hi h)
      · simp [Array.getD, inv.size, Nat.not_lt.2 h])
    have := wpAny_seq_more fuel (ops.toList.drop n) n listed (actOf a0 ρ full) w (fun j => by simp [List.getElem?_drop]) (by rw [hdl]; exact hs) hz
    rwa [hdl, Nat.add_comm] at this
  have none_left : ∀ listed : Array Bool, HeadInv .any ops n listed → Region.ready .any ops listed = [] → ∀ m i, i < m → i < n → listed.getD i false = true := by
    intro listed inv hr m
    induction m with
    | zero => intro i h; omega
    | succ m ih =>
      intro i hi hin
      cases hli : listed.getD i false with
      | true => rfl
      | false =>
        have hlt : i < ops.size := by omega
        have ho : ops[i]? = some ops[i] := Array.getElem?_eq_getElem hlt
        have hmem : i ∈ Region.ready .any ops listed := by
          rw [mem_ready]
          refine ⟨?_, _, ho, fun e he hb => ?_⟩
          · simp only [Array.getD, inv.size, hlt, dif_pos] at hli ⊢
            exact hli
          · have := hlin.back i _ hin ho e he hb
            exact ih e.on (by omega) (by omega)
        rw [hr] at hmem
        cases hmem
  have some_left : ∀ listed : Array Bool, (∀ i, i < n → listed.getD i false = true) ∨ ∃ i, i < n ∧ listed.getD i false = false := fun listed => by
    by_cases h : ∃ i, i < n ∧ listed.getD i false = false
    · exact .inr h
    · exact .inl fun i hi => by
        cases hl : listed.getD i false with
        | true => rfl
        | false => exact (h ⟨i, hi, hl⟩).elim
  intro fuel
  induction fuel with
  | zero =>
    intro listed a w ρ inv ⟨todo, htodo, hin⟩ hH hS hF
    have hall : ∀ i, i < n → listed.getD i false = true := fun i hi => by
      cases hli : listed.getD i false with
      | true => rfl
      | false =>
        have := hin i hi hli
        rw [List.eq_nil_of_length_eq_zero (Nat.le_zero.1 htodo)] at this
        cases this
    exact fin 0 listed a w ρ inv hall hH hS hF
  | succ fuel ih =>
    intro listed a w ρ inv ⟨todo, htodo, hin⟩ hH hS hF
    rcases some_left listed with hall | ⟨i0, hi0, hl0⟩
    · exact fin (fuel + 1) listed a w ρ inv hall hH hS hF
    have hsz := inv.size
    rw [show fuel + 1 + (ops.size - n) = (fuel + (ops.size - n)) + 1 by omega]
    refine ⟨fun hr => ?_, fun i hi => ?_⟩
    · have := none_left listed inv hr (i0 + 1) i0 (by omega) hi0
      rw [hl0] at this
      cases this
    have hilt : i < n := by
      rcases Nat.lt_or_ge i n with h | h
      · exact h
      · exact absurd hi (tail_waits hsk hch hn inv _ i0 rfl hi0 (getD_in (by omega) hl0) i h)
    obtain ⟨h0, o, ho, hall⟩ := mem_ready.1 hi
    have hlt := (Array.getElem?_eq_some_iff.1 ho).1
    have h0' : listed.getD i false = false := by
      simp only [Array.getD, hsz, hlt, dif_pos] at h0 ⊢
      exact h0
    obtain ⟨p, hpi, rfl⟩ := hget' i o hilt ho
    have hil : i < full.length := by omega
    have hpre : Holds a0 full (fun j => j < i) ρ (actOf a0 ρ (full.take i)) := holds_prefix a0 full ρ hdist i (by omega)
    have hsplit : full = full.take i ++ p :: full.drop (i + 1) := by
      have : full[i] = p := by have := List.getElem?_eq_getElem hil; rw [hpi] at this; injection this with this; exact this.symm
      rw [← this, List.getElem_cons_drop, List.take_append_drop]
    have hstep := hp.step _ p _ hsplit ρ w hS
    have conf : ∀ (j : Nat) (q : Oper × Kind E), full[j]? = some q → ∀ t, q.1.dst = some t → t ∈ p.1.looksAt ops → (listed.getD j false = true ↔ j < i) := by
      intro j q hq t hd hl
      have hoj := hget j q hq
      have hjn : j < n := by have := (List.getElem?_eq_some_iff.1 hq).1; omega
      rcases Nat.lt_trichotomy j i with h | h | h
      · refine ⟨fun _ => h, fun _ => ?_⟩
        rcases hlin.wait j i _ _ h hilt hoj ho with hap | ⟨e, he, hb, hon⟩
        · exact absurd hl ((Oper.apart_spec hap).1 t hd)
        · rw [← hon]; exact hall e he hb
      · subst h
        rw [hpi] at hq
        injection hq with hq
        subst hq
        exact absurd hl (hlin.self j _ t hilt ho hd)
      · refine ⟨fun hj => ?_, fun h' => by omega⟩
        exfalso
        rcases hlin.wait i j _ _ h hjn ho hoj with hap | ⟨e, he, hb, hon⟩
        · exact absurd hl ((Oper.apart_spec hap).2.2 t hd)
        · have := inv.closed j _ hoj hj e he hb
          rw [hon, h0'] at this
          cases this
    have hfacts : FactsOK (p.1.looksAt ops) ρ w (factsOf (full.take i)) := factsOK_of _ fun t F hm hl => by
      rcases mem_facts hm with h | ⟨j, q, h1, h2, h3⟩
      · cases h
      · have hji : j < i := by
          have := (List.getElem?_eq_some_iff.1 h1).1
          rw [List.length_take] at this
          omega
        have hq : full[j]? = some q := by
          rw [List.getElem?_take, if_pos hji] at h1
          exact h1
        exact hF j q F t ((conf j q hq t h3 (by simpa using hl)).2 hji) hq h2 h3
    have hst := hstep hfacts
    have hag : ∀ t, t ∈ p.1.looksAt ops → a.tmps[t]? = (actOf a0 ρ (full.take i)).tmps[t]? := fun t ht =>
      hH.agree hpre t fun j q hq hd => conf j q hq t hd ht
    have hexec : execOp a.eval p.1 = execOp (actOf a0 ρ (full.take i)).eval p.1 := execOp_congr p.1 (fun cs b => hlin.sel i _ cs b ho) fun x hx => by
      cases x with
      | tmp t =>
        have := hag t (List.mem_append_left _ (List.mem_filterMap.2 ⟨.tmp t, by simpa using hx, rfl⟩))
        simp only [Act.eval, Array.getD_eq_getD_getElem?]
        rw [this]
      | _ => rfl
    have hwant : Region.wanted p.1 (yielded ops a.tmps) = Region.wanted p.1 (yielded ops (actOf a0 ρ (full.take i)).tmps) := by
      unfold Region.wanted
      cases hg : p.1.guard with
      | none => rfl
      | some gw =>
        obtain ⟨g, want⟩ := gw
        have : yielded ops a.tmps g = yielded ops (actOf a0 ρ (full.take i)).tmps g := by
          unfold yielded
          cases ht : (ops[g]?).bind (·.dst) with
          | none => rfl
          | some t =>
            have := hag t (List.mem_append_right _ (by simp [hg, ht]))
            simp only [Option.bind_some, this]
        simp only [this]
    have size_eq : (actOf a0 ρ (full.take i)).tmps.size = a.tmps.size := hpre.size.trans hH.size.symm
    -- the way on
    have go : ∀ v w', p.2.rel v w' → S w' → (∀ (j : Nat) (q : Oper × Kind E) (F : Fact E) (d : Tmp), listed.getD j false = true → full[j]? = some q → q.2 = .fresh F → q.1.dst = some d → F.holds (ρ d) w') →
        wpAny P .any ops Q (fuel + (ops.size - n)) (listed.setIfInBounds i true) (a.put p.1.dst v) w' := by
      intro v w' hR hS' hF'
      have next : ∀ ρ' : Env, p.2.val ρ' p.1 = v → (∀ j q, j ≠ i → full[j]? = some q → q.2.val ρ' q.1 = q.2.val ρ q.1) → (∀ j q F d, j ≠ i → full[j]? = some q → q.2 = .fresh F → q.1.dst = some d → ρ' d = ρ d) → (∀ F d, p.2 = .fresh F → p.1.dst = some d → F.holds (ρ' d) w') →
          wpAny P .any ops Q (fuel + (ops.size - n)) (listed.setIfInBounds i true) (a.put p.1.dst v) w' := by
        intro ρ' hv hothers hd' hself
        have hset : ∀ j, (listed.setIfInBounds i true).getD j false = true ↔ j = i ∨ listed.getD j false = true := fun j => by
          by_cases hji : j = i
          · subst hji
            simp [Array.getD, hsz, hlt]
          · rw [getD_set_ne false (Ne.symm hji)]
            simp [hji]
        refine ih _ _ _ ρ' (inv.set hi hilt) ⟨todo.filter (· != i), ?_, fun j hj hjl => ?_⟩ ?_ hS' (fun j q F d hj hq hf hd => ?_)
        · have : (todo.filter (· != i)).length < todo.length := by
            rw [List.length_filter_lt_length_iff_exists]
            exact ⟨i, hin i hilt h0', by simp⟩
          omega
        · have hne : j ≠ i := fun e => by
            have := (hset j).2 (.inl e)
            rw [this] at hjl
            cases hjl
          refine List.mem_filter.2 ⟨hin j hj ?_, by simpa using hne⟩
          rwa [getD_set_ne false (Ne.symm hne)] at hjl
        · have := hH.put (ρ' := ρ') hpi hset (fun j q hj hq d hd => hdist2 j i q p d (fun e => by rw [e, h0'] at hj; cases hj) hq hpi hd) (fun j q hj hq => hothers j q (fun e => by rw [e, h0'] at hj; cases hj) hq)
          rwa [hv] at this
        · rcases (hset j).1 hj with rfl | hj
          · rw [hpi] at hq
            injection hq with hq
            subst hq
            exact hself F d hf hd
          · have hne : j ≠ i := fun e => by rw [e, h0'] at hj; cases hj
            rw [hd' j q F d hne hq hf hd]
            exact hF' j q F d hj hq hf hd
      cases hk : p.2 with
      | fixed v0 =>
        have hv : v = v0 := by rw [hk] at hR; exact hR
        exact next ρ (by rw [hk]; exact hv.symm) (fun _ _ _ _ => rfl) (fun _ _ _ _ _ _ _ _ => rfl) (fun F d hf => by rw [hk] at hf; cases hf)
      | fresh F =>
        obtain ⟨d, hd⟩ := hp.dst p (by rw [hsplit]; simp) ⟨F, hk⟩
        have hR' : F.holds v w' := by rw [hk] at hR; exact hR
        have hne : ∀ j q d', j ≠ i → full[j]? = some q → q.1.dst = some d' → d' ≠ d := fun j q d' hji hq hd' e => hdist2 j i q p d' hji hq hpi hd' (by rw [hd, e])
        refine next (fun t => if t = d then v else ρ t) (by rw [hk]; simp [Kind.val, hd]) (fun j q hji hq => ?_) (fun j q F' d' hji hq _ hd' => if_neg (hne j q d' hji hq hd')) (fun F' d' hf hd' => ?_)
        · cases hkq : q.2 with
          | fixed v0 => rfl
          | fresh F' =>
            obtain ⟨d', hd'⟩ := hp.dst q (List.mem_of_getElem? hq) ⟨F', hkq⟩
            simp only [Kind.val, hd']
            exact if_neg (hne j q d' hji hq hd')
        · rw [hk] at hf
          injection hf with hf
          rw [hd] at hd'
          injection hd' with hd'
          subst hf hd'
          simpa using hR'
    unfold wpOp
    simp only [ho]
    unfold StepTo at hst
    rw [← hwant] at hst
    split
    · rename_i hw
      rw [if_pos hw] at hst
      refine .inl (wp_carry (R := fun v w' => p.2.rel v w' ∧ S w' ∧ E w w') hexec size_eq (hst _ fun v w' h1 h2 h3 => ⟨v, rfl, h1, h2, h3⟩) fun v w' ⟨h1, h2, h3⟩ => go v w' h1 h2 fun j q F d hj hq hf hd => F.keep _ _ _ (hF j q F d hj hq hf hd) h3)
    · rename_i hw
      rw [if_neg hw] at hst
      exact go undef w hst hS hF


/-- what is asked of the operations, n of them ahead of the tail -/
def tailB (ops : Array Oper) (n : Nat) : Bool :=
  decide (n < ops.size) && linearNB ops n && Region.sinkB .any ops n && Region.chainB .any ops n && Region.seqB .any ops (ops.size - n) n ((Array.replicate n true) ++ (Array.replicate (ops.size - n) false))

/-- THE RULE, with a tail -/
theorem wp_walk_tail {id : Nat} {a : Act} {w : World} {l : List Oper} (n : Nat) (hm : P.follows .mixedOrders = true) (hB : tailB l.toArray n = true) (E : World → World → Prop) (S : World → Prop) (hS : S w.drew)
    (h : Walk P l.toArray S E (fun A Fs => ∀ ρ w', S w' → (∀ t F, (t, F) ∈ Fs → F.holds (ρ t) w') → wpList P l.toArray Q (l.drop n) (A ρ) w') (l.take n) (fun _ => a) []) : (Code.region id l.toArray true).wp P Q a w := by
  simp only [tailB, Bool.and_eq_true, decide_eq_true_eq] at hB
  obtain ⟨⟨⟨⟨hn, hlin⟩, hs⟩, hc⟩, hq⟩ := hB
  obtain ⟨full, hp, he, hZ⟩ := settle_plan (l.take n) [] ⟨(fun _ h => by cases h), (fun pre p post he => by simp at he)⟩ h.out
  have inv0 : HeadInv .any l.toArray n (Array.replicate l.toArray.size false) :=
    ⟨by simp, fun j oj _ hl => (by rw [getD_replicate_false] at hl; cases hl), fun t _ ht => getD_in (by simpa using ht) (getD_replicate_false _ _)⟩
  have := any_order_tail (P := P) (Q := Q) hn (by simpa using he) (linearN_of hlin) hs hc (fun listed hsz h1 h2 => by
    have hn' := hn
    rw [show listed = (Array.replicate n true) ++ (Array.replicate (l.toArray.size - n) false) from getD_ext (by simp only [Array.size_append, Array.size_replicate]; omega) fun i => by
      rw [Array.getD_eq_getD_getElem? (xs := _ ++ _), Array.getElem?_append]
      rcases Nat.lt_or_ge i n with h | h
      · rw [h1 i h]
        simp [h]
      · rw [h2 i h]
        simp only [Array.size_replicate, Nat.not_lt.2 h, if_false, Array.getElem?_replicate]
        split <;> rfl]
    exact hq) hp hZ n _ a w.drew (fun _ => undef) inv0 ⟨List.range n, by simp, fun i hi _ => List.mem_range.2 hi⟩ ⟨rfl, rfl, fun _ _ => rfl, fun i p t hi => ?_⟩ hS fun i p F d hi => ?_
  · refine wp_region_any hm ?_
    rwa [show n + (l.toArray.size - n) = l.toArray.size by omega] at this
  · exfalso; rw [getD_replicate_false] at hi; cases hi
  · exfalso; rw [getD_replicate_false] at hi; cases hi

/-- all but the last one -/
theorem wp_walk_last {id : Nat} {a : Act} {w : World} {l : List Oper} (hm : P.follows .mixedOrders = true) (hB : tailB l.toArray (l.length - 1) = true) (E : World → World → Prop) (S : World → Prop) (hS : S w.drew)
    (h : Walk P l.toArray S E (fun A Fs => ∀ ρ w', S w' → (∀ t F, (t, F) ∈ Fs → F.holds (ρ t) w') → wpList P l.toArray Q (l.drop (l.length - 1)) (A ρ) w') (l.take (l.length - 1)) (fun _ => a) []) : (Code.region id l.toArray true).wp P Q a w :=
  wp_walk_tail (l.length - 1) hm hB E S hS h
end
end Go.Proofs.YtkjmddgnfgbioaaDoor


namespace Go.Proofs.YtkjmddgnfgbioaaDoor
set_option linter.unusedVariables false
set_option linter.unusedSimpArgs false
set_option maxRecDepth 100000
open Go.RowKit

theorem allocs2 (w : World) (c0 c1 : List Value) (t0 t1 : TypeId) : Blk ((w.alloc (.cells c0.toArray t0)).alloc (.cells c1.toArray t1)) w.heap.size t0 c0 ∧ Blk ((w.alloc (.cells c0.toArray t0)).alloc (.cells c1.toArray t1)) (w.heap.size + 1) t1 c1 ∧ ((w.alloc (.cells c0.toArray t0)).alloc (.cells c1.toArray t1)).heap.size = w.heap.size + 1 + 1 ∧ Below w.heap.size w ((w.alloc (.cells c0.toArray t0)).alloc (.cells c1.toArray t1)) := by
  have h0 := Blk.new w t0 c0
  have h1 := Blk.new (w.alloc (.cells c0.toArray t0)) t1 c1
  rw [show (w.alloc (.cells c0.toArray t0)).heap.size = w.heap.size + 1 by simp] at h1
  exact ⟨h0.alloc _, h1, by simp, below_alloc (below_alloc (Below.refl _ _) _) _⟩
theorem allocs3 (w : World) (c0 c1 c2 : List Value) (t0 t1 t2 : TypeId) : Blk (((w.alloc (.cells c0.toArray t0)).alloc (.cells c1.toArray t1)).alloc (.cells c2.toArray t2)) w.heap.size t0 c0 ∧ Blk (((w.alloc (.cells c0.toArray t0)).alloc (.cells c1.toArray t1)).alloc (.cells c2.toArray t2)) (w.heap.size + 1) t1 c1 ∧
    Blk (((w.alloc (.cells c0.toArray t0)).alloc (.cells c1.toArray t1)).alloc (.cells c2.toArray t2)) (w.heap.size + 1 + 1) t2 c2 ∧ (((w.alloc (.cells c0.toArray t0)).alloc (.cells c1.toArray t1)).alloc (.cells c2.toArray t2)).heap.size = w.heap.size + 1 + 1 + 1 ∧ Below w.heap.size w (((w.alloc (.cells c0.toArray t0)).alloc (.cells c1.toArray t1)).alloc (.cells c2.toArray t2)) := by
  obtain ⟨h0, h1, hz, hb⟩ := allocs2 w c0 c1 t0 t1
  have h2 := Blk.new ((w.alloc (.cells c0.toArray t0)).alloc (.cells c1.toArray t1)) t2 c2
  rw [hz] at h2
  exact ⟨h0.alloc _, h1.alloc _, h2, by simp, below_alloc hb _⟩

def Ex.zeros : List Value := [.int .i64 0, .int .i64 0, .string ⟨#[]⟩, .slice none 0 0]
theorem xcells_one (k n : Int) (s : ByteArray) (A : Option Addr) (len cap : Nat) : ∀ v ∈ xcells k n s A len cap, v.oneCell' = true := by
  intro v hv
  simp only [xcells, List.mem_cons, List.not_mem_nil, or_false] at hv
  rcases hv with rfl | rfl | rfl | rfl <;> rfl

/-- 'two' of what has two -/
theorem two_yes (B : Nat) (w : World) (cs : List Value) (k : Int) (e0 e1 : Ex.X) (h : XR B w cs (.two k e0 e1)) (hB : B ≤ w.heap.size) :
    Calls Tryd.prog 142 #[.agg cs.toArray] w fun e w' => ∃ cs0 cs1, e = .returned (.tuple #[.agg cs0.toArray, .agg cs1.toArray, .bool true]) ∧ XR B w cs0 e0 ∧ XR B w cs1 e1 ∧ Below w.heap.size w w' := by
  cases h with
  | two k n s g o len cap cs0 cs1 e0 e1 hle hm hk3 hk9 h2 hg h5 h6 r0 r1 =>
  obtain ⟨a0, a1, a2, A3, a4, a5, rfl, -, -⟩ := r0.form
  obtain ⟨b0, b1, b2, B3, b4, b5, rfl, -, -⟩ := r1.form
  have x0 := h5 0 _ rfl
  have x1 := h5 1 _ rfl
  have x2 := h5 2 _ rfl
  have x3 := h5 3 _ rfl
  have y0 := h6 0 _ rfl
  have y1 := h6 1 _ rfl
  have y2 := h6 2 _ rfl
  have y3 := h6 3 _ rfl
  rw [Nat.add_zero] at x0 y0
  unfold maxLen at hm
  have hgw : g < w.heap.size := by omega
  have old : ∀ (o0 o1 o2 : Obj) (j : Nat), (((w.alloc o0).alloc o1).alloc o2).cell? ⟨g, j, none⟩ = w.cell? ⟨g, j, none⟩ := fun o0 o1 o2 j =>
    (below_alloc (below_alloc (below_alloc (Below.refl _ w) o0) o1) o2).cell (p := ⟨g, j, none⟩) hgw
  have x0' := fun o0 o1 o2 => (old o0 o1 o2 _).trans x0
  have x1' := fun o0 o1 o2 => (old o0 o1 o2 _).trans x1
  have x2' := fun o0 o1 o2 => (old o0 o1 o2 _).trans x2
  have x3' := fun o0 o1 o2 => (old o0 o1 o2 _).trans x3
  have y0' := fun o0 o1 o2 => (old o0 o1 o2 _).trans y0
  have y1' := fun o0 o1 o2 => (old o0 o1 o2 _).trans y1
  have y2' := fun o0 o1 o2 => (old o0 o1 o2 _).trans y2
  have y3' := fun o0 o1 o2 => (old o0 o1 o2 _).trans y3
  clear old x0 x1 x2 x3 y0 y1 y2 y3
  unfold xcells
  have R0 := Lib.hid r0
  have R1 := Lib.hid r1
  have g1 : decide (k < 3) = false := by simp; omega
  have g2 : decide (9 < k) = false := by simp; omega
  have g3 : decide ((len : Int) < 2) = false := by simp; omega
  have g3' : decide (len < 2) = false := by simp; omega
  have m0 : (0 : Int) < (len : Int) := by omega
  have m1 : (1 : Int) < (len : Int) := by omega
  have m2 : 0 < len := by omega
  have m3 : 1 < len := by omega
  clear h5 h6 r0 r1
  go_enter Tryd.func142, Tryd.ntmps142
  go_wp2_with fail
  go_region_with (fail)
  all_goals
    go_wp2
    exact bodyPost_ret (v := .tuple #[.agg #[.int .i64 a0, .int .i64 a1, .string a2, .slice A3 a4 a5], .agg #[.int .i64 b0, .int .i64 b1, .string b2, .slice B3 b4 b5], .bool true]) (by simp [results, Tryd.results142, go_sem]) rfl ⟨_, _, rfl, R0.out, R1.out, (by repeat (first | exact Below.refl _ _ | apply below_drew | apply below_alloc))⟩

/-- 'two' of what has none -/
theorem two_no (w : World) (k n : Int) (s : ByteArray) (A : Option Addr) (len cap : Nat) (hno : ¬ ((3 ≤ k ∧ k ≤ 9) ∧ 2 ≤ len)) (hle : len ≤ cap) (hm : cap ≤ maxLen) :
    Calls Tryd.prog 142 #[.agg (xcells k n s A len cap).toArray] w fun e w' => e = .returned (.tuple #[.agg Ex.zeros.toArray, .agg Ex.zeros.toArray, .bool false]) ∧ Below w.heap.size w w' := by
  unfold xcells Ex.zeros
  unfold maxLen at hm
  by_cases h1 : k < 3
  · have g1 : decide (k < 3) = true := by simpa using h1
    clear hno
    go_enter Tryd.func142, Tryd.ntmps142
    go_wp2_with fail
    go_region_with (fail)
    all_goals
      go_wp2
      exact bodyPost_ret (v := .tuple #[.agg #[.int .i64 0, .int .i64 0, .string ⟨#[]⟩, .slice none 0 0], .agg #[.int .i64 0, .int .i64 0, .string ⟨#[]⟩, .slice none 0 0], .bool false]) (by simp [results, Tryd.results142, go_sem]) rfl ⟨rfl, (by repeat (first | exact Below.refl _ _ | apply below_drew | apply below_alloc))⟩
  have g1 : decide (k < 3) = false := by simpa using h1
  by_cases h2 : 9 < k
  · have g2 : decide (9 < k) = true := by simpa using h2
    clear hno
    go_enter Tryd.func142, Tryd.ntmps142
    go_wp2_with fail
    go_region_with (fail)
    all_goals
      go_wp2
      exact bodyPost_ret (v := .tuple #[.agg #[.int .i64 0, .int .i64 0, .string ⟨#[]⟩, .slice none 0 0], .agg #[.int .i64 0, .int .i64 0, .string ⟨#[]⟩, .slice none 0 0], .bool false]) (by simp [results, Tryd.results142, go_sem]) rfl ⟨rfl, (by repeat (first | exact Below.refl _ _ | apply below_drew | apply below_alloc))⟩
  have g2 : decide (9 < k) = false := by simpa using h2
  have g3 : decide ((len : Int) < 2) = true := by simp; omega
  have g3' : decide (len < 2) = true := by simp; omega
  clear hno h1 h2
  go_enter Tryd.func142, Tryd.ntmps142
  go_wp2_with fail
  go_region_with (fail)
  all_goals
    go_wp2
    exact bodyPost_ret (v := .tuple #[.agg #[.int .i64 0, .int .i64 0, .string ⟨#[]⟩, .slice none 0 0], .agg #[.int .i64 0, .int .i64 0, .string ⟨#[]⟩, .slice none 0 0], .bool false]) (by simp [results, Tryd.results142, go_sem]) rfl ⟨rfl, (by repeat (first | exact Below.refl _ _ | apply below_drew | apply below_alloc))⟩
end Go.Proofs.YtkjmddgnfgbioaaDoor


namespace Go.Proofs.YtkjmddgnfgbioaaDoor
set_option linter.unusedVariables false
set_option linter.unusedSimpArgs false
set_option maxRecDepth 100000
open Go.RowKit

namespace Ex
/-- what 'Do' reckons -/
def doo (k a b : Int) : Int :=
  if k = 3 then wrap64 (a + b) else if k = 4 then wrap64 (a - b) else if k = 5 then wrap64 (a * b) else if k = 8 then (if a < b then 1 else 0) else if k = 9 then (if a = b then 1 else 0)
  else if b = 0 then 0 else if k = 6 then wrap64 (a.tdiv b) else if k = 7 then a.tmod b else 0
end Ex

theorem flag_any (b : Bool) (w : World) : Calls Tryd.prog 160 #[.bool b] w fun e w' => e = .returned (.int .i64 (if b then 1 else 0)) ∧ w = w' := by
  cases b
  all_goals
    go_enter Tryd.func160, Tryd.ntmps160
    go_wp2
    go_ret
    exact ⟨rfl, rfl⟩

set_option maxHeartbeats 2000000 in
theorem do_any (k a b : Int) (w : World) : Calls Tryd.prog 143 #[.int .i64 k, .int .i64 a, .int .i64 b] w fun e w' => e = .returned (.int .i64 (Ex.doo k a b)) ∧ w = w' := by
  by_cases h3 : k = 3
  · subst h3
    go_enter Tryd.func143, Tryd.ntmps143
    go_wp2
    go_ret
    exact ⟨ret_int (by simp [Ex.doo]), rfl⟩
  by_cases h4 : k = 4
  · subst h4
    go_enter Tryd.func143, Tryd.ntmps143
    go_wp2
    go_ret
    exact ⟨ret_int (by simp [Ex.doo]), rfl⟩
  by_cases h5 : k = 5
  · subst h5
    go_enter Tryd.func143, Tryd.ntmps143
    go_wp2
    go_ret
    exact ⟨ret_int (by simp [Ex.doo]), rfl⟩
  by_cases h8 : k = 8
  · subst h8
    have hv : Ex.doo 8 a b = if decide (a < b) = true then 1 else 0 := by simp [Ex.doo]
    rcases hc : decide (a < b) with _ | _
    all_goals
      rw [hc] at hv
      have HV := Lib.hid hv
      clear hv
      go_enter Tryd.func143, Tryd.ntmps143
      go_wp2_with fail
      refine (flag_any _ _).mono ?_
      rintro e w' ⟨rfl, rfl⟩
      go_wp2
      go_ret
      exact ⟨ret_int (by rw [HV.out]; simp), rfl⟩
  by_cases h9 : k = 9
  · subst h9
    have hv : Ex.doo 9 a b = if (a == b) = true then 1 else 0 := by simp [Ex.doo]
    rcases hc : (a == b) with _ | _
    all_goals
      rw [hc] at hv
      have HV := Lib.hid hv
      clear hv
      go_enter Tryd.func143, Tryd.ntmps143
      go_wp2_with fail
      refine (flag_any _ _).mono ?_
      rintro e w' ⟨rfl, rfl⟩
      go_wp2
      go_ret
      exact ⟨ret_int (by rw [HV.out]; simp), rfl⟩
  have e3 : (k == 3) = false := by simpa using h3
  have e4 : (k == 4) = false := by simpa using h4
  have e5 : (k == 5) = false := by simpa using h5
  have e8 : (k == 8) = false := by simpa using h8
  have e9 : (k == 9) = false := by simpa using h9
  by_cases h0 : b = 0
  · subst h0
    have hv := Lib.hid (show Ex.doo k a 0 = 0 by simp [Ex.doo, h3, h4, h5, h8, h9])
    clear h3 h4 h5 h8 h9
    go_enter Tryd.func143, Tryd.ntmps143
    go_wp2
    go_ret
    exact ⟨ret_int (by rw [hv.out]), rfl⟩
  have e0 : (b == 0) = false := by simpa using h0
  by_cases h6 : k = 6
  · subst h6
    have hv := Lib.hid (show Ex.doo 6 a b = wrap64 (a.tdiv b) by simp [Ex.doo, h0])
    clear h3 h4 h5 h8 h9
    go_enter Tryd.func143, Tryd.ntmps143
    go_wp2
    go_ret
    exact ⟨ret_int (by rw [hv.out]), rfl⟩
  by_cases h7 : k = 7
  · subst h7
    have hv := Lib.hid (show Ex.doo 7 a b = a.tmod b by simp [Ex.doo, h0])
    clear h3 h4 h5 h8 h9 h6
    go_enter Tryd.func143, Tryd.ntmps143
    go_wp2
    go_ret
    exact ⟨ret_int (by rw [hv.out]), rfl⟩
  have e6 : (k == 6) = false := by simpa using h6
  have e7 : (k == 7) = false := by simpa using h7
  have hv := Lib.hid (show Ex.doo k a b = 0 by simp [Ex.doo, h3, h4, h5, h8, h9, h6, h7])
  clear h3 h4 h5 h8 h9 h6 h7 h0
  go_enter Tryd.func143, Tryd.ntmps143
  go_wp2
  go_ret
  exact ⟨ret_int (by rw [hv.out]), rfl⟩
end Go.Proofs.YtkjmddgnfgbioaaDoor


namespace Go.Proofs.YtkjmddgnfgbioaaDoor
set_option linter.unusedVariables false
set_option linter.unusedSimpArgs false
set_option maxRecDepth 100000
open Go.RowKit Go.Shelf

attribute [local go_sem] Oper.semAt_some

namespace Ex
abbrev Bd := ByteArray × Int
def bindc (x : Bd) : List Value := [.string x.1, .int .i64 x.2]
def bindcs (l : List Bd) : List Value := l.flatMap bindc
theorem bindcs_length (l : List Bd) : (bindcs l).length = l.length * 2 := flat_length bindc 2 (fun _ => rfl) l
/-- the two cells of one binding -/
theorem bind_cells {w : World} {B : Nat} {A : Option Addr} {zs : List Bd} (h : Cells w B A (bindcs zs)) {k : Nat} {o : Bd} (ho : zs[k]? = some o) :
    ∃ b off, A = some ⟨b, off, none⟩ ∧ b < B ∧ w.cell? ⟨b, off + k * 2, none⟩ = some (.string o.1) ∧ w.cell? ⟨b, off + k * 2 + 1, none⟩ = some (.int .i64 o.2) := by
  have g : ∀ j, j < 2 → (bindcs zs)[k * 2 + j]? = (bindc o)[j]? := fun j hj => flat_get bindc 2 (fun _ => rfl) zs k j o ho hj
  obtain ⟨b, off, hA, hb, hc⟩ := h.at_ (by
    intro h0
    have := g 0 (by decide)
    rw [h0] at this
    simp [bindc] at this)
  exact ⟨b, off, hA, hb, hc _ _ (g 0 (by decide)), hc _ _ (g 1 (by decide))⟩
/-- what has come, m being left: downward -/
def down (zs : List Bd) (m : Nat) : List (Nat × Bd) := ((zs.zipIdx.drop m).map fun x => (x.2, x.1)).reverse
theorem down_all (zs : List Bd) : down zs zs.length = [] := by simp [down]
theorem down_succ (zs : List Bd) (m : Nat) (x : Bd) (h : zs[m]? = some x) : down zs m = down zs (m + 1) ++ [(m, x)] := by
  obtain ⟨hlt, hx⟩ := List.getElem?_eq_some_iff.1 h
  unfold down
  rw [List.drop_eq_getElem_cons (by simpa using hlt)]
  simp [hx]
theorem down_length (zs : List Bd) (m : Nat) : (down zs m).length = zs.length - m := by simp [down]
theorem down_snd (zs : List Bd) (m : Nat) : (down zs m).map Prod.snd = (zs.drop m).reverse := by
  unfold down
  rw [List.map_reverse, List.map_map]
  congr 1
  show List.map Prod.fst (List.drop m zs.zipIdx) = _
  rw [List.map_drop, List.zipIdx_map_fst]
end Ex

/-- the closure -/
theorem backward1_in (F : Fence) (n : Nat) (hF : F.fn 161) (hro : F.round = none) (hn : 1 ≤ n) (l Bs n₀ cap : Nat) (A : Option Addr) (zs : List Ex.Bd) (hreach : zs.length ≤ 8796093022200) (J Jx : List (Nat × Ex.Bd) → World → Prop)
    (hY : ∀ pre x W, J pre W → pre.length < zs.length → YieldAt F (n - 1) Tryd.prog l #[.int .i64 (x.1 : Int), .agg #[.string x.2.1, .int .i64 x.2.2]] W fun e W' =>
      (e = .returned (.bool true) ∧ J (pre ++ [x]) W' ∧ Below n₀ W W') ∨ (e = .returned (.bool false) ∧ Jx (pre ++ [x]) W'))
    (W : World) (hB : Bs < n₀) (hBs : W.cell? ⟨Bs, 0, none⟩ = some (.slice A zs.length cap)) (hc : Cells W n₀ A (Ex.bindcs zs)) (h0 : J [] W) :
    CallsIn F n Tryd.prog 161 #[.func (.yield l) #[] #[], .pointer (some ⟨Bs, 0, none⟩)] W fun e W' => (∃ v, e = .returned v) ∧
      ((J (Ex.down zs 0) W') ∨ (∃ m, m ≤ zs.length ∧ Jx (Ex.down zs m) W')) := by
  refine callsIn_of_wp Tryd.func161 rfl hF ?_ hro
  simp only [Tryd.ntmps161, List.size_toArray, List.length_cons, List.length_nil, Nat.reduceAdd, Nat.reduceSub, Array.replicate_succ, Array.replicate_zero, List.push_toArray, List.append_toArray, List.nil_append, List.cons_append]
  gi_wp2
  gi_loopw [3] (fun i wr => ∃ m : Nat, m ≤ zs.length ∧ i = .int .i64 ((m : Int) - 1) ∧ J (Ex.down zs m) wr ∧ Below n₀ W wr)
    (fun i _ => (intOf i + 1).toNat)
  case atStart => exact ⟨zs.length, Nat.le_refl _, rfl, by rw [Ex.down_all]; exact h0, Below.refl _ _⟩
  case round =>
    obtain ⟨m, hm, rfl, hJs, hnx⟩ := hrel
    have hbx := (hnx.cell (p := ⟨Bs, 0, none⟩) hB).trans hBs
    match m, hm, hJs with
    | 0, _, hJs =>
      gi_wp2
      go_end0
      exact ⟨⟨_, rfl⟩, .inl hJs⟩
    | m + 1, hm, hJs =>
      have hx : zs[m]? = some zs[m] := List.getElem?_eq_getElem hm
      obtain ⟨x, hxx⟩ : ∃ x, x = zs[m] := ⟨_, rfl⟩
      rw [← hxx] at hx
      clear hxx
      obtain ⟨b, off, rfl, hb, hc0, hc1⟩ := Ex.bind_cells hc hx
      have hcx0 := (hnx.cell (p := ⟨b, off + m * 2, none⟩) hb).trans hc0
      have hcx1 := (hnx.cell (p := ⟨b, off + m * 2 + 1, none⟩) hb).trans hc1
      clear hc0 hc1
      rw [show ((m + 1 : Nat) : Int) - 1 = (m : Int) by omega] at *
      obtain ⟨fn, tmps, assign, body, hy, hR⟩ := hY _ (m, x) wr hJs (by rw [Ex.down_length]; omega)
      dsimp only at hy
      rw [← Ex.down_succ zs m x hx] at hR
      gi_wp2
      refine hR.mono ?_
      rintro e W3 (⟨rfl, hJ3, hk3⟩ | ⟨rfl, hJx3⟩)
      · gi_wp2
        go_roundw
        case rel => exact ⟨m, by omega, by simp, hJ3, hnx.trans hk3⟩
        case measure => simp [intOf]
      · gi_wp2
        refine bodyPost_ret (results_none rfl _ _ _) rfl ?_
        exact ⟨⟨_, rfl⟩, .inr ⟨m, by omega, hJx3⟩⟩

/-- slices.Backward: the slice is boxed -/
theorem backward_in (F : Fence) (n : Nat) (hF : F.fn 144) (hro : F.round = none) (a : Option Addr) (len cap : Nat) (w : World) :
    CallsIn F n Tryd.prog 144 #[.slice a len cap] w fun e w' => e = .returned (.func (.func 161) #[] #[.pointer (some ⟨w.heap.size, 0, none⟩)]) ∧ w' = w.alloc (.cells #[.slice a len cap] 162) := by
  refine callsIn_of_wp Tryd.func144 rfl hF ?_ hro
  simp only [Tryd.ntmps144, List.size_toArray, List.length_cons, List.length_nil, Nat.reduceAdd, Nat.reduceSub, Array.replicate_succ, Array.replicate_zero, List.push_toArray, List.append_toArray, List.nil_append, List.cons_append]
  gi_wp2
  go_ret
  exact ⟨rfl, rfl⟩

/-- .. and hands back what goes down the slice -/
theorem backward_stops (F : Fence) (n : Nat) (hF : F.fn 161) (hro : F.round = none) (hn : 1 ≤ n) (Bs n₀ cap : Nat) (A : Option Addr) (zs : List Ex.Bd) (hreach : zs.length ≤ 8796093022200) (w : World) (hB : Bs < n₀) (hn₀ : n₀ ≤ w.heap.size)
    (hb : w.cell? ⟨Bs, 0, none⟩ = some (.slice A zs.length cap)) (hc : Cells w n₀ A (Ex.bindcs zs)) :
    SeqStopsK F n Tryd.prog 161 #[.pointer (some ⟨Bs, 0, none⟩)] (fun x : Nat × Ex.Bd => #[Value.int .i64 (x.1 : Int), .agg #[.string x.2.1, .int .i64 x.2.2]]) (Below n₀) (fun ys => ys = Ex.down zs 0)
      (fun pre => ∃ m, m ≤ zs.length ∧ pre = Ex.down zs m) zs.length w := fun l J Jx W hW _ _ hY h0 => by
  have hW' := hW.mono hn₀
  have hb' := (hW'.cell (p := ⟨Bs, 0, none⟩) hB).trans hb
  have hc' := hc.keep (Nat.le_refl _) (fun p hp => hW'.cell hp)
  refine (backward1_in F n hF hro hn l Bs n₀ cap A zs hreach J Jx hY W hB hb' hc' h0).mono ?_
  rintro e W' ⟨he, hj | ⟨m, hm, hj⟩⟩
  · exact ⟨he, .inl ⟨_, rfl, hj⟩⟩
  · exact ⟨he, .inr ⟨_, ⟨m, hm, rfl⟩, hj⟩⟩
end Go.Proofs.YtkjmddgnfgbioaaDoor
