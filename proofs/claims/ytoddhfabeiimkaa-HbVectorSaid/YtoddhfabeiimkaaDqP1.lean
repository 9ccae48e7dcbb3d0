/-
  Every pushed element is taken once or left: the law, walked.
-/
import Derived.WalkKit
import Derived.ProofKit
import Derived.SizedLaws
import Derived.Deep.Slices
import Derived.Lib.Hide
import Derived.BigQuiet
import Derived.Deep.QuietTactic
import Derived.Deep.RegionHeld3
import Derived.Deep.AppendLies
import Derived.Maps.AppendAt
import Derived.WalkSpells
import Derived.Test.YtoddhfabeiimkaaRows
import Derived.ChangeKeysEq
import Derived.StillTailTactics
import Derived.Test.YtoddhfabeiimkaaChecked
import Derived.Test.YtoddhfabeiimkaaShelf
import Derived.Sort.OwnSortedInts
import Derived.Lib.SlKeysI

namespace Go.Proofs.Ytoddhfabeiimkaa
set_option linter.unusedVariables false
set_option linter.unusedSimpArgs false
set_option maxRecDepth 100000
open Go.ChangeShapes Go.WideShapes Go.ChangeAt Go.RowKit

/-- The cells of a slice's elements lie at its address, below block B. -/
def Cells (w : World) (B : Nat) (A : Option Addr) (vs : List Value) : Prop :=
  ∃ b o, (vs ≠ [] → A = some ⟨b, o, none⟩ ∧ b < B) ∧ ∀ j u, vs[j]? = some u → w.cell? ⟨b, o + j, none⟩ = some u

/-- A slice value of n elements, each of sz cells, that reads as the cells vs. -/
def SlV (w : World) (sz : Nat) (v : Value) (n : Nat) (vs : List Value) : Prop :=
  ∃ A c, v = .slice A n c ∧ n ≤ c ∧ c ≤ maxLen ∧ vs.length = n * sz ∧ Cells w w.heap.size A vs

/-- a slice's length, for a loop's measure -/
def slLen : Value → Nat | .slice _ n _ => n | _ => 0

def ints (k : IntKind) (xs : List Int) : List Value := xs.map (Value.int k)

def Wfs (k : IntKind) (xs : List Int) : Prop := ∀ x ∈ xs, (Lit.int k x).wf = true

def SlI (k : IntKind) (w : World) (v : Value) (xs : List Int) : Prop := SlV w 1 v xs.length (ints k xs) ∧ Wfs k xs

theorem ints_length (k : IntKind) (xs : List Int) : (ints k xs).length = xs.length := by simp [ints]
theorem ints_get (k : IntKind) (xs : List Int) (j : Nat) (h : j < xs.length) : (ints k xs)[j]? = some (.int k (xs.getD j 0)) := by
  simp [ints, List.getD, List.getElem?_eq_getElem h]

theorem Cells.nil (w : World) (B : Nat) (A : Option Addr) : Cells w B A [] := ⟨0, 0, fun h => absurd rfl h, fun j u h => by simp at h⟩

theorem Cells.keep {w w' : World} {B B' : Nat} {A : Option Addr} {vs : List Value} (h : Cells w B A vs) (hB : B ≤ B') (hk : ∀ p : Addr, p.block < B → w'.cell? p = w.cell? p) : Cells w' B' A vs := by
  obtain ⟨b, o, h1, h2⟩ := h
  refine ⟨b, o, fun hne => ⟨(h1 hne).1, Nat.lt_of_lt_of_le (h1 hne).2 hB⟩, fun j u hu => ?_⟩
  have hne : vs ≠ [] := by intro h0; subst h0; simp at hu
  exact (hk _ (h1 hne).2).trans (h2 j u hu)

theorem Cells.below {w w' : World} {B : Nat} {A : Option Addr} {vs : List Value} (h : Cells w B A vs) (hb : Below B w w') (hB : B ≤ w'.heap.size) : Cells w' w'.heap.size A vs :=
  h.keep hB fun _ hp => hb.cell hp

theorem SlV.below {w w' : World} {sz n : Nat} {v : Value} {vs : List Value} (h : SlV w sz v n vs) (hb : Below w.heap.size w w') : SlV w' sz v n vs := by
  obtain ⟨A, c, h1, h2, h3, h4, h5⟩ := h
  exact ⟨A, c, h1, h2, h3, h4, h5.below hb hb.size⟩

theorem SlI.below {w w' : World} {k : IntKind} {v : Value} {xs : List Int} (h : SlI k w v xs) (hb : Below w.heap.size w w') : SlI k w' v xs := ⟨h.1.below hb, h.2⟩

theorem SlV.alloc {w : World} {sz n : Nat} {v : Value} {vs : List Value} (h : SlV w sz v n vs) (o : Obj) : SlV (w.alloc o) sz v n vs := h.below ((Below.refl _ _).alloc (Nat.le_refl _) o)
theorem SlI.alloc {w : World} {k : IntKind} {v : Value} {xs : List Int} (h : SlI k w v xs) (o : Obj) : SlI k (w.alloc o) v xs := ⟨h.1.alloc o, h.2⟩

theorem SlV.step {w w' : World} {sz n : Nat} {v : Value} {vs : List Value} (hb : Below w.heap.size w w') (h : SlV w sz v n vs) : SlV w' sz v n vs := h.below hb
theorem SlI.step {w w' : World} {k : IntKind} {v : Value} {xs : List Int} (hb : Below w.heap.size w w') (h : SlI k w v xs) : SlI k w' v xs := h.below hb

theorem below_next {w w1 w2 : World} (hb : Below w1.heap.size w1 w2) (h : Below w.heap.size w w1) : Below w.heap.size w w2 := h.trans (hb.mono h.size)
theorem below_alloc {w w1 : World} (h : Below w.heap.size w w1) (o : Obj) : Below w.heap.size w (w1.alloc o) := h.alloc h.size o
theorem below_drew {w w1 : World} (h : Below w.heap.size w w1) : Below w.heap.size w w1.drew := h.drew

theorem SlV.nil (w : World) (sz : Nat) : SlV w sz (.slice none 0 0) 0 [] := ⟨none, 0, rfl, Nat.le_refl _, Nat.zero_le _, by simp, Cells.nil _ _ _⟩
theorem SlI.nil (k : IntKind) (w : World) : SlI k w (.slice none 0 0) [] := ⟨SlV.nil w 1, fun x h => by simp at h⟩

theorem Cells.of_own {w : World} {base : Nat} {e : TypeId} {size n c : Nat} {A : Option Addr} {xs : List Value} (h : w.ownsRow base e size (.slice A n c) n xs) : Cells w w.heap.size A xs := by
  rcases h.2 with ⟨h1, h2⟩ | ⟨g, cap, cur, hv, _, hg, _, _, _, _⟩
  · have : xs = [] := List.eq_nil_of_length_eq_zero (by rw [h.1, h2]; simp)
    subst this
    exact Cells.nil _ _ _
  · have hA : A = some ⟨g, 0, none⟩ := by injection hv
    subst hA
    refine ⟨g, 0, fun _ => ⟨rfl, (Array.getElem?_eq_some_iff.1 hg).1⟩, fun j u hu => ?_⟩
    have := h.cells (g := g) rfl j u hu
    rw [Nat.zero_add]
    rwa [show ((⟨g, 0, none⟩ : Addr).add j) = ⟨g, j, none⟩ from by unfold Addr.add; split <;> simp_all] at this

theorem SlV.of_own {w : World} {base : Nat} {e : TypeId} {size n : Nat} {v : Value} {xs : List Value} (h : w.ownsRow base e size v n xs) : SlV w size v n xs := by
  have h' := h
  rcases h'.2 with ⟨rfl, rfl⟩ | ⟨g, cap, cur, rfl, _, _, hle, hm, _, _⟩
  · exact ⟨none, 0, rfl, Nat.le_refl _, Nat.zero_le _, h'.1, Cells.of_own h⟩
  · exact ⟨_, cap, rfl, hle, hm, h'.1, Cells.of_own h⟩

theorem SlI.of_own {w : World} {base : Nat} {e : TypeId} {k : IntKind} {v : Value} {xs : List Int} (h : w.ownsRow base e 1 v xs.length (ints k xs)) (hw : Wfs k xs) : SlI k w v xs := ⟨SlV.of_own h, hw⟩

theorem below_drewN {B : Nat} {a w : World} (h : Below B a w) (n : Nat) : Below B a (w.drewN n) := ⟨h.os, h.tape, h.output, h.size, h.block⟩

theorem run_max_two {P : Program} (w : World) (ts : Array TypeId) (t : TypeId) (k k' : IntKind) (x y : Int) : (Builtin.max_ ts t #[.int k x, .int k' y]).run P w = .ok (.int k (max x y)) w := by
  have : (if y > x then y else x) = max x y := by split <;> omega
  rw [← this]
  rfl
theorem run_min_two {P : Program} (w : World) (ts : Array TypeId) (t : TypeId) (k k' : IntKind) (x y : Int) : (Builtin.min_ ts t #[.int k x, .int k' y]).run P w = .ok (.int k (min x y)) w := by
  have : (if y < x then y else x) = min x y := by split <;> omega
  rw [← this]
  rfl
attribute [go_sem ↓] run_max_two run_min_two

/-- one element's cell -/
theorem Cells.int {w : World} {B : Nat} {A : Option Addr} {xs : List Int} {k : IntKind} (h : Cells w B A (ints k xs)) {j : Nat} (hj : j < xs.length) :
    ∃ b o, A = some ⟨b, o, none⟩ ∧ b < B ∧ ∀ i, i < xs.length → w.cell? ⟨b, o + i, none⟩ = some (.int k (xs.getD i 0)) := by
  obtain ⟨b, o, h1, h2⟩ := h
  have hne : ints k xs ≠ [] := by
    intro h0
    have : xs.length = 0 := by simpa [ints] using congrArg List.length h0
    omega
  obtain ⟨h3, h4⟩ := h1 hne
  exact ⟨b, o, h3, h4, fun i hi => h2 i _ (ints_get k xs i hi)⟩

/-- one element, under a name of its own -/
theorem Cells.one {w : World} {B : Nat} {A : Option Addr} {xs : List Int} {k : IntKind} (h : Cells w B A (ints k xs)) {j : Nat} (hj : j < xs.length) :
    ∃ b o x, A = some ⟨b, o, none⟩ ∧ b < B ∧ Hid (xs[j]? = some x) ∧ w.cell? ⟨b, o + j, none⟩ = some (.int k x) := by
  obtain ⟨b, o, h1, h2, h3⟩ := h.int hj
  exact ⟨b, o, xs[j], h1, h2, List.getElem?_eq_getElem hj, by rw [h3 j hj]; simp [List.getD, List.getElem?_eq_getElem hj]⟩

theorem Wfs.get {k : IntKind} {xs : List Int} (h : Wfs k xs) {j : Nat} (hj : j < xs.length) : (Lit.int k (xs.getD j 0)).wf = true := by
  have e : xs.getD j 0 = xs[j] := by simp [List.getD, List.getElem?_eq_getElem hj]
  rw [e]
  exact h _ (List.getElem_mem hj)

theorem wf_u64 {x : Int} : (Lit.int .u64 x).wf = true ↔ 0 ≤ x ∧ x ≤ 18446744073709551615 := by
  simp [Lit.wf, IntKind.min, IntKind.max, IntKind.signed, IntKind.bits]
theorem wf_i64 {x : Int} : (Lit.int .i64 x).wf = true ↔ -9223372036854775808 ≤ x ∧ x ≤ 9223372036854775807 := by
  simp [Lit.wf, IntKind.min, IntKind.max, IntKind.signed, IntKind.bits]

theorem wrap_u64 (n : Int) : IntKind.u64.wrap n = n % 18446744073709551616 := by
  simp [IntKind.wrap, IntKind.bits, IntKind.signed]
theorem ints_set (k : IntKind) (xs : List Int) (i : Nat) (x : Int) : ints k (xs.set i x) = (ints k xs).set i (.int k x) := by simp [ints, List.map_set]
theorem Wfs.set {k : IntKind} {xs : List Int} (h : Wfs k xs) (i : Nat) {x : Int} (hx : (Lit.int k x).wf = true) : Wfs k (xs.set i x) := by
  intro y hy
  rcases List.mem_or_eq_of_mem_set hy with hy | rfl
  · exact h y hy
  · exact hx
theorem Wfs.append {k : IntKind} {xs ys : List Int} (h : Wfs k xs) (h' : Wfs k ys) : Wfs k (xs ++ ys) := by
  intro y hy
  rcases List.mem_append.1 hy with hy | hy
  · exact h y hy
  · exact h' y hy
theorem Wfs.replicate {k : IntKind} {x : Int} (hx : (Lit.int k x).wf = true) (n : Nat) : Wfs k (List.replicate n x) := by
  intro y hy
  rw [(List.mem_replicate.1 hy).2]
  exact hx

theorem ret_int {k : IntKind} {a b : Int} (h : a = b) : Ending.returned (.int k a) = .returned (.int k b) := by rw [h]
theorem ret_bool {a b : Bool} (h : a = b) : Ending.returned (.bool a) = .returned (.bool b) := by rw [h]

theorem Cells.take {w : World} {B : Nat} {A : Option Addr} {vs : List Value} (h : Cells w B A vs) (k : Nat) : Cells w B A (vs.take k) := by
  obtain ⟨b, o, h1, h2⟩ := h
  refine ⟨b, o, fun hne => h1 (fun h0 => hne (by rw [h0]; simp)), fun j u hu => h2 j u ?_⟩
  rw [List.getElem?_take] at hu
  split at hu
  · exact hu
  · cases hu

/-- the first k elements -/
theorem SlI.take {k : IntKind} {w : World} {A : Option Addr} {n c : Nat} {xs ys : List Int} (h : SlI k w (.slice A n c) xs) (j : Nat) (hy : ys = xs.take j) (hj : j ≤ xs.length) : SlI k w (.slice A ys.length c) ys := by
  obtain ⟨⟨A', c', he, h1, h2, h3, h4⟩, h5⟩ := h
  injection he with e1 e2 e3
  subst e1 e3
  have hl : ys.length ≤ xs.length := by rw [hy]; simp; omega
  refine ⟨⟨A, c, rfl, by omega, h2, by simp [ints], ?_⟩, fun x hx => h5 x ?_⟩
  · have : ints k ys = (ints k xs).take j := by rw [hy]; simp [ints, List.map_take]
    rw [this]
    exact h4.take j
  · rw [hy] at hx
    exact List.mem_of_mem_take hx

/-- 'make([]T, n)' -/
theorem wp_make {P : Program} (w : World) {ops : Array Oper} {rest : List Oper} {o : Oper} {a : Act} {Q : Exit → Act → World → Prop}
    (t e : TypeId) (z : Value) (bytes : Nat) (n : Nat) (ht : P.underlying t = some (.slice e)) (hinfo : (P.info? e).map (fun i => (i.zero, i.size, i.bytes)) = some (some z, 1, bytes)) (hz : z.cells = #[z])
    {L C : Int} (hL : L = (n : Int)) (hC : C = (n : Int)) (b2 : bytes * n ≤ 281474976710656) (b3 : n ≤ 9223372036854775807)
    {l c : Operand} {kl kc : IntKind} (hg : o.guard = none) (hop : o.op = Op.makeSlice t l c) (hl : a.eval l = .int kl L) (hc : a.eval c = .int kc C)
    (hK : ∀ w', w'.ownsRow w.heap.size e 1 (.slice (some ⟨w.heap.size, 0, none⟩) n n) n (List.replicate n z) → Below w.heap.size w w' → w'.heap.size = w.heap.size + 1 → wpList P ops Q rest (a.put o.dst (.slice (some ⟨w.heap.size, 0, none⟩) n n)) w') :
    wpList P ops Q (o :: rest) a w := by
  obtain ⟨i, hi, hz0, hz1, hz2⟩ := info_parts hinfo
  refine wpList_plain hg fun K hK' => ?_
  subst hL
  subst hC
  have h63' : (n : Int) ≤ 9223372036854775807 := by omega
  have hb' : (i.bytes : Int) * (n : Int) ≤ 281474976710656 := by
    have h : ((i.bytes * n : Nat) : Int) ≤ 281474976710656 := by rw [hz2]; omega
    rwa [Int.natCast_mul] at h
  have hr := run_make (P := P) w t e i z ht hi hz0 kl kc n n (by omega) (Int.le_refl _) hb' h63'
  simp only [Int.toNat_natCast, hz1, hz, Nat.mul_one] at hr
  unfold Oper.wp
  simp [execOp, hop, hl, hc, hr, Result.andThen]
  refine hK' _ _ (hK _ ?_ ((Below.refl _ _).alloc (Nat.le_refl _) _) (by simp))
  have := World.ownsRow_lit (e := e) (size := 1) (base := w.heap.size) w (madeCells #[z] n) n (Nat.le_refl _) (by unfold maxLen; omega) (by simp [madeCells])
  rwa [toList_madeCells_one] at this

theorem Cells.new (w : World) (vs : List Value) (e : TypeId) : Cells (w.alloc (.cells vs.toArray e)) (w.heap.size + 1) (some ⟨w.heap.size, 0, none⟩) vs := by
  refine ⟨w.heap.size, 0, fun _ => ⟨rfl, by omega⟩, fun j u hu => ?_⟩
  rw [cell_of_row _ _ _ _ _ _ (heap_alloc_new w (.cells vs.toArray e))]
  simpa using hu

theorem run_append_nil_src {P : Program} (w : World) (base : Nat) (t ty e : TypeId) (i : TypeInfo) (size : Nat) (ht : P.underlying t = some (.slice e)) (hi : P.info? e = some i)
    (v : Value) (n : Nat) (xs : List Value) (hown : w.ownsRow base e size v n xs) (c : Nat) : (Builtin.append_ #[t, t] ty #[v, .slice none 0 c]).run P w = .ok v w := by
  rcases hown.2 with ⟨rfl, rfl⟩ | ⟨g, cap, cur, rfl, _, _, hnc, _⟩
  · simp [Builtin.append_, run_underlying ht, sizeOf, typeInfo, hi, Builtin.lenOf, Builtin.firstCells]
  · simp [Builtin.append_, run_underlying ht, sizeOf, typeInfo, hi, Builtin.lenOf, Builtin.firstCells, hnc, storeCells]

/-- 'append(v, src...)', v nil or the call's own, src whatever -/
theorem run_append {P : Program} (w : World) (base : Nat) (t ty e : TypeId) (z : Value) (size bytes : Nat) (ht : P.underlying t = some (.slice e)) (hinfo : (P.info? e).map (fun i => (i.zero, i.size, i.bytes)) = some (some z, size, bytes)) (hz : z.cells.size = size) (hsz : 0 < size)
    (v : Value) (n : Nat) (xs : List Value) (hown : w.ownsRow base e size v n xs) (B : Nat) (A : Option Addr) (m c : Nat) (news : List Value) (hlen : news.length = m * size) (hcs : Cells w B A news) (h1 : ∀ u ∈ news, u.oneCell' = true)
    (h63 : n + m ≤ maxLen) (hbytes : (n + m) * bytes ≤ 140737488355328) (hbase : base ≤ w.heap.size) :
    ∃ v' w', (Builtin.append_ #[t, t] ty #[v, .slice A m c]).run P w = .ok v' w' ∧ w'.ownsRow base e size v' (n + m) (xs ++ news) ∧ w.grownBy w' v.ownBlock ∧ (v'.ownBlock = v.ownBlock ∨ v'.ownBlock = some w.heap.size) := by
  obtain ⟨i, hi, hz0, hz1, hz2⟩ := info_parts hinfo
  by_cases hm : m = 0
  · subst hm
    have hn : news = [] := List.eq_nil_of_length_eq_zero (by simpa using hlen)
    subst hn
    rcases A with _ | ad
    · exact ⟨v, w, run_append_nil_src w base t ty e i size ht hi v n xs hown c, by simpa using hown, World.grownBy.refl w _, .inl rfl⟩
    · obtain ⟨v', w', hrun, h2, h3, _, h5⟩ := run_append_own_at (P := P) w base t ty e i z size bytes ht hi hz0 hz1 hz2 hz hsz v n xs hown ad 0 c [] hlen (by simp) h1 h63 hbytes hbase
      exact ⟨v', w', hrun, h2, h3, h5⟩
  · obtain ⟨b, o, hA, hcell⟩ := hcs
    have hne : news ≠ [] := by
      intro h0
      rw [h0] at hlen
      have : 0 < m * size := Nat.mul_pos (by omega) hsz
      simp at hlen
      omega
    obtain ⟨rfl, _⟩ := hA hne
    obtain ⟨v', w', hrun, h2, h3, _, h5⟩ := run_append_own_at (P := P) w base t ty e i z size bytes ht hi hz0 hz1 hz2 hz hsz v n xs hown ⟨b, o, none⟩ m c news hlen (fun j u hu => by rw [Addr.add_lit]; exact hcell j u hu) h1 h63 hbytes hbase
    exact ⟨v', w', hrun, h2, h3, h5⟩

theorem own_ge {w : World} {base : Nat} {e : TypeId} {size : Nat} {v : Value} {n : Nat} {xs : List Value} (h : w.ownsRow base e size v n xs) : ∀ k, v.ownBlock = some k → base ≤ k := fun k hk => (h.lt k hk).1

theorem own_slice {w : World} {base : Nat} {e : TypeId} {size : Nat} {v : Value} {n : Nat} {xs : List Value} (h : w.ownsRow base e size v n xs) : ∃ A c, v = .slice A n c ∧ n ≤ c ∧ c ≤ maxLen := by
  rcases h.2 with ⟨rfl, rfl⟩ | ⟨g, cap, cur, rfl, _, _, hle, hm, _, _⟩
  · exact ⟨none, 0, rfl, Nat.le_refl _, Nat.zero_le _⟩
  · exact ⟨_, cap, rfl, hle, hm⟩
theorem own_addr {w : World} {base : Nat} {e : TypeId} {size : Nat} {v : Value} {n : Nat} {xs : List Value} (h : w.ownsRow base e size v n xs) (hn : 0 < n) : ∃ g c, v = .slice (some ⟨g, 0, none⟩) n c ∧ n ≤ c ∧ c ≤ maxLen ∧ base ≤ g ∧ g < w.heap.size := by
  rcases h.2 with ⟨rfl, rfl⟩ | ⟨g, cap, cur, rfl, hb, hg, hle, hm, _, _⟩
  · omega
  · exact ⟨g, cap, rfl, hle, hm, hb, (Array.getElem?_eq_some_iff.1 hg).1⟩

theorem own_len {w : World} {base : Nat} {e : TypeId} {size : Nat} {v : Value} {n : Nat} {xs : List Value} (h : w.ownsRow base e size v n xs) : slLen v = n := by
  obtain ⟨A, c, rfl, _, _⟩ := own_slice h
  rfl

theorem wp_append {P : Program} (w : World) {ops : Array Oper} {rest : List Oper} {o : Oper} {a : Act} {Q : Exit → Act → World → Prop} (s x : Operand)
    (base t e : TypeId) (z : Value) (size bytes : Nat) (ht : P.underlying t = some (.slice e)) (hinfo : (P.info? e).map (fun i => (i.zero, i.size, i.bytes)) = some (some z, size, bytes)) (hz : z.cells.size = size) (hsz : 0 < size)
    {v : Value} {n : Nat} {xs : List Value} (hown : w.ownsRow base e size v n xs) {B : Nat} {A : Option Addr} {m c : Nat} {news : List Value} (hcs : Cells w B A news) (hlen : news.length = m * size) (h1 : ∀ u ∈ news, u.oneCell' = true)
    (h63 : n + m ≤ maxLen) (hbytes : (n + m) * bytes ≤ 140737488355328) (hbase : base ≤ w.heap.size)
    (hgd : o.guard = none) (ho : o.op = .call { callee := .builtin .append, args := #[s, x], argTypes := #[t, t] }) (hs : a.eval s = v) (hx : a.eval x = .slice A m c)
    (h : ∀ v' w', w'.ownsRow base e size v' (n + m) (xs ++ news) → w.grownBy w' v.ownBlock → (v'.ownBlock = v.ownBlock ∨ v'.ownBlock = some w.heap.size) → Below base w w' → wpList P ops Q rest (a.put o.dst v') w') : wpList P ops Q (o :: rest) a w := by
  refine wpList_plain hgd fun _ hK => ?_
  obtain ⟨v', w', hrun, h2, h3, h4⟩ := run_append (P := P) w base t o.type e z size bytes ht hinfo hz hsz v n xs hown B A m c news hlen hcs h1 h63 hbytes hbase
  unfold Oper.wp execOp
  simp only [ho, resolve, invoke, builtin, Sem.run_bind, Sem.run_pure, Result.andThen_ok, List.map_toArray, List.map_cons, List.map_nil, hs, hx, hrun]
  exact hK _ _ (h v' w' h2 h3 h4 ((Below.refl _ _).grown h3 hbase (own_ge hown)))

/-- 'append(v, x)': the one element lies in a block of its own -/
theorem wp_push {P : Program} (w : World) {ops : Array Oper} {rest : List Oper} {o : Oper} {a : Act} {Q : Exit → Act → World → Prop} (s x : Operand)
    (base t e : TypeId) (z : Value) (size bytes : Nat) (ht : P.underlying t = some (.slice e)) (hinfo : (P.info? e).map (fun i => (i.zero, i.size, i.bytes)) = some (some z, size, bytes)) (hz : z.cells.size = size) (hsz : 0 < size)
    {v : Value} {n : Nat} {xs : List Value} (hown : w.ownsRow base e size v n xs) {c : Nat} (news : List Value) (hlen : news.length = 1 * size) (h1 : ∀ u ∈ news, u.oneCell' = true)
    (h63 : n + 1 ≤ maxLen) (hbytes : (n + 1) * bytes ≤ 140737488355328) (hbase : base ≤ w.heap.size)
    (hgd : o.guard = none) (ho : o.op = .call { callee := .builtin .append, args := #[s, x], argTypes := #[t, t] }) (hs : a.eval s = v) (hx : a.eval x = .slice (some ⟨w.heap.size, 0, none⟩) 1 c)
    (h : ∀ v' w', w'.ownsRow base e size v' (n + 1) (xs ++ news) → w.grownBy w' v.ownBlock → (v'.ownBlock = v.ownBlock ∨ v'.ownBlock = some (w.heap.size + 1)) → Below base w w' → wpList P ops Q rest (a.put o.dst v') w') : wpList P ops Q (o :: rest) a (w.alloc (.cells news.toArray e)) := by
  refine wp_append _ s x base t e z size bytes ht hinfo hz hsz (hown.alloc _) (Cells.new w news e) hlen h1 h63 hbytes (Nat.le_trans hbase (by simp)) hgd ho hs hx fun v' w' h2 h3 h4 h5 => ?_
  have hg : w.grownBy w' v.ownBlock :=
    ⟨h3.os, h3.tape, h3.output, Nat.le_trans (by simp) h3.size, fun k hk hne => (h3.block k (by simp; omega) hne).trans (Below.heap_alloc w _ k hk)⟩
  exact h v' w' h2 hg (by simpa using h4) (((Below.refl _ _).alloc hbase _).trans h5)

theorem flat_length {α : Type} (f : α → List Value) (n : Nat) (hf : ∀ a, (f a).length = n) (l : List α) : (l.flatMap f).length = l.length * n := by
  induction l with
  | nil => simp
  | cons a l ih => rw [List.flatMap_cons, List.length_append, hf, ih, List.length_cons, Nat.add_mul]; omega

theorem flat_get {α : Type} (f : α → List Value) (n : Nat) (hf : ∀ a, (f a).length = n) (l : List α) (k j : Nat) (x : α) (hx : l[k]? = some x) (hj : j < n) : (l.flatMap f)[k * n + j]? = (f x)[j]? := by
  induction l generalizing k with
  | nil => simp at hx
  | cons a l ih =>
    rw [List.flatMap_cons]
    rcases k with _ | k
    · simp at hx
      subst hx
      rw [Nat.zero_mul, Nat.zero_add, List.getElem?_append_left (by rw [hf]; exact hj)]
    · have e : (k + 1) * n + j = (f a).length + (k * n + j) := by rw [hf, Nat.add_mul]; omega
      rw [e, List.getElem?_append_right (by omega), Nat.add_sub_cancel_left]
      exact ih k (by simpa using hx)

/-- the address of a slice whose cells are known, and its cells one by one -/
theorem Cells.at_ {w : World} {B : Nat} {A : Option Addr} {vs : List Value} (h : Cells w B A vs) (hne : vs ≠ []) : ∃ b o, A = some ⟨b, o, none⟩ ∧ b < B ∧ ∀ j u, vs[j]? = some u → w.cell? ⟨b, o + j, none⟩ = some u := by
  obtain ⟨b, o, h1, h2⟩ := h
  exact ⟨b, o, (h1 hne).1, (h1 hne).2, h2⟩

theorem own_base {w : World} {base base' : Nat} {e : TypeId} {size : Nat} {v : Value} {n : Nat} {xs : List Value} (h : w.ownsRow base e size v n xs) (hb : base' ≤ base) : w.ownsRow base' e size v n xs := by
  refine ⟨h.1, ?_⟩
  rcases h.2 with h' | ⟨g, cap, cur, h1, h2, h3⟩
  · exact .inl h'
  · exact .inr ⟨g, cap, cur, h1, by omega, h3⟩

/-- an argument that is a slice of integers -/
theorem open_sl {H : Type} {enc : TypeId × Value → H} {P : Program} {w : World} {t e : TypeId} {k : IntKind} {v : Value} {d : DataW H} {ps : List MemPlace} (ht : P.underlying t = some (.slice e)) (he : P.underlying e = some (.int k)) (hc : P.cellsOf e = 1)
    (hv : ∃ a len cap, v = .slice a len cap)
    (h : DataW.Trod enc P w 0 (fun _ => true) true t v d ps) (hlt : ∀ x ∈ ps, x.block < w.heap.size) :
    ∃ xs : List Int, SlI k w v xs ∧ ((d = .nil ∧ xs = []) ∨ ∃ sp : List (DataW H), d = .slice (lits k xs) sp) := by
  obtain ⟨a0, len, cap, rfl⟩ := hv
  obtain ⟨fuel, hf⟩ := h
  rcases open_ints ht he hc hf with ⟨hcs, hx⟩ | ⟨a, len', cap', zs, hcs, _, hl, hm, hz, hx, hcell, hwz⟩
  · simp [Value.cells] at hcs
    obtain ⟨rfl, rfl, rfl⟩ := hcs
    simp only [Prod.mk.injEq] at hx
    exact ⟨[], SlI.nil _ _, .inl ⟨hx.1, rfl⟩⟩
  · simp [Value.cells] at hcs
    obtain ⟨rfl, rfl, rfl⟩ := hcs
    simp only [Prod.mk.injEq] at hx
    simp only [if_true] at hz
    have htl : (zs.take len).length = len := by simp; omega
    refine ⟨zs.take len, ⟨⟨some a, cap, by rw [htl], by omega, hm, by simp [ints], ?_⟩, fun x hx => hwz x (List.mem_of_mem_take hx)⟩, .inr ⟨_, hx.1⟩⟩
    by_cases h0 : zs.take len = []
    · rw [h0]
      exact Cells.nil _ _ _
    · have hl0 : 0 < len := by
        rcases Nat.eq_zero_or_pos len with h | h
        · subst h; simp at h0
        · exact h
      obtain ⟨b, off, spot⟩ := a
      have hspot : spot = none := by simpa [Addr.add] using World.cell?_spot (hcell 0 (by omega))
      subst hspot
      refine ⟨b, off, fun _ => ⟨rfl, hlt (.cell b off) (by rw [hx.2]; exact MemPlace.mem_row.2 ⟨0, by omega, by simp⟩)⟩, fun j u hu => ?_⟩
      have hj : j < len := by
        have := (List.getElem?_eq_some_iff.1 hu).1
        simp [ints] at this
        omega
      have := hcell j (by omega)
      rw [add_plain] at this
      rw [this, ← hu]
      simp [ints, List.getD, hj, List.getElem?_eq_getElem (show j < zs.length by omega)]

/-- all arguments read behind the call as before it -/
theorem trodAll_keep {H : Type} {enc : TypeId × Value → H} {P : Program} (hl : laidOutB P = true) {W W' : World} (hb : Below W.heap.size W W') :
    ∀ (ts : List TypeId) (vs : List Value) (ds : List (DataW H)) (ps : List MemPlace), (∀ t ∈ ts, P.readableRec t = true ∧ t < P.types.size) → (∀ x ∈ ps, x.block < W.heap.size) →
      DataW.TrodAll enc P W 0 (fun _ => true) true ts vs ds ps → DataW.TrodAll enc P W' 0 (fun b => decide (b < W.heap.size)) true ts vs ds ps
  | [], [], [], _, _, _, h => h
  | t :: ts, v :: vs, d :: ds, ps, hts, hlt, h => by
    obtain ⟨p, q, h1, h2, rfl⟩ := h
    exact ⟨p, q, Below.trod hl (hts t (by simp)).1 (hts t (by simp)).2 h1 hb (fun x hx => hlt x (by simp [hx])),
      trodAll_keep hl hb ts vs ds q (fun t' h' => hts t' (by simp [h'])) (fun x hx => hlt x (by simp [hx])) h2, rfl⟩
  | [], _ :: _, _, _, _, _, h => h.elim
  | [], [], _ :: _, _, _, _, h => h.elim
  | _ :: _, [], _, _, _, _, h => h.elim
  | _ :: _, _ :: _, [], _, _, _, h => h.elim

/-- THE END OF A LAW: it returned true, and nothing that was there has turned. -/
theorem post_true {H : Type} {enc : TypeId × Value → H} {P : Program} {f : Func} {s : ChangeSpec} {W W' : World} {args : Array Value} {ds gs : List (DataW H)} {before : List MemPlace} {tb : TypeId}
    (hl : laidOutB P = true) (hres : f.resultTypes = #[tb]) (htb : P.underlying tb = some .bool) (hts : ∀ t ∈ f.params.toList, P.readableRec t = true ∧ t < P.types.size) (hvars : s.vars = [])
    (hfn : s.fn H ds = { results := [.lit (.bool true)], args := ds })
    (hW : DataW.Whole enc P f.params.toList s.vars false W args.toList ds gs before) (hb : Below W.heap.size W W') :
    s.post enc P f false true false false W args (.bool true) W' := by
  have hW' := hW
  obtain ⟨p, q, hA, hV, rfl, _, _⟩ := hW
  have hgs : gs = [] ∧ q = [] := by
    rw [hvars] at hV
    cases gs with
    | nil => exact ⟨rfl, hV⟩
    | cons g gs => exact hV.elim
  obtain ⟨rfl, rfl⟩ := hgs
  have e : s.fn H (ds ++ []) = { results := [.lit (.bool true)], args := ds } := by rw [List.append_nil]; exact hfn
  refine ⟨ds, [], _, [], p, [], hW', ?_, ?_, ?_, hb.frame _, fun h => by cases h⟩
  · rw [e, hres]
    exact trodAll_mk1 (shut_bool htb true)
  · rw [e]
    exact trodAll_keep hl hb _ _ _ _ hts (fun x hx => by simpa using hW'.lt x (by simp [hx])) hA
  · rw [e, hvars]
    rfl

end Go.Proofs.Ytoddhfabeiimkaa


namespace Go.Proofs.Ytoddhfabeiimkaa
set_option linter.unusedVariables false
set_option linter.unusedSimpArgs false
set_option maxRecDepth 100000
open Go.ChangeShapes Go.WideShapes Go.ChangeAt Go.RowKit Go.Deep

/-- every field is an int of one cell, and they lie one behind the other -/
def intFields (P : Program) (fs : Array Field) : Bool :=
  (List.range fs.size).all fun j => match fs[j]? with
    | some f => f.offset == j && P.cellsOf f.type == 1 && (match P.underlying f.type with | some (.int .i64) => true | _ => false)
    | none => false

theorem intFields_at {P : Program} {fs : Array Field} (h : intFields P fs = true) {j : Nat} (hj : j < fs.size) : ∃ f, fs[j]? = some f ∧ f.offset = j ∧ P.cellsOf f.type = 1 ∧ P.underlying f.type = some (.int .i64) := by
  have := List.all_eq_true.1 h j (by simpa using hj)
  rw [Array.getElem?_eq_getElem hj] at this
  simp only [Bool.and_eq_true, beq_iff_eq] at this
  refine ⟨fs[j], Array.getElem?_eq_getElem hj, this.1.1, this.1.2, ?_⟩
  have h3 := this.2
  split at h3
  · assumption
  · cases h3

def irow (r : List Int) : List Value := ints .i64 r

section
variable {H : Type} {enc : TypeId × Value → H} {P : Program} {w : World}

/-- one struct's cells are integers -/
theorem struct_ints {e : TypeId} {fs : Array Field} {n fuel : Nat} {cs : List Value} {x : DataW H × List MemPlace} (he : P.underlying e = some (.struct fs)) (hn : fs.size = n) (hC : P.cellsOf e = n) (hf : intFields P fs = true)
    (h : DataW.trod enc P w 0 (fun _ => true) true fuel e cs = some x) : ∃ r : List Int, r.length = n ∧ cs = irow r ∧ Wfs .i64 r := by
  obtain ⟨xs, m, _, _, hl, hxl, hfs⟩ := DataW.trod_struct he h
  rw [hC] at hl
  have each : ∀ j, j < n → ∃ k : Int, cs[j]? = some (.int .i64 k) ∧ (Lit.int .i64 k).wf = true := by
    intro j hj
    obtain ⟨f, hfj, ho, hc, hu⟩ := intFields_at hf (j := j) (by omega)
    have h1 := hfs j f hfj
    rw [ho, hc] at h1
    have hxj : xs[j]? = some xs[j] := List.getElem?_eq_getElem (by omega)
    rw [hxj] at h1
    obtain ⟨k, hk, _, hw⟩ := DataW.trod_int hu h1
    refine ⟨k, ?_, hw⟩
    have := congrArg (fun l => l[0]?) hk
    simp only [List.getElem?_cons_zero] at this
    rw [← this, List.getElem?_take, if_pos (by decide), List.getElem?_drop, Nat.add_zero]
  refine ⟨(List.range n).map fun j => intOf (cs.getD j undef), by simp, ?_, ?_⟩
  · apply List.ext_getElem?
    intro j
    by_cases hj : j < n
    · obtain ⟨k, hk, _⟩ := each j hj
      rw [hk]
      simp [irow, ints, hj, hk, List.getD, intOf]
    · rw [List.getElem?_eq_none (by omega), List.getElem?_eq_none (by simp [irow, ints]; omega)]
  · intro y hy
    obtain ⟨j, hj, rfl⟩ := List.mem_map.1 hy
    obtain ⟨k, hk, hw⟩ := each j (by simpa using hj)
    simp only [List.getD, hk, Option.getD_some, intOf]
    exact hw

/-- an argument that is a slice of structs of n integers -/
theorem open_rows {t e : TypeId} {fs : Array Field} {n : Nat} {v : Value} {d : DataW H} {ps : List MemPlace} (ht : P.underlying t = some (.slice e)) (he : P.underlying e = some (.struct fs)) (hn : fs.size = n) (hn0 : 0 < n) (hC : P.cellsOf e = n) (hf : intFields P fs = true)
    (hv : ∃ a len cap, v = .slice a len cap) (h : DataW.Trod enc P w 0 (fun _ => true) true t v d ps) (hlt : ∀ x ∈ ps, x.block < w.heap.size) :
    ∃ rs : List (List Int), (∀ r ∈ rs, r.length = n ∧ Wfs .i64 r) ∧ SlV w n v rs.length (rs.flatMap irow) ∧ ((d = .nil ∧ rs = []) ∨ ∃ (el sp : List (DataW H)), d = .slice el sp ∧ el.length = rs.length) := by
  obtain ⟨a0, len, cap, rfl⟩ := hv
  obtain ⟨fuel, hfu⟩ := h
  rcases open_slice ht hfu with ⟨hcs, hx⟩ | ⟨a, len', cap', m, k, D, Pl, hcs, _, hl, hm, hmm, hx, hi⟩
  · simp [Value.cells] at hcs
    obtain ⟨rfl, rfl, rfl⟩ := hcs
    simp only [Prod.mk.injEq] at hx
    exact ⟨[], by simp, SlV.nil _ _, .inl ⟨hx.1, rfl⟩⟩
  · simp [Value.cells] at hcs
    obtain ⟨rfl, rfl, rfl⟩ := hcs
    simp only [Prod.mk.injEq] at hx
    simp only [if_true] at hmm
    rw [hC] at hi hx
    have each : ∀ i, i < len → ∃ r : List Int, (r.length = n ∧ Wfs .i64 r) ∧ w.cells? 0 (a.add (i * n)) n = some (irow r) := by
      intro i hil
      obtain ⟨cs', hc, htr⟩ := hi i (by omega)
      obtain ⟨r, hr, hcr, hw⟩ := struct_ints he hn hC hf htr
      exact ⟨r, ⟨hr, hw⟩, by rw [hc, hcr]⟩
    obtain ⟨f, hff⟩ := choose_lt each
    have hlen : ∀ r ∈ (List.range len).map f, r.length = n ∧ Wfs .i64 r := by
      intro r hr
      obtain ⟨i, hi', rfl⟩ := List.mem_map.1 hr
      exact (hff i (by simpa using hi')).1
    have hflat : (((List.range len).map f).flatMap irow).length = len * n := by
      have : ∀ l : List (List Int), (∀ r ∈ l, r.length = n) → (l.flatMap irow).length = l.length * n := by
        intro l
        induction l with
        | nil => simp
        | cons r l ih =>
          intro hl'
          rw [List.flatMap_cons, List.length_append, ih (fun x hx => hl' x (by simp [hx])), List.length_cons, Nat.add_mul]
          have := hl' r (by simp)
          simp [irow, ints, this]
          omega
      rw [this _ fun r hr => (hlen r hr).1]
      simp
    refine ⟨(List.range len).map f, hlen, ⟨some a, cap, by simp, by simpa using hl, hm, by simpa using hflat, ?_⟩, .inr ⟨_, _, hx.1, by simp⟩⟩
    by_cases h0 : len = 0
    · subst h0
      exact Cells.nil _ _ _
    · obtain ⟨b, off, spot⟩ := a
      have hcell : ∀ i, i < len → ∀ j u, (irow (f i))[j]? = some u → w.cell? ((⟨b, off, spot⟩ : Addr).add (i * n + j)) = some u := by
        intro i hil j u hu
        have hj : j < n := by
          have := (List.getElem?_eq_some_iff.1 hu).1
          have h1 := (hff i hil).1.1
          simp [irow, ints, h1] at this
          exact this
        obtain ⟨_, _, hat⟩ := World.cells?_some (hff i hil).2
        have := hat j hj
        rw [Go.Deep.add_add] at this
        rw [this, hu]
      have hspot : spot = none := by
        have hr := (hff 0 (by omega)).1.1
        have hex : ∃ u, (irow (f 0))[0]? = some u := ⟨_, List.getElem?_eq_getElem (by simp [irow, ints]; omega)⟩
        obtain ⟨u, hu⟩ := hex
        have := hcell 0 (by omega) 0 u hu
        simpa [Addr.add] using World.cell?_spot this
      subst hspot
      refine ⟨b, off, fun _ => ⟨rfl, hlt (.cell b off) (by
        rw [hx.2]
        refine List.mem_append_left _ (MemPlace.mem_row.2 ⟨0, ?_, by simp⟩)
        exact Nat.mul_pos (by omega) hn0)⟩, fun j u hu => ?_⟩
      have hjl : j < len * n := by
        have := (List.getElem?_eq_some_iff.1 hu).1
        omega
      have hq : j / n < len := Nat.div_lt_of_lt_mul (by rw [Nat.mul_comm]; exact hjl)
      have hr : j % n < n := Nat.mod_lt _ hn0
      have hj : j = j / n * n + j % n := by have := Nat.div_add_mod j n; rw [Nat.mul_comm] at this; omega
      have hget : ((List.range len).map f)[j / n]? = some (f (j / n)) := by simp [hq]
      have key : ∀ (l : List (List Int)), (∀ r ∈ l, r.length = n) → ∀ (q s : Nat) (r : List Int), l[q]? = some r → s < n → (l.flatMap irow)[q * n + s]? = (irow r)[s]? := by
        intro l
        induction l with
        | nil => intro _ q s r h'; simp at h'
        | cons r0 l ih =>
          intro hl' q s r h' hs
          have h00 : (irow r0).length = n := by simp [irow, ints, hl' r0 (by simp)]
          rw [List.flatMap_cons]
          rcases q with _ | q
          · simp at h'
            subst h'
            rw [Nat.zero_mul, Nat.zero_add, List.getElem?_append_left (by omega)]
          · have e : (q + 1) * n + s = (irow r0).length + (q * n + s) := by rw [h00, Nat.add_mul]; omega
            rw [e, List.getElem?_append_right (by omega), Nat.add_sub_cancel_left]
            exact ih (fun x hx => hl' x (by simp [hx])) q s r (by simpa using h') hs
      rw [hj, key _ (fun r hr => (hlen r hr).1) _ _ _ hget hr] at hu
      have := hcell _ hq _ _ hu
      rw [← hj, Addr.add_lit] at this
      exact this
end
end Go.Proofs.Ytoddhfabeiimkaa


namespace Go.Proofs.Ytoddhfabeiimkaa
set_option linter.unusedVariables false
set_option linter.unusedSimpArgs false
set_option maxRecDepth 100000
open Go.ChangeShapes Go.WideShapes Go.ChangeAt Go.RowKit

theorem own : ownKnob Try.prog.godebug = none := by kernel_rfl
theorem laidOut : laidOutB Try.prog = true := by kernel_rfl

/-- the form's own reach, of a slice that was opened -/
theorem reach_rows {H : Type} {ts : List TypeId} {ds : List (DataW H)} {n by_ : Nat} {d : DataW H} {t e : TypeId} (hsz : (DataW.weightsEach Try.prog ts ds).all (· ≤ reachBytes) = true) {j : Nat} (ht : ts[j]? = some t) (hd : ds[j]? = some d)
    (hu : Try.prog.underlying t = some (.slice e)) (hb : Try.prog.bytesOf e = by_) (h : (d = .nil ∧ n = 0) ∨ ∃ (el sp : List (DataW H)), d = .slice el sp ∧ el.length = n) : n * by_ ≤ 140737488351232 := by
  rcases h with ⟨_, rfl⟩ | ⟨el, sp, rfl, rfl⟩
  · simp
  · have := sized_slice hsz ht hd hu
    rw [hb] at this
    have h2 : el.length * by_ ≤ (el.length + sp.length) * by_ := Nat.mul_le_mul_right _ (by omega)
    simp only [reachBytes] at this
    omega
end Go.Proofs.Ytoddhfabeiimkaa


namespace Go.Proofs.Ytoddhfabeiimkaa
set_option linter.unusedVariables false
set_option linter.unusedSimpArgs false
set_option maxRecDepth 100000
open Go.ChangeShapes Go.WideShapes Go.ChangeAt Go.RowKit

def Blk (w : World) (g : Nat) (t : TypeId) (cs : List Value) : Prop := w.heap[g]? = some (.cells cs.toArray t (0, 0))

section
variable {w w' : World} {g : Nat} {t : TypeId} {cs : List Value}
theorem Blk.lt (h : Blk w g t cs) : g < w.heap.size := (Array.getElem?_eq_some_iff.1 h).1
theorem Blk.cell (h : Blk w g t cs) (i : Nat) : w.cell? ⟨g, i, none⟩ = cs[i]? := by
  rw [cell_of_row w g i cs.toArray t (0, 0) h]; simp
theorem Blk.frozen (h : Blk w g t cs) (i : Nat) : w.frozen? ⟨g, i, none⟩ = false := frozen_of_row w g i _ t h
theorem Blk.new (w : World) (t : TypeId) (cs : List Value) : Blk (w.alloc (.cells cs.toArray t)) w.heap.size t cs := heap_alloc_new w _
theorem Blk.alloc (h : Blk w g t cs) (o : Obj) : Blk (w.alloc o) g t cs := (Below.heap_alloc w o g h.lt).trans h
theorem Blk.below (h : Blk w g t cs) (hb : Below w.heap.size w w') : Blk w' g t cs := (hb.block g h.lt).trans h
theorem Blk.set_ (h : Blk w g t cs) (i : Nat) (u : Value) : Blk (w.setCell ⟨g, i, none⟩ u) g t (cs.set i u) := by
  have := heap_setCell_same w g i cs.toArray t u h
  unfold Blk
  rw [this]
  simp
theorem Blk.far (h : Blk w g t cs) {p : Addr} (hp : g ≠ p.block) (u : Value) : Blk (w.setCell p u) g t cs := (Below.heap_setCell w p u g hp).trans h
theorem Blk.row (h : Blk w g t cs) (ds : List Value) : Blk (w.setRow g ds.toArray) g t ds := setRow_heap w g cs.toArray _ t _ h
theorem Blk.farRow (h : Blk w g t cs) {k : Nat} (hk : g ≠ k) (ds : Array Value) : Blk (w.setRow k ds) g t cs := (setRow_other w k g ds hk).trans h

theorem Blk.drewN (h : Blk w g t cs) (n : Nat) : Blk (w.drewN n) g t cs := h
theorem Blk.drew (h : Blk w g t cs) : Blk w.drew g t cs := h
theorem grown_undrewN {a b : World} {n : Nat} {r : Option Nat} (h : (a.drewN n).grownBy b r) : a.grownBy b r := ⟨h.os, h.tape, h.output, h.size, h.block⟩
theorem Blk.grown (h : Blk w g t cs) {r : Option Nat} (hg : w.grownBy w' r) (hne : some g ≠ r) : Blk w' g t cs := (hg.block g h.lt hne).trans h

theorem grown_setRow (w : World) (g : Nat) (ds : Array Value) : w.grownBy (w.setRow g ds) (some g) := ⟨rfl, rfl, rfl, by simp, fun k _ hk => setRow_other w g k ds (fun e => hk (by simp [e]))⟩
theorem grown_setCell (w : World) (g i : Nat) (u : Value) : w.grownBy (w.setCell ⟨g, i, none⟩ u) (some g) := ⟨rfl, rfl, rfl, by simp [World.setCell], fun k _ hk => Below.heap_setCell w _ u k (fun e => hk (by simp [e]))⟩
theorem grown_alloc (w : World) (o : Obj) (r : Option Nat) : w.grownBy (w.alloc o) r := World.grownBy_alloc w o r
theorem grown_trans {a b c : World} {r : Option Nat} (h : a.grownBy b r) (k : b.grownBy c r) : a.grownBy c r :=
  ⟨k.os.trans h.os, k.tape.trans h.tape, k.output.trans h.output, Nat.le_trans h.size k.size, fun i hi hne => (k.block i (Nat.lt_of_lt_of_le hi h.size) hne).trans (h.block i hi hne)⟩
theorem grown_of_below {a b : World} (h : Below a.heap.size a b) (r : Option Nat) : a.grownBy b r := ⟨h.os, h.tape, h.output, h.size, fun i hi _ => h.block i hi⟩
theorem grown_drewN (w : World) (n : Nat) (r : Option Nat) : w.grownBy (w.drewN n) r := ⟨rfl, rfl, rfl, Nat.le_refl _, fun _ _ _ => rfl⟩
theorem grown_drew (w : World) (r : Option Nat) : w.grownBy w.drew r := ⟨rfl, rfl, rfl, Nat.le_refl _, fun _ _ _ => rfl⟩
/-- only block g may have turned, and g is the call's own -/
theorem below_of_grown {a b : World} {B g : Nat} (h : a.grownBy b (some g)) (hB : B ≤ a.heap.size) (hg : B ≤ g) : Below B a b :=
  ⟨h.os, h.tape, h.output, h.size, fun i hi => h.block i (by omega) (fun e => by injection e; omega)⟩
end

theorem wpList_want {P : Program} {ops : Array Oper} {Q : Exit → Act → World → Prop} {a : Act} {w : World} {rest : List Oper} {o : Oper} (hg : Region.wanted o (yielded ops a.tmps) = true)
    (h : ∀ K : Act → World → Prop, (∀ a w, wpList P ops Q rest a w → K a w) → o.wp P a w K Q) : wpList P ops Q (o :: rest) a w :=
  wpList_step fun K hK => by rw [if_pos hg]; exact h K hK

section
variable {P : Program} {w : World} {g : Nat} {t : TypeId} {cs : List Value}

theorem run_loadVar_blk (h : Blk w g t cs) (ty : TypeId) (o k : Nat) (hu : ((P.underlying ty).map fun | .struct _ | .array _ _ => true | _ => false) = some true) (hi : (P.info? ty).map (·.size) = some k) (hk : o + k ≤ cs.length) :
    (loadVar ty ⟨g, o, none⟩).run P w = .ok (.agg ((cs.drop o).take k).toArray) w := by
  obtain ⟨d, hd, hdd⟩ := Option.map_eq_some_iff.1 hu
  obtain ⟨i, hii, his⟩ := Option.map_eq_some_iff.1 hi
  have hl : ((cs.drop o).take k).length = k := by simp; omega
  have hc : ∀ j v, ((cs.drop o).take k)[j]? = some v → w.cell? ((⟨g, o, none⟩ : Addr).add j) = some v := by
    intro j v hv
    rw [Addr.add_lit, h.cell]
    rw [List.getElem?_take] at hv
    split at hv
    · rw [← hv, List.getElem?_drop]
    · cases hv
  have hld := run_loadCells_list (P := P) w ⟨g, o, none⟩ _ hc
  rw [hl] at hld
  have hagg : (isAgg ty).run P w = .ok true w := by
    unfold isAgg
    rw [Sem.run_bind, run_underlying hd w]
    cases d <;> simp_all
  simp [loadVar, Sem.run_bind, hagg, sizeOf, typeInfo, hii, his, hld]

theorem wp_load_blk {o : Oper} {a : Act} {K : Act → World → Prop} {Q : Exit → Act → World → Prop} (h : Blk w g t cs) (ty : TypeId) (x : Operand) (off k : Nat)
    (hu : ((P.underlying ty).map fun | .struct _ | .array _ _ => true | _ => false) = some true) (hi : (P.info? ty).map (·.size) = some k) (hk : off + k ≤ cs.length)
    (ho : o.op = .load ty x) (hx : a.eval x = .pointer (some ⟨g, off, none⟩))
    (hK : K (a.put o.dst (.agg ((cs.drop off).take k).toArray)) w) : o.wp P a w K Q := by
  unfold Oper.wp execOp
  simp only [ho, hx, Instr.loadAt, Instr.sureAddr, Sem.run_bind, Sem.run_pure, Result.andThen_ok, run_loadVar_blk h ty off k hu hi hk]
  exact hK

theorem wpl_load_blk {ops : Array Oper} {rest : List Oper} {o : Oper} {a : Act} {Q : Exit → Act → World → Prop} (h : Blk w g t cs) (ty : TypeId) (off k : Nat)
    (hu : ((P.underlying ty).map fun | .struct _ | .array _ _ => true | _ => false) = some true) (hi : (P.info? ty).map (·.size) = some k) (hk : off + k ≤ cs.length)
    (hgd : Region.wanted o (yielded ops a.tmps) = true) {x : Operand} (ho : o.op = .load ty x) (hx : a.eval x = .pointer (some ⟨g, off, none⟩))
    (hK : wpList P ops Q rest (a.put o.dst (.agg ((cs.drop off).take k).toArray)) w) : wpList P ops Q (o :: rest) a w :=
  wpList_want hgd fun _ h' => wp_load_blk h ty x off k hu hi hk ho hx (h' _ _ hK)

theorem run_storeVar_blk (h : Blk w g t cs) (ty : TypeId) (o k : Nat) (vs : List Value) (hi : (P.info? ty).map (·.size) = some k) (hv : vs.length = k) (hk : o + k ≤ cs.length) (h1 : ∀ v ∈ vs, v.oneCell' = true) :
    (storeVar ty ⟨g, o, none⟩ (.agg vs.toArray)).run P w = .ok () (w.setRow g (cs.take o ++ vs ++ cs.drop (o + k)).toArray) := by
  obtain ⟨i, hii, his⟩ := Option.map_eq_some_iff.1 hi
  have := run_storeCells_at P g o t vs 0 cs.toArray w h (by simp; omega) h1
  simp only [Nat.add_zero, hv] at this
  simp [storeVar, sizeOf, typeInfo, hii, his, Value.cells, hv, this]

theorem wp_store_blk {o : Oper} {a : Act} {K : Act → World → Prop} {Q : Exit → Act → World → Prop} (h : Blk w g t cs) (ty : TypeId) (x y : Operand) (off k : Nat) (vs : List Value) (hi : (P.info? ty).map (·.size) = some k) (hv : vs.length = k) (hk : off + k ≤ cs.length) (h1 : ∀ v ∈ vs, v.oneCell' = true)
    (ho : o.op = .store ty x y) (hx : a.eval x = .pointer (some ⟨g, off, none⟩)) (hy : a.eval y = .agg vs.toArray)
    (hK : K (a.put o.dst undef) (w.setRow g (cs.take off ++ vs ++ cs.drop (off + k)).toArray)) : o.wp P a w K Q := by
  unfold Oper.wp execOp
  simp only [ho, hx, hy, Instr.storeAt, Instr.sureAddr, Sem.run_bind, Sem.run_pure, Result.andThen_ok, run_storeVar_blk h ty off k vs hi hv hk h1]
  exact hK

theorem wpl_store_blk {ops : Array Oper} {rest : List Oper} {o : Oper} {a : Act} {Q : Exit → Act → World → Prop} (h : Blk w g t cs) (ty : TypeId) (off k : Nat) (vs : List Value) (hi : (P.info? ty).map (·.size) = some k) (hv : vs.length = k) (hk : off + k ≤ cs.length) (h1 : ∀ v ∈ vs, v.oneCell' = true)
    (hgd : Region.wanted o (yielded ops a.tmps) = true) {x y : Operand} (ho : o.op = .store ty x y) (hx : a.eval x = .pointer (some ⟨g, off, none⟩)) (hy : a.eval y = .agg vs.toArray)
    (hK : ∀ w', Blk w' g t (cs.take off ++ vs ++ cs.drop (off + k)) → w.grownBy w' (some g) → wpList P ops Q rest (a.put o.dst undef) w') : wpList P ops Q (o :: rest) a w :=
  wpList_want hgd fun _ h' => wp_store_blk h ty x y off k vs hi hv hk h1 ho hx hy (h' _ _ (hK _ (h.row _) (grown_setRow _ _ _)))

theorem whole_put {cs vs : List Value} {k : Nat} (h : cs.length = k) : cs.take 0 ++ vs ++ cs.drop (0 + k) = vs := by
  rw [List.take_zero, List.nil_append, List.drop_of_length_le (by omega), List.append_nil]

/-- a store of all of it -/
theorem wpl_put_blk {ops : Array Oper} {rest : List Oper} {o : Oper} {a : Act} {Q : Exit → Act → World → Prop} (h : Blk w g t cs) (vs : List Value) {ty : TypeId} (hi : (P.info? ty).map (·.size) = some cs.length) (hv : vs.length = cs.length) (h1 : ∀ v ∈ vs, v.oneCell' = true)
    (hgd : Region.wanted o (yielded ops a.tmps) = true) {x y : Operand} (ho : o.op = .store ty x y) (hx : a.eval x = .pointer (some ⟨g, 0, none⟩)) (hy : a.eval y = .agg vs.toArray)
    (hK : ∀ w', Blk w' g t vs → w.grownBy w' (some g) → wpList P ops Q rest (a.put o.dst undef) w') : wpList P ops Q (o :: rest) a w := by
  refine wpl_store_blk h ty 0 cs.length vs hi hv (by omega) h1 hgd ho hx hy fun w' h2 h3 => hK w' ?_ h3
  rwa [whole_put rfl] at h2
/-- a load of all of it -/
theorem wpl_get_blk {ops : Array Oper} {rest : List Oper} {o : Oper} {a : Act} {Q : Exit → Act → World → Prop} (h : Blk w g t cs) {ty : TypeId}
    (hu : ((P.underlying ty).map fun | .struct _ | .array _ _ => true | _ => false) = some true) (hi : (P.info? ty).map (·.size) = some cs.length)
    (hgd : Region.wanted o (yielded ops a.tmps) = true) {x : Operand} (ho : o.op = .load ty x) (hx : a.eval x = .pointer (some ⟨g, 0, none⟩))
    (hK : wpList P ops Q rest (a.put o.dst (.agg cs.toArray)) w) : wpList P ops Q (o :: rest) a w := by
  refine wpl_load_blk h ty 0 cs.length hu hi (by omega) hgd ho hx ?_
  rw [List.drop_zero, List.take_length]
  exact hK

/-- a store into one cell of it -/
theorem wpl_set_blk {ops : Array Oper} {rest : List Oper} {o : Oper} {a : Act} {Q : Exit → Act → World → Prop} (h : Blk w g t cs) (i : Nat) (u : Value) {ty : TypeId} (hi : (P.info? ty).map (·.size) = some 1) (hk : i < cs.length) (hu : u.cells = #[u]) (h1 : u.oneCell' = true)
    (hgd : Region.wanted o (yielded ops a.tmps) = true) {x y : Operand} (ho : o.op = .store ty x y) (hx : a.eval x = .pointer (some ⟨g, i, none⟩)) (hy : a.eval y = u)
    (hK : ∀ w', Blk w' g t (cs.set i u) → w.grownBy w' (some g) → wpList P ops Q rest (a.put o.dst undef) w') : wpList P ops Q (o :: rest) a w := by
  refine wpList_want hgd fun _ h' => ?_
  obtain ⟨inf, hii, his⟩ := Option.map_eq_some_iff.1 hi
  have := run_storeCells_at P g i t [u] 0 cs.toArray w h (by simp; omega) (by simpa using h1)
  simp only [Nat.add_zero, List.length_singleton] at this
  have hrun : (storeVar ty ⟨g, i, none⟩ u).run P w = .ok () (w.setRow g (cs.take i ++ [u] ++ cs.drop (i + 1)).toArray) := by
    simp [storeVar, sizeOf, typeInfo, hii, his, hu, this]
  have e : cs.take i ++ [u] ++ cs.drop (i + 1) = cs.set i u := by
    rw [List.set_eq_take_append_cons_drop, if_pos hk]
    simp
  rw [e] at hrun
  unfold Oper.wp execOp
  simp only [ho, hx, hy, Instr.storeAt, Instr.sureAddr, Sem.run_bind, Sem.run_pure, Result.andThen_ok, hrun]
  exact h' _ _ (hK _ (h.row _) (grown_setRow _ _ _))
end

/-- a result that lies in a block -/
theorem ret_blk {P : Program} {fn : Func} {R : Ending → World → Prop} {a : Act} {w : World} {p : Tmp} {ty : TypeId} {g : Nat} {t : TypeId} {cs : List Value} (hB : Blk w g t cs) (hr : fn.results = #[.cell p ty]) (hp : a.tmps.getD p undef = .pointer (some ⟨g, 0, none⟩)) {d : TypeDesc}
    (hu : P.underlying ty = some d) (hd : (match d with | .struct _ | .array _ _ => true | _ => false) = true) (hi : (P.info? ty).map (·.size) = some cs.length) (hdf : a.defers = []) (hR : R (.returned (.agg cs.toArray)) w) : bodyPost P fn R .ret a w :=
  bodyPost_ret (results_cell_row hr _ _ g t cs.toArray (0, 0) d hp hB hu hd (by simpa using hi)) hdf hR

/-! ### two arrays of bools -/
def bools (l : List Bool) : List Value := l.map .bool
theorem bools_one (l : List Bool) : ∀ v ∈ bools l, v.oneCell' = true := by
  intro v hv
  obtain ⟨b, _, rfl⟩ := List.mem_map.1 hv
  rfl

theorem run_eqItems_bools {P : Program} (w : World) (d : Nat) (e : TypeId) (he : P.underlying e = some .bool) (hc : P.cellsOf e = 1) (xs ys : List Bool) (hl : xs.length = ys.length) :
    ∀ (n k : Nat), k + n = xs.length → (Op.eqItems (d + 1) e (P.cellsOf e) (bools xs).toArray (bools ys).toArray (List.range' k n)).run P w = .ok (decide (xs.drop k = ys.drop k)) w := by
  intro n
  induction n with
  | zero =>
    intro k hk
    rw [List.drop_of_length_le (by omega), List.drop_of_length_le (by omega)]
    simp [Op.eqItems]
  | succ n ih =>
    intro k hk
    have hx : xs[k]? = some xs[k] := List.getElem?_eq_getElem (by omega)
    have hy : ys[k]? = some ys[k] := List.getElem?_eq_getElem (by omega)
    have hagg : (isAgg e).run P w = .ok false w := by
      unfold isAgg
      rw [Sem.run_bind, run_underlying he w]
      rfl
    have px : (part e (bools xs).toArray (k * P.cellsOf e)).run P w = .ok (.bool xs[k]) w := by
      simp [part, Sem.run_bind, hagg, hc, bools, hx]
    have py : (part e (bools ys).toArray (k * P.cellsOf e)).run P w = .ok (.bool ys[k]) w := by
      simp [part, Sem.run_bind, hagg, hc, bools, hy]
    rw [List.range'_succ]
    simp only [Op.eqItems, Sem.run_bind, px, py, run_equalIn_bool w d e _ _ he, Result.andThen_ok]
    have dx : xs.drop k = xs[k] :: xs.drop (k + 1) := List.drop_eq_getElem_cons (by omega)
    have dy : ys.drop k = ys[k] :: ys.drop (k + 1) := List.drop_eq_getElem_cons (by omega)
    have e : (xs.drop k = ys.drop k) ↔ (xs[k] = ys[k] ∧ xs.drop (k + 1) = ys.drop (k + 1)) := by rw [dx, dy, List.cons.injEq]
    by_cases hb : xs[k] = ys[k]
    · have hb' : (!(xs[k] == ys[k])) = false := by simp [hb]
      rw [hb', if_neg (by simp), ih (k + 1) (by omega)]
      simp only [e, hb, true_and]
    · have hb' : (!(xs[k] == ys[k])) = true := by simp [hb]
      rw [hb', if_pos rfl]
      simp only [e, hb, false_and]
      rfl

theorem run_equal_bools {P : Program} (w : World) (t e : TypeId) (n : Nat) (ht : P.underlying t = some (.array n e)) (he : P.underlying e = some .bool) (hc : P.cellsOf e = 1) (hi : (P.info? e).isSome = true) (xs ys : List Bool) (hx : xs.length = n) (hy : ys.length = n) (b : Bool) (hb : decide (xs = ys) = b) :
    (Op.equalIn 10000 t (.agg (bools xs).toArray) (.agg (bools ys).toArray)).run P w = .ok b w := by
  subst hb
  obtain ⟨i, hi⟩ := Option.isSome_iff_exists.1 hi
  have := run_equalIn_array (P := P) w 9999 (bools xs).toArray (bools ys).toArray ht hi
  have h2 := run_eqItems_bools (P := P) w 9998 e he hc xs ys (by omega) n 0 (by omega)
  rw [← List.range_eq_range'] at h2
  rw [this, h2]
  simp
end Go.Proofs.Ytoddhfabeiimkaa


namespace Go.Proofs.Ytoddhfabeiimkaa
set_option linter.unusedVariables false
set_option linter.unusedSimpArgs false
set_option maxRecDepth 100000
open Go.RowKit

/-- of the blocks that were there those outside S are as they were -/
structure Keeps (S : Nat → Prop) (w w' : World) : Prop where
  os : w'.os = w.os
  tape : w'.tape = w.tape
  output : w'.output = w.output
  size : w.heap.size ≤ w'.heap.size
  block : ∀ k, k < w.heap.size → ¬ S k → w'.heap[k]? = w.heap[k]?

section
variable {S S' : Nat → Prop} {a b c w w' : World}
theorem Keeps.refl (S : Nat → Prop) (w : World) : Keeps S w w := ⟨rfl, rfl, rfl, Nat.le_refl _, fun _ _ _ => rfl⟩
theorem Keeps.trans (h : Keeps S a b) (k : Keeps S b c) : Keeps S a c :=
  ⟨k.os.trans h.os, k.tape.trans h.tape, k.output.trans h.output, Nat.le_trans h.size k.size, fun i hi hn => (k.block i (Nat.lt_of_lt_of_le hi h.size) hn).trans (h.block i hi hn)⟩
/-- the second may have turned blocks that the first has made, too -/
theorem Keeps.step (h : Keeps S a b) (k : Keeps S' b c) (hs : ∀ i, i < a.heap.size → S' i → S i) : Keeps S a c :=
  ⟨k.os.trans h.os, k.tape.trans h.tape, k.output.trans h.output, Nat.le_trans h.size k.size, fun i hi hn => (k.block i (Nat.lt_of_lt_of_le hi h.size) (fun h' => hn (hs i hi h'))).trans (h.block i hi hn)⟩
theorem Keeps.mono (h : Keeps S a b) (hs : ∀ i, S i → S' i) : Keeps S' a b := ⟨h.os, h.tape, h.output, h.size, fun i hi hn => h.block i hi (fun h' => hn (hs i h'))⟩
theorem Keeps.of_grown {r : Option Nat} (h : a.grownBy b r) : Keeps (fun k => some k = r) a b := ⟨h.os, h.tape, h.output, h.size, fun i hi hn => h.block i hi hn⟩
theorem Keeps.of_below (h : Below a.heap.size a b) (S : Nat → Prop) : Keeps S a b := ⟨h.os, h.tape, h.output, h.size, fun i hi _ => h.block i hi⟩
theorem Keeps.alloc (h : Keeps S a b) (o : Obj) : Keeps S a (b.alloc o) := h.step (Keeps.of_grown (grown_alloc b o none)) (fun i _ hi => by cases hi)
theorem Keeps.drewN (h : Keeps S a b) (n : Nat) : Keeps S a (b.drewN n) := ⟨h.os, h.tape, h.output, h.size, h.block⟩
theorem Keeps.undrewN {n : Nat} (h : Keeps S (a.drewN n) b) : Keeps S a b := ⟨h.os, h.tape, h.output, h.size, h.block⟩
theorem Keeps.below {B : Nat} (h : Keeps S a b) (hB : B ≤ a.heap.size) (hs : ∀ i, S i → B ≤ i) : Below B a b := ⟨h.os, h.tape, h.output, h.size, fun i hi => h.block i (by omega) (fun h' => by have := hs i h'; omega)⟩
theorem Blk.keeps {g : Nat} {t : TypeId} {cs : List Value} (h : Blk w g t cs) (k : Keeps S w w') (hg : ¬ S g) : Blk w' g t cs := (k.block g h.lt hg).trans h
theorem own_keeps {base : Nat} {e : TypeId} {size n : Nat} {v : Value} {xs : List Value} (h : w.ownsRow base e size v n xs) (k : Keeps S w w') (hv : ∀ g, v.ownBlock = some g → ¬ S g) : w'.ownsRow base e size v n xs := by
  refine ⟨h.1, ?_⟩
  rcases h.2 with h' | ⟨g, cap, cur, rfl, hb, hg, rest⟩
  · exact .inl h'
  · refine .inr ⟨g, cap, cur, rfl, hb, ?_, rest⟩
    rw [k.block g (Array.getElem?_eq_some_iff.1 hg).1 (hv g rfl)]
    exact hg
theorem Cells.keeps {A : Option Addr} {vs : List Value} {B : Nat} (h : Cells w B A vs) (k : Keeps S w w') (hB : B ≤ w.heap.size) (hs : ∀ i, S i → B ≤ i) : Cells w' B A vs :=
  h.keep (Nat.le_refl _) fun _ hp => (k.below hB hs).cell hp

/-- rows of unlike element types lie in unlike blocks -/
theorem own_own_ne {base base' : Nat} {e e' : TypeId} {size size' n n' : Nat} {v v' : Value} {xs xs' : List Value} (h : w.ownsRow base e size v n xs) (h' : w.ownsRow base' e' size' v' n' xs') (hne : e ≠ e') {g : Nat} (hg : v.ownBlock = some g) : v'.ownBlock ≠ some g := by
  intro hg'
  rcases h.2 with ⟨rfl, _⟩ | ⟨g1, cap, cur, rfl, _, hh, _⟩
  · simp [Value.ownBlock] at hg
  · rcases h'.2 with ⟨rfl, _⟩ | ⟨g2, cap', cur', rfl, _, hh', _⟩
    · simp [Value.ownBlock] at hg'
    · simp only [Value.ownBlock, Option.some.injEq] at hg hg'
      subst hg
      subst hg'
      rw [hh] at hh'
      injection hh' with hh'
      injection hh' with _ ht
      exact hne ht
theorem own_blk_ne {base : Nat} {e t : TypeId} {size n g : Nat} {v : Value} {xs cs : List Value} (h : w.ownsRow base e size v n xs) (h' : Blk w g t cs) (hne : e ≠ t) : v.ownBlock ≠ some g := by
  intro hg
  rcases h.2 with ⟨rfl, _⟩ | ⟨g1, cap, cur, rfl, _, hh, _⟩
  · simp [Value.ownBlock] at hg
  · simp only [Value.ownBlock, Option.some.injEq] at hg
    subst hg
    unfold Blk at h'
    rw [hh] at h'
    injection h' with h'
    injection h' with _ ht
    exact hne ht
end
end Go.Proofs.Ytoddhfabeiimkaa


namespace Go.Proofs.Ytoddhfabeiimkaa.Deq
set_option linter.unusedVariables false
set_option linter.unusedSimpArgs false
set_option maxRecDepth 100000

structure Op where
  kind : Int
  n : Int

abbrev Ans := Int × Int

def next (l : List Int) (o : Op) : List Int :=
  if o.kind = 1 then l ++ [o.n] else if o.kind = 2 then l.dropLast else if o.kind = 3 then l.tail else l

def ans (l : List Int) (o : Op) : Ans :=
  if o.kind = 1 then (0, 0)
  else if o.kind = 2 then (match l.getLast? with | some x => (0, x) | none => (7, 0))
  else if o.kind = 3 then (match l.head? with | some x => (0, x) | none => (7, 0))
  else (9, 0)

def after (l : List Int) (ops : List Op) : List Int := ops.foldl next l

def answers : List Int → List Op → List Ans
  | _, [] => []
  | l, o :: ops => ans l o :: answers (next l o) ops

theorem after_append (l : List Int) (a b : List Op) : after l (a ++ b) = after (after l a) b := by simp [after]
theorem answers_append (l : List Int) (a b : List Op) : answers l (a ++ b) = answers l a ++ answers (after l a) b := by
  induction a generalizing l with
  | nil => rfl
  | cons o a ih => simp [answers, after, ih]
theorem answers_length (l : List Int) (a : List Op) : (answers l a).length = a.length := by
  induction a generalizing l with
  | nil => rfl
  | cons o a ih => simp [answers, ih]
theorem answers_take (l : List Int) (ops : List Op) (k : Nat) (h : k < ops.length) : answers l (ops.take (k + 1)) = answers l (ops.take k) ++ [ans (after l (ops.take k)) ops[k]] := by
  rw [List.take_succ_eq_append_getElem h, answers_append]
  rfl
theorem after_take (l : List Int) (ops : List Op) (k : Nat) (h : k < ops.length) : after l (ops.take (k + 1)) = next (after l (ops.take k)) ops[k] := by
  rw [List.take_succ_eq_append_getElem h, after_append]
  rfl
theorem after_length (l : List Int) (ops : List Op) : (after l ops).length ≤ l.length + ops.length := by
  induction ops generalizing l with
  | nil => simp [after]
  | cons o ops ih =>
    have h1 := ih (next l o)
    have h2 : (next l o).length ≤ l.length + 1 := by
      unfold next
      split
      · simp
      · split
        · simp; omega
        · split
          · simp; omega
          · omega
    have e : after l (o :: ops) = after (next l o) ops := rfl
    rw [e, List.length_cons]
    omega

/-! ### the ring -/
def ringed (ring : List Int) (top : Nat) (l : List Int) : Prop :=
  l.length ≤ ring.length ∧ (0 < ring.length → top < ring.length) ∧ ∀ i, i < l.length → ring[(top + i) % ring.length]? = l[i]?

theorem ring_nil : ringed [] 0 [] := ⟨Nat.le_refl _, fun h => by simp at h, fun i hi => by simp at hi⟩

theorem mod_inj {n a i j : Nat} (hi : i < n) (hj : j < n) (h : (a + i) % n = (a + j) % n) : i = j := by
  have h1 := Nat.div_add_mod (a + i) n
  have h2 := Nat.div_add_mod (a + j) n
  rw [h] at h1
  rcases Nat.lt_trichotomy ((a + i) / n) ((a + j) / n) with hlt | he | hgt
  · have : n * ((a + i) / n) + n ≤ n * ((a + j) / n) := by
      have := Nat.mul_le_mul_left n hlt
      rwa [Nat.mul_succ] at this
    omega
  · rw [he] at h1; omega
  · have : n * ((a + j) / n) + n ≤ n * ((a + i) / n) := by
      have := Nat.mul_le_mul_left n hgt
      rwa [Nat.mul_succ] at this
    omega

/-- a thing is laid at the bottom, where there is room -/
theorem ring_push {ring : List Int} {top : Nat} {l : List Int} (h : ringed ring top l) (hr : l.length < ring.length) (x : Int) : ringed (ring.set ((top + l.length) % ring.length) x) top (l ++ [x]) := by
  obtain ⟨h1, h2, h3⟩ := h
  have hm : (top + l.length) % ring.length < ring.length := Nat.mod_lt _ (by omega)
  refine ⟨by simp; omega, by simpa using h2, fun i hi => ?_⟩
  rw [List.length_set]
  simp only [List.length_append, List.length_singleton] at hi
  by_cases hil : i = l.length
  · subst hil
    rw [List.getElem?_set_self hm]
    simp
  · rw [List.getElem?_set_ne (fun e => hil (mod_inj (by omega) (by omega) e.symm)), List.getElem?_append_left (by omega)]
    exact h3 i (by omega)

theorem ring_pop {ring : List Int} {top : Nat} {l : List Int} (h : ringed ring top l) : ringed ring top l.dropLast := by
  obtain ⟨h1, h2, h3⟩ := h
  refine ⟨by simp; omega, h2, fun i hi => ?_⟩
  simp only [List.length_dropLast] at hi
  rw [h3 i (by omega), List.getElem?_dropLast, if_pos hi]

theorem ring_steal {ring : List Int} {top : Nat} {l : List Int} (h : ringed ring top l) (h0 : 0 < l.length) : ringed ring ((top + 1) % ring.length) l.tail := by
  obtain ⟨h1, h2, h3⟩ := h
  refine ⟨by simp; omega, fun _ => Nat.mod_lt _ (by omega), fun i hi => ?_⟩
  simp only [List.length_tail] at hi
  rw [Nat.mod_add_mod, show top + 1 + i = top + (i + 1) by omega, h3 (i + 1) (by omega), List.getElem?_tail]

/-- the things go over into a larger ring -/
def moved (n : Nat) (l : List Int) (k : Nat) : List Int := l.take k ++ List.replicate (n - k) 0
theorem moved_zero (n : Nat) (l : List Int) : moved n l 0 = List.replicate n 0 := by simp [moved]
theorem moved_length (n : Nat) (l : List Int) (k : Nat) (hk : k ≤ n) (hl : k ≤ l.length) : (moved n l k).length = n := by simp [moved]; omega
theorem moved_get (n : Nat) (l : List Int) (k : Nat) (hk : k < n) (hl : k ≤ l.length) : (moved n l k)[k]? = some 0 := by
  unfold moved
  obtain ⟨m, hm⟩ : ∃ m, n - k = m + 1 := ⟨n - k - 1, by omega⟩
  rw [List.getElem?_append_right (by simp; omega), hm]
  simp [List.replicate_succ, Nat.min_eq_left hl]
theorem moved_set (n : Nat) (l : List Int) (k : Nat) (x : Int) (hk : k < n) (hx : l[k]? = some x) : (moved n l k).set k x = moved n l (k + 1) := by
  have hl : k < l.length := (List.getElem?_eq_some_iff.1 hx).1
  unfold moved
  obtain ⟨m, hm⟩ : ∃ m, n - k = m + 1 := ⟨n - k - 1, by omega⟩
  rw [hm, show n - (k + 1) = m by omega, List.set_append_right _ _ (by simp; omega)]
  have e : l.take (k + 1) = l.take k ++ [x] := by
    obtain ⟨h', rfl⟩ := List.getElem?_eq_some_iff.1 hx
    exact List.take_succ_eq_append_getElem h'
  rw [e]
  simp [List.replicate_succ, Nat.min_eq_left (Nat.le_of_lt hl)]
theorem ring_moved (n : Nat) (l : List Int) (h : l.length < n) : ringed (moved n l l.length) 0 l := by
  have hl := moved_length n l l.length (by omega) (Nat.le_refl _)
  refine ⟨by omega, fun _ => by omega, fun i hi => ?_⟩
  rw [hl, Nat.zero_add, Nat.mod_eq_of_lt (by omega)]
  unfold moved
  rw [List.take_length, List.getElem?_append_left hi]

/-! ### the laws -/
def pushes (l : List Int) : List Op := l.map fun x => ⟨1, x⟩
def steals (k : Nat) : List Op := List.replicate k ⟨3, 0⟩
def pops (k : Nat) : List Op := List.replicate k ⟨2, 0⟩

theorem after_pushes (l m : List Int) : after l (pushes m) = l ++ m := by
  induction m generalizing l with
  | nil => simp [pushes, after]
  | cons x m ih =>
    have e : after l (pushes (x :: m)) = after (l ++ [x]) (pushes m) := by simp [pushes, after, next]
    rw [e, ih]
    simp

theorem steals_all (l : List Int) : after l (steals l.length) = [] ∧ (answers l (steals l.length)).map (·.2) = l := by
  induction l with
  | nil => exact ⟨rfl, rfl⟩
  | cons x l ih =>
    have e : steals (x :: l).length = ⟨3, 0⟩ :: steals l.length := by simp [steals, List.replicate_succ]
    rw [e]
    refine ⟨ih.1, ?_⟩
    have := ih.2
    simp only [answers, List.map_cons]
    have e1 : next (x :: l) ⟨3, 0⟩ = l := rfl
    have e2 : (ans (x :: l) ⟨3, 0⟩).2 = x := rfl
    rw [e1, e2, this]

theorem pops_all (l : List Int) : after l (pops l.length) = [] ∧ (answers l (pops l.length)).map (·.2) = l.reverse := by
  obtain ⟨n, hn⟩ : ∃ n, n = l.length := ⟨_, rfl⟩
  rw [← hn]
  induction n generalizing l with
  | zero =>
    have : l = [] := List.eq_nil_of_length_eq_zero hn.symm
    subst this
    exact ⟨rfl, rfl⟩
  | succ n ih =>
    have hne : l ≠ [] := by intro h; subst h; simp at hn
    have e : pops (n + 1) = ⟨2, 0⟩ :: pops n := by simp [pops, List.replicate_succ]
    obtain ⟨h1, h2⟩ := ih l.dropLast (by simp; omega)
    have e1 : next l ⟨2, 0⟩ = l.dropLast := rfl
    rw [e]
    refine ⟨h1, ?_⟩
    simp only [answers, List.map_cons]
    rw [e1, h2]
    have e2 : (ans l ⟨2, 0⟩).2 = l.getLast hne := by
      show (match l.getLast? with | some x => ((0 : Int), x) | none => (7, 0)).2 = _
      rw [List.getLast?_eq_some_getLast hne]
    rw [e2]
    conv => rhs; rw [← List.dropLast_concat_getLast hne]
    simp

/-- both ends do not meet -/
theorem two_law (l : List Int) (h : 2 ≤ l.length) :
    ans l ⟨3, 0⟩ = ans (next l ⟨2, 0⟩) ⟨3, 0⟩ ∧ ans (next l ⟨3, 0⟩) ⟨2, 0⟩ = ans l ⟨2, 0⟩ ∧ next (next l ⟨3, 0⟩) ⟨2, 0⟩ = next (next l ⟨2, 0⟩) ⟨3, 0⟩ := by
  match l, h with
  | x :: y :: l, _ =>
    refine ⟨rfl, ?_, ?_⟩
    · show (match (y :: l).getLast? with | some x => ((0 : Int), x) | none => (7, 0)) = (match (x :: y :: l).getLast? with | some x => ((0 : Int), x) | none => (7, 0))
      simp [List.getLast?_cons_cons]
    · show (y :: l).dropLast = ((x :: y :: l).dropLast).tail
      simp [List.dropLast_cons_cons]
end Go.Proofs.Ytoddhfabeiimkaa.Deq


namespace Go.Proofs.Ytoddhfabeiimkaa
set_option linter.unusedVariables false
set_option linter.unusedSimpArgs false
set_option maxRecDepth 100000
open Go Go.RowKit

theorem still_tail {P : Go.Program} {id : Nat} {Q : Exit → Act → World → Prop} {a : Act} {w : World} {l : List Oper} (n : Nat) (hm : P.follows .mixedOrders = true) (hB : Region.lexTailB .any l.toArray n = true)
    (h : wpStill P l.toArray (w.drewN 1) (fun a' => wpList P l.toArray Q (l.drop n) a' (w.drewN 1)) (l.take n) a) : (Code.region id l.toArray true).wp P Q a w :=
  wp_region_still_tail n hm hB h

/-- its last operation is the store -/
theorem still_last {P : Go.Program} {id : Nat} {Q : Exit → Act → World → Prop} {a : Act} {w : World} {l : List Oper} (hm : P.follows .mixedOrders = true) (hB : Region.lexTailB .any l.toArray (l.length - 1) = true)
    (h : wpStill P l.toArray (w.drewN 1) (fun a' => wpList P l.toArray Q (l.drop (l.length - 1)) a' (w.drewN 1)) (l.take (l.length - 1)) a) : (Code.region id l.toArray true).wp P Q a w :=
  still_tail (l.length - 1) hm hB h

/-- an own row and its block: the block as a whole -/
theorem own_blk {w : World} {base : Nat} {e : TypeId} {g n c : Nat} {xs : List Value} (h : w.ownsRow base e 1 (.slice (some ⟨g, 0, none⟩) n c) n xs) :
    ∃ cs, Blk w g e cs ∧ cs.length = c ∧ cs.take n = xs ∧ n ≤ c ∧ c ≤ maxLen ∧ base ≤ g := by
  rcases h.2 with ⟨h', _⟩ | ⟨g1, cap, cur, he, hb, hh, hle, hm, hs, ht⟩
  · cases h'
  · cases he
    exact ⟨cur.toList, hh, by simpa using hs, by simpa using ht, hle, hm, hb⟩
theorem own_of_blk {w : World} {base : Nat} {e : TypeId} {g n : Nat} {cs : List Value} (h : Blk w g e cs) (hb : base ≤ g) (hn : n ≤ cs.length) (hm : cs.length ≤ maxLen) : w.ownsRow base e 1 (.slice (some ⟨g, 0, none⟩) n cs.length) n (cs.take n) :=
  ⟨by simp; omega, .inr ⟨g, cs.length, cs.toArray, rfl, hb, h, hn, hm, by simp, by simp⟩⟩

theorem wpl_set_own {P : Go.Program} {w : World} {base : Nat} {e : TypeId} {g n c : Nat} {xs : List Value} {ops : Array Oper} {rest : List Oper} {o : Oper} {a : Act} {Q : Exit → Act → World → Prop} (h : w.ownsRow base e 1 (.slice (some ⟨g, 0, none⟩) n c) n xs) (i : Nat) (u : Value) {ty : TypeId} (hi : (P.info? ty).map (·.size) = some 1) (hk : i < n) (hu : u.cells = #[u]) (h1 : u.oneCell' = true)
    (hgd : Region.wanted o (yielded ops a.tmps) = true) {x y : Operand} (ho : o.op = .store ty x y) (hx : a.eval x = .pointer (some ⟨g, i, none⟩)) (hy : a.eval y = u)
    (hK : ∀ w', w'.ownsRow base e 1 (.slice (some ⟨g, 0, none⟩) n c) n (xs.set i u) → w.grownBy w' (some g) → wpList P ops Q rest (a.put o.dst undef) w') : wpList P ops Q (o :: rest) a w := by
  obtain ⟨cs, hB, rfl, rfl, hn, hm, hb⟩ := own_blk h
  refine wpl_set_blk hB i u hi (by omega) hu h1 hgd ho hx hy fun w' hB' hg => hK w' ?_ hg
  have := own_of_blk (n := n) hB' hb (by simpa using hn) (by simpa using hm)
  rw [List.length_set, List.take_set] at this
  exact this
end Go.Proofs.Ytoddhfabeiimkaa


namespace Go.Proofs.Ytoddhfabeiimkaa
set_option linter.unusedVariables false
set_option linter.unusedSimpArgs false
set_option maxRecDepth 100000
open Go.RowKit
set_option maxRecDepth 100000

theorem info_i64 : (Try.prog.info? 3).map (fun i => (i.zero, i.size, i.bytes)) = some (some (.int .i64 0), 1, 8) := by kernel_rfl

theorem rem_i64 (a b n : Nat) (h : a + b < 2 ^ 62) (hn : 0 < n) : (IntKind.i64.wrap (↑a + ↑b)).tmod ↑n = (((a + b) % n : Nat) : Int) := by
  rw [IntWalk.i64_in _ (by omega)]
  rfl

/-- a deque in block g, its ring in block r -/
structure DqAt (w : World) (g : Nat) (l : List Int) (ring : List Int) (top : Nat) (A : Option Addr) (c : Nat) : Prop where
  blk : Blk w g 49 [.slice A ring.length c, .int .i64 top, .int .i64 l.length]
  own : w.ownsRow (g + 1) 3 1 (.slice A ring.length c) ring.length (ints .i64 ring)
  rng : Deq.ringed ring top l
  small : ring.length ≤ 17592186044600
  small' : top ≤ ring.length

def DqRep (w : World) (g : Nat) (l : List Int) (r : Option Nat) : Prop := ∃ ring top A c, DqAt w g l ring top A c ∧ (Value.slice A ring.length c).ownBlock = r

theorem steal_none (g : Nat) (r : Option Nat) (w : World) (h : DqRep w g [] r) :
    Calls Try.prog 17 #[.pointer (some ⟨g, 0, none⟩)] w fun e w' => e = .returned (.tuple #[.int .i64 0, .bool false]) ∧ w = w' := by
  obtain ⟨ring, top, A, c, h, _⟩ := h
  have c2 := h.blk.cell 2
  simp only [List.getElem?_cons_succ, List.getElem?_cons_zero, List.length_nil] at c2
  go_enter Try.func17, Try.ntmps17
  go_wp2
  go_ret2
  exact ⟨rfl, rfl⟩

theorem pop_none (g : Nat) (r : Option Nat) (w : World) (h : DqRep w g [] r) :
    Calls Try.prog 28 #[.pointer (some ⟨g, 0, none⟩)] w fun e w' => e = .returned (.tuple #[.int .i64 0, .bool false]) ∧ w = w' := by
  obtain ⟨ring, top, A, c, h, _⟩ := h
  have c2 := h.blk.cell 2
  simp only [List.getElem?_cons_succ, List.getElem?_cons_zero, List.length_nil] at c2
  go_enter Try.func28, Try.ntmps28
  go_wp2
  go_ret2
  exact ⟨rfl, rfl⟩

theorem steal_some (g : Nat) (x : Int) (l : List Int) (r : Option Nat) (w : World) (h : DqRep w g (x :: l) r) :
    Calls Try.prog 17 #[.pointer (some ⟨g, 0, none⟩)] w fun e w' => e = .returned (.tuple #[.int .i64 x, .bool true]) ∧ DqRep w' g l r ∧ Keeps (fun k => k = g) w w' := by
  obtain ⟨ring, top, A, c, h, hr⟩ := h
  have hn : (x :: l).length ≤ ring.length := h.rng.1
  have hlen : (x :: l).length = l.length + 1 := rfl
  have htop : top < ring.length := h.rng.2.1 (by omega)
  have hx : ring[top]? = some x := by
    have := h.rng.2.2 0 (by simp)
    rwa [Nat.add_zero, Nat.mod_eq_of_lt htop] at this
  have hst := Deq.ring_steal h.rng (by simp)
  have hsm := h.small
  obtain ⟨b, c', hA, hle, hm, hb1, hb2⟩ := own_addr h.own (by omega)
  cases hA
  have hc := h.own.cellAt top (by omega)
  rw [ints, List.getElem?_map, hx] at hc
  simp only [Option.map_some] at hc
  have c0 := h.blk.cell 0
  have c1 := h.blk.cell 1
  have c2 := h.blk.cell 2
  simp only [List.getElem?_cons_succ, List.getElem?_cons_zero, hlen] at c0 c1 c2
  have hblk := h.blk
  have f1 := h.blk.frozen 1
  unfold maxLen at hm
  obtain ⟨n, hnn⟩ : ∃ n, n = ring.length := ⟨_, rfl⟩
  rw [← hnn] at htop hsm hle c0 hn
  have HN := Lib.hid hnn
  clear hx hst hnn
  have hn0 : n ≠ 0 := by omega
  obtain ⟨t, ht⟩ : ∃ t, t = (top + 1) % n := ⟨_, rfl⟩
  have htn : t < n := by rw [ht]; exact Nat.mod_lt _ (by omega)
  have HT := Lib.hid ht
  have hw : (IntKind.i64.wrap (↑top + 1)).tmod ↑n = (t : Int) := by rw [ht]; exact rem_i64 top 1 n (by omega) (by omega)
  clear ht
  go_enter Try.func17, Try.ntmps17
  go_wp2
  go_quiet (fail)
  go_wp2
  (refine still_tail 14 (by kernel_rfl) (by kernel_rfl) ?_; simp only [List.take_succ_cons, List.take_zero, List.drop_succ_cons, List.drop_zero]; repeat still_step; try refine wpStill_nil ?_)
  refine wpl_set_blk ((hblk.drewN nq).drewN 1) 1 (.int .i64 t) (by kernel_rfl) (by simp) rfl rfl rfl rfl rfl rfl ?_
  intro w2 hB2 hg2
  simp only [List.set_cons_succ, List.set_cons_zero, hlen] at hB2
  have d2 := hB2.cell 2
  simp only [List.getElem?_cons_succ, List.getElem?_cons_zero] at d2
  go_wp2_with (refine wpl_set_blk hB2 2 (.int .i64 l.length) (by kernel_rfl) (by simp) rfl rfl rfl rfl rfl rfl ?_; intro w3 hB3 hg3)
  go_ret2
  simp only [List.set_cons_succ, List.set_cons_zero, hlen] at hB3
  have hk3 : Keeps (fun k => k = g) w w3 := (((Keeps.of_grown hg2).undrewN.undrewN).trans (Keeps.of_grown hg3)).mono (fun i hi => by injection hi)
  refine ⟨rfl, ⟨ring, t, _, c, ⟨hB3, own_keeps h.own hk3 (fun g' hg' e => ?_), ?_, h.small, ?_⟩, hr⟩, hk3⟩
  · have := own_ge h.own g' hg'
    omega
  · rw [HT.out, HN.out]
    exact Deq.ring_steal h.rng (by simp)
  · have := HN.out
    omega

theorem pop_some (g : Nat) (x : Int) (l : List Int) (r : Option Nat) (w : World) (h : DqRep w g (l ++ [x]) r) :
    Calls Try.prog 28 #[.pointer (some ⟨g, 0, none⟩)] w fun e w' => e = .returned (.tuple #[.int .i64 x, .bool true]) ∧ DqRep w' g l r ∧ Keeps (fun k => k = g) w w' := by
  obtain ⟨ring, top, A, c, h, hr⟩ := h
  have hlen : (l ++ [x]).length = l.length + 1 := by simp
  have hn : l.length + 1 ≤ ring.length := by have := h.rng.1; omega
  have htop : top < ring.length := h.rng.2.1 (by omega)
  obtain ⟨t, ht⟩ : ∃ t, t = (top + l.length) % ring.length := ⟨_, rfl⟩
  have htn : t < ring.length := by rw [ht]; exact Nat.mod_lt _ (by omega)
  have hx : ring[t]? = some x := by
    have := h.rng.2.2 l.length (by simp)
    rw [ht, this]
    simp
  have hsm := h.small
  obtain ⟨b, c', hA, hle, hm, hb1, hb2⟩ := own_addr h.own (by omega)
  cases hA
  have hc := h.own.cellAt t (by omega)
  rw [ints, List.getElem?_map, hx] at hc
  simp only [Option.map_some] at hc
  have c0 := h.blk.cell 0
  have c1 := h.blk.cell 1
  have c2 := h.blk.cell 2
  simp only [List.getElem?_cons_succ, List.getElem?_cons_zero, hlen] at c0 c1 c2
  have hblk := h.blk
  have f1 := h.blk.frozen 1
  unfold maxLen at hm
  obtain ⟨n, hnn⟩ : ∃ n, n = ring.length := ⟨_, rfl⟩
  rw [← hnn] at htop hsm hle c0 hn htn ht
  have hn0 : n ≠ 0 := by omega
  have hw : (IntKind.i64.wrap (↑top + ↑l.length)).tmod ↑n = (t : Int) := by rw [ht]; exact rem_i64 top l.length n (by omega) (by omega)
  have htr : t < ring.length := by omega
  have HX := Lib.hid hx
  have HNN := Lib.hid hnn.symm
  clear ht hx hnn htr
  go_enter Try.func28, Try.ntmps28
  go_wp2_with (refine wpl_set_blk hblk 2 (.int .i64 l.length) (by kernel_rfl) (by simp) rfl rfl rfl rfl rfl rfl ?_; intro w3 hB3 hg3)
  simp only [List.set_cons_succ, List.set_cons_zero, hlen] at hB3
  have hk3 : Keeps (fun k => k = g) w w3 := (Keeps.of_grown hg3).mono (fun i hi => by injection hi)
  have hown3 := own_keeps h.own hk3 (fun g' hg' e => by have := own_ge h.own g' hg'; omega)
  have d3 := hown3.cellAt t (by rw [HNN.out]; omega)
  rw [ints, List.getElem?_map, HX.out] at d3
  simp only [Option.map_some] at d3
  have d0 := hB3.cell 0
  have d1 := hB3.cell 1
  have d2 := hB3.cell 2
  simp only [List.getElem?_cons_succ, List.getElem?_cons_zero] at d0 d1 d2
  rw [HNN.out] at d0
  clear hc c0 c1 c2 hblk f1
  go_quiet (fail)
  go_wp2
  go_ret2
  refine ⟨rfl, ⟨ring, top, _, c, ⟨hB3, hown3, ?_, h.small, h.small'⟩, hr⟩, hk3.drewN _⟩
  have := Deq.ring_pop h.rng
  rwa [List.dropLast_concat] at this
end Go.Proofs.Ytoddhfabeiimkaa


namespace Go.Proofs.Ytoddhfabeiimkaa
set_option linter.unusedVariables false
set_option linter.unusedSimpArgs false
set_option maxRecDepth 100000
open Go.RowKit

set_option maxHeartbeats 4000000 in
theorem push_room (g : Nat) (x : Int) (l : List Int) (r : Option Nat) (w : World) (ring : List Int) (top : Nat) (A : Option Addr) (c : Nat) (h : DqAt w g l ring top A c) (hr : (Value.slice A ring.length c).ownBlock = r) (hn : l.length < ring.length) :
    Calls Try.prog 29 #[.pointer (some ⟨g, 0, none⟩), .int .i64 x] w fun e w' => e = .returned (.tuple #[]) ∧ DqRep w' g (l ++ [x]) r ∧ Keeps (fun k => k = g ∨ some k = r) w w' := by
  subst hr
  have htop : top < ring.length := h.rng.2.1 (by omega)
  obtain ⟨t, ht⟩ : ∃ t, t = (top + l.length) % ring.length := ⟨_, rfl⟩
  have htn : t < ring.length := by rw [ht]; exact Nat.mod_lt _ (by omega)
  have hsm := h.small
  obtain ⟨b, c', hA, hle, hm, hb1, hb2⟩ := own_addr h.own (by omega)
  cases hA
  have c0 := h.blk.cell 0
  have c1 := h.blk.cell 1
  have c2 := h.blk.cell 2
  simp only [List.getElem?_cons_succ, List.getElem?_cons_zero] at c0 c1 c2
  have hblk := h.blk
  have hown := h.own
  unfold maxLen at hm
  obtain ⟨n, hnn⟩ : ∃ n, n = ring.length := ⟨_, rfl⟩
  rw [← hnn] at htop hsm hle c0 hn htn ht
  have hn0 : n ≠ 0 := by omega
  have hne : ((l.length : Int) == (n : Int)) = false := by rw [beq_eq_false_iff_ne]; omega
  have hne' : l.length ≠ n := by omega
  have hw : (IntKind.i64.wrap (↑top + ↑l.length)).tmod ↑n = (t : Int) := by rw [ht]; exact rem_i64 top l.length n (by omega) (by omega)
  have HT := Lib.hid ht
  have HNN := Lib.hid hnn.symm
  clear ht hnn
  go_enter Try.func29, Try.ntmps29
  go_wp2
  go_quiet (fail)
  go_wp2
  (refine still_last (by kernel_rfl) (by kernel_rfl) ?_; simp only [List.length_cons, List.length_nil, Nat.reduceAdd, Nat.reduceSub, List.take_succ_cons, List.take_zero, List.drop_succ_cons, List.drop_zero]; repeat still_step; try refine wpStill_nil ?_)
  refine wpl_set_own (w := (w.drewN nq).drewN 1) hown t (.int .i64 x) (by kernel_rfl) (by rw [HNN.out]; exact htn) rfl rfl rfl rfl rfl rfl ?_
  intro w2 hown2 hg2
  rw [← ints_set] at hown2
  have hgb : g ≠ b := by omega
  have hB2 := hblk.grown (w := (w.drewN nq).drewN 1) hg2 (fun e => hgb (by injection e))
  clear c0 c1 c2 hblk hown
  have d2 := hB2.cell 2
  simp only [List.getElem?_cons_succ, List.getElem?_cons_zero] at d2
  go_wp2_with (refine wpl_set_blk hB2 2 (.int .i64 (l.length + 1 : Nat)) (by kernel_rfl) (by simp) rfl rfl rfl rfl rfl rfl ?_; intro w3 hB3 hg3)
  go_end0
  simp only [List.set_cons_succ, List.set_cons_zero] at hB3
  have hk2 : Keeps (fun k => k = g ∨ some k = some b) w w2 := ((Keeps.of_grown hg2).undrewN.undrewN).mono (fun i hi => .inr hi)
  have hk3 : Keeps (fun k => k = g ∨ some k = some b) w2 w3 := (Keeps.of_grown hg3).mono (fun i hi => .inl (by injection hi))
  have hown3 := own_keeps hown2 (Keeps.of_grown hg3) (fun g' hg' e => by have := own_ge hown2 g' hg'; injection e; omega)
  have hring := Deq.ring_push h.rng (by rw [HNN.out]; exact hn) x
  rw [HNN.out, ← HT.out] at hring
  refine ⟨rfl, ⟨ring.set t x, top, some ⟨b, 0, none⟩, c, ⟨?_, ?_, hring, by simpa using h.small, by simpa using h.small'⟩, rfl⟩, hk2.trans hk3⟩
  · simpa using hB3
  · simpa using hown3
end Go.Proofs.Ytoddhfabeiimkaa


namespace Go.Proofs.Ytoddhfabeiimkaa
set_option linter.unusedVariables false
set_option linter.unusedSimpArgs false
set_option maxRecDepth 100000
open Go.RowKit

set_option maxHeartbeats 4000000 in
theorem push_full (g : Nat) (x : Int) (l : List Int) (w : World) (ring : List Int) (top : Nat) (A : Option Addr) (c : Nat) (h : DqAt w g l ring top A c) (hfull : l.length = ring.length) (hbig : l.length ≤ 8796093022299) :
    Calls Try.prog 29 #[.pointer (some ⟨g, 0, none⟩), .int .i64 x] w fun e w' => e = .returned (.tuple #[]) ∧ DqRep w' g (l ++ [x]) (some w.heap.size) ∧ Keeps (fun k => k = g) w w' := by
  have c0 := h.blk.cell 0
  have c1 := h.blk.cell 1
  have c2 := h.blk.cell 2
  simp only [List.getElem?_cons_succ, List.getElem?_cons_zero] at c0 c1 c2
  rw [← hfull] at c0
  have hblk := h.blk
  have hown := h.own
  obtain ⟨n, hnn⟩ : ∃ n, n = l.length := ⟨_, rfl⟩
  rw [← hnn] at c0 c2 hbig
  have HNN := Lib.hid hnn.symm
  have HFULL := Lib.hid hfull
  clear hnn hfull
  obtain ⟨m, hm0⟩ : ∃ m, m = 2 * n + 1 := ⟨_, rfl⟩
  have n63 : m ≤ 9223372036854775807 := by omega
  have n47 : 8 * m ≤ 281474976710656 := by omega
  have hnm : n < m := by omega
  have HM := Lib.hid hm0
  clear hm0
  go_enter Try.func29, Try.ntmps29
  go_wp2
  go_quiet (fail)
  go_wp2_with (at_make; refine wp_make _ 25 3 (.int .i64 0) 8 m Try.underlying25 info_i64 rfl (by have := HM.out; omega) (by have := HM.out; omega) n47 n63 rfl rfl rfl rfl ?_; intro w2 hown2 hb2 hs2; have hblk2 := hblk.below (w := w.drewN nq) hb2; have e2 := hblk2.cell 2; simp only [List.getElem?_cons_succ, List.getElem?_cons_zero] at e2; rw [HNN.out] at e2)
  have hbb2 : Below w.heap.size w w2 := ⟨hb2.os, hb2.tape, hb2.output, hb2.size, hb2.block⟩
  have hown2' : w2.ownsRow w.heap.size 3 1 (.slice (some ⟨w.heap.size, 0, none⟩) m m) m (ints .i64 (Deq.moved m l 0)) := by
    rw [Deq.moved_zero, ints, List.map_replicate]
    exact hown2
  clear hown2 hb2 hs2 c0 c1 c2 e2 hblk2
  have hrng := Lib.hid h.rng
  have hsm := h.small
  have hsm' := h.small'
  go_loopw [27] (fun i wr => ∃ k : Nat, k ≤ n ∧ i = .int .i64 k ∧ wr.ownsRow w.heap.size 3 1 (.slice (some ⟨w.heap.size, 0, none⟩) m m) m (ints .i64 (Deq.moved m l k)) ∧ Below w.heap.size w wr) (fun i _ => n - (intOf i).toNat)
  case atStart => exact ⟨0, Nat.zero_le _, rfl, hown2', hbb2⟩
  case round =>
    clear hown2' hbb2
    obtain ⟨k, hk, rfl, hownr, hb⟩ := hrel
    have hblkr := hblk.keeps (Keeps.of_below hb (fun _ => False)) (fun h => h)
    have hold := own_keeps hown (Keeps.of_below hb (fun _ => False)) (fun _ _ h => h)
    by_cases hlt : k < n
    · obtain ⟨b, c', hA, hle, hm, hb1, hb2⟩ := own_addr hold (by rw [← HFULL.out, HNN.out]; omega)
      cases hA
      obtain ⟨t, ht⟩ : ∃ t, t = (top + k) % n := ⟨_, rfl⟩
      have htn : t < n := by rw [ht]; exact Nat.mod_lt _ (by omega)
      have hx : ring[t]? = l[k]? := by
        have := hrng.out.2.2 k (by rw [HNN.out]; exact hlt)
        rw [← HFULL.out, HNN.out] at this
        rw [ht]; exact this
      have hlk : k < l.length := by rw [HNN.out]; exact hlt
      obtain ⟨y, hy⟩ : ∃ y, l[k]? = some y := ⟨_, List.getElem?_eq_getElem hlk⟩
      rw [hy] at hx
      have hset := Lib.hid (Deq.moved_set m l k y (by omega) hy)
      have htr : t < ring.length := by rw [← HFULL.out, HNN.out]; exact htn
      have hc := hold.cellAt t (by rw [← HFULL.out, HNN.out]; omega)
      rw [ints, List.getElem?_map, hx] at hc
      simp only [Option.map_some] at hc
      have htop : top ≤ n := by rw [← HFULL.out, HNN.out] at hsm'; exact hsm'
      rw [← HFULL.out, HNN.out] at hle
      have hn0 : n ≠ 0 := by omega
      have hkm : k < m := by omega
      have hw : (IntKind.i64.wrap (↑top + ↑k)).tmod ↑n = (t : Int) := by rw [ht]; exact rem_i64 top k n (by omega) (by omega)
      have c0 := hblkr.cell 0
      have c1 := hblkr.cell 1
      have c2 := hblkr.cell 2
      simp only [List.getElem?_cons_succ, List.getElem?_cons_zero] at c0 c1 c2
      rw [HNN.out] at c2
      rw [← HFULL.out, HNN.out] at c0
      clear ht hx hy hblk hown h hlk htr
      go_wp2
      (refine still_last (by kernel_rfl) (by kernel_rfl) ?_; simp only [List.length_cons, List.length_nil, Nat.reduceAdd, Nat.reduceSub, List.take_succ_cons, List.take_zero, List.drop_succ_cons, List.drop_zero]; repeat still_step; try refine wpStill_nil ?_)
      refine wpl_set_own (w := wr.drewN 1) hownr k (.int .i64 y) (by kernel_rfl) (by omega) rfl rfl rfl rfl rfl rfl ?_
      intro w3 hown3 hg3
      rw [← ints_set, hset.out] at hown3
      have hb3 := hb.trans (below_of_grown (grown_undrewN hg3) hb.size (Nat.le_refl _))
      go_wp2
      go_roundw
      case rel => exact ⟨k + 1, by omega, by go_num, hown3, hb3⟩
      case measure => simp [intOf]; omega
    · have hk' : k = n := by omega
      rw [hk'] at hownr ⊢
      have hring := Deq.ring_moved m l (by rw [HNN.out]; exact hnm)
      rw [HNN.out] at hring
      have hlm := Deq.moved_length m l n (by omega) (by rw [HNN.out]; exact Nat.le_refl _)
      obtain ⟨ring', hr'⟩ : ∃ ring', ring' = Deq.moved m l n := ⟨_, rfl⟩
      rw [← hr'] at hownr hring hlm
      have hw : (IntKind.i64.wrap (↑0 + ↑n)).tmod ↑m = (n : Int) := by
        have := rem_i64 0 n m (by omega) (by omega)
        rw [Nat.zero_add, Nat.mod_eq_of_lt hnm] at this
        exact this
      go_wp2_with (first
        | (refine wpl_set_blk hblkr 0 (.slice (some ⟨w.heap.size, 0, none⟩) m m) (by kernel_rfl) (by simp) rfl rfl rfl rfl rfl rfl ?_; intro w4 hB4 hg4; simp only [List.set_cons_succ, List.set_cons_zero] at hB4)
        | (refine wpl_set_blk hB4 1 (.int .i64 0) (by kernel_rfl) (by simp) rfl rfl rfl rfl rfl rfl ?_; intro w5 hB5 hg5; simp only [List.set_cons_succ, List.set_cons_zero] at hB5; have d0 := hB5.cell 0; have d1 := hB5.cell 1; have d2 := hB5.cell 2; simp only [List.getElem?_cons_succ, List.getElem?_cons_zero] at d0 d1 d2; rw [HNN.out] at d2))
      have hm0 : m ≠ 0 := by omega
      have hw0 : (0 + (n : Int)).tmod ↑m = (n : Int) := by
        rw [Int.zero_add]
        exact Int.tmod_eq_of_lt (by omega) (by omega)
      have hw1 : (n : Int).tmod ↑m = (n : Int) := Int.tmod_eq_of_lt (by omega) (by omega)
      have hw2 : (IntKind.i64.wrap ↑n).tmod ↑m = (n : Int) := by rw [IntWalk.i64_in _ (by omega)]; exact hw1
      have hk5 : Keeps (fun k => k = g) wr w5 := ((Keeps.of_grown hg4).mono (fun i hi => by injection hi)).trans ((Keeps.of_grown hg5).mono (fun i hi => by injection hi))
      have hgw := hblk.lt
      have hown5 := own_keeps hownr hk5 (fun g' hg' e => by have := own_ge hownr g' hg'; omega)
      go_wp2
      (refine still_last (by kernel_rfl) (by kernel_rfl) ?_; simp only [List.length_cons, List.length_nil, Nat.reduceAdd, Nat.reduceSub, List.take_succ_cons, List.take_zero, List.drop_succ_cons, List.drop_zero]; repeat still_step; try refine wpStill_nil ?_)
      refine wpl_set_own (w := w5.drewN 1) hown5 n (.int .i64 x) (by kernel_rfl) hnm rfl rfl rfl rfl rfl rfl ?_
      intro w6 hown6 hg6
      rw [← ints_set] at hown6
      have hgb : g ≠ w.heap.size := by omega
      have hB6 := hB5.grown (w := w5.drewN 1) hg6 (fun e => hgb (by injection e))
      clear d0 d1 d2 hown5 hB5 hownr hold hblkr hown
      have d2 := hB6.cell 2
      simp only [List.getElem?_cons_succ, List.getElem?_cons_zero] at d2
      rw [HNN.out] at d2
      go_wp2_with (refine wpl_set_blk hB6 2 (.int .i64 (n + 1 : Nat)) (by kernel_rfl) (by simp) rfl rfl rfl rfl rfl rfl ?_; intro w7 hB7 hg7)
      go_end0
      simp only [List.set_cons_succ, List.set_cons_zero] at hB7
      have k6 : Keeps (fun k => k = g ∨ some k = some w.heap.size) w5 w6 := ((Keeps.of_grown hg6).undrewN).mono (fun i hi => .inr hi)
      have k7 : Keeps (fun k => k = g ∨ some k = some w.heap.size) w6 w7 := (Keeps.of_grown hg7).mono (fun i hi => .inl (by injection hi))
      have k5 : Keeps (fun k => k = g ∨ some k = some w.heap.size) wr w5 := hk5.mono (fun i hi => .inl hi)
      have hk7 : Keeps (fun k => k = g) w w7 := (Keeps.of_below hb (fun k => k = g)).step (k5.trans (k6.trans k7)) (fun i hi h => by
        rcases h with h | h
        · exact h
        · injection h with h; omega)
      have hown7 := own_keeps hown6 (Keeps.of_grown hg7) (fun g' hg' e => by have := own_ge hown6 g' hg'; injection e; omega)
      have hpush := Deq.ring_push hring (by rw [hlm, HNN.out]; exact hnm) x
      rw [hlm, HNN.out, Nat.zero_add, Nat.mod_eq_of_lt hnm] at hpush
      have hl' : (ring'.set n x).length = m := by simpa using hlm
      have hlx : (l ++ [x]).length = n + 1 := by rw [List.length_append, HNN.out]; rfl
      refine ⟨rfl, ⟨ring'.set n x, 0, some ⟨w.heap.size, 0, none⟩, m, ⟨?_, ?_, hpush, ?_, ?_⟩, rfl⟩, hk7⟩
      · rw [hl', hlx]; exact hB7
      · rw [hl']; exact ⟨hown7.1, by
          rcases hown7.2 with h' | ⟨g1, cap, cur, e1, e2, e3⟩
          · exact .inl h'
          · exact .inr ⟨g1, cap, cur, e1, Nat.le_trans (by omega) e2, e3⟩⟩
      · rw [hl']; have := HM.out; omega
      · exact Nat.zero_le _

/-- a push, whichever -/
theorem push_any (g : Nat) (x : Int) (l : List Int) (r : Option Nat) (w : World) (h : DqRep w g l r) (hbig : l.length ≤ 8796093022299) :
    Calls Try.prog 29 #[.pointer (some ⟨g, 0, none⟩), .int .i64 x] w fun e w' => e = .returned (.tuple #[]) ∧ (∃ r', DqRep w' g (l ++ [x]) r' ∧ (r' = r ∨ r' = some w.heap.size)) ∧ Keeps (fun k => k = g ∨ some k = r) w w' := by
  obtain ⟨ring, top, A, c, h', hr⟩ := h
  by_cases hf : l.length = ring.length
  · refine (push_full g x l w ring top A c h' hf hbig).mono fun e w' ⟨he, hd, hk⟩ => ⟨he, ⟨_, hd, .inr rfl⟩, hk.mono (fun i hi => .inl hi)⟩
  · refine (push_room g x l r w ring top A c h' hr (by have := h'.rng.1; omega)).mono fun e w' ⟨he, hd, hk⟩ => ⟨he, ⟨_, hd, .inl rfl⟩, hk⟩
end Go.Proofs.Ytoddhfabeiimkaa


namespace Go.Proofs.Ytoddhfabeiimkaa
set_option linter.unusedVariables false
set_option linter.unusedSimpArgs false
set_option maxRecDepth 100000
open Go.RowKit

def DqDo (g : Nat) (l' : List Int) (r : Option Nat) (w : World) (err n : Int) : Ending → World → Prop := fun e w' =>
  e = .returned (.agg #[.int .i64 err, .int .i64 n]) ∧ (∃ r', DqRep w' g l' r' ∧ (r' = r ∨ ∃ b, r' = some b ∧ w.heap.size ≤ b)) ∧ Keeps (fun k => k = g ∨ some k = r) w w'

theorem DqRep.keeps {w w' : World} {g : Nat} {l : List Int} {r : Option Nat} {S : Nat → Prop} (h : DqRep w g l r) (k : Keeps S w w') (hg : ¬ S g) (hr : ∀ b, r = some b → ¬ S b) : DqRep w' g l r := by
  obtain ⟨ring, top, A, c, h, rfl⟩ := h
  exact ⟨ring, top, A, c, ⟨h.blk.keeps k hg, own_keeps h.own k (fun b hb => hr b hb), h.rng, h.small, h.small'⟩, rfl⟩
theorem DqRep.lt {w : World} {g : Nat} {l : List Int} {r : Option Nat} (h : DqRep w g l r) : g < w.heap.size ∧ ∀ b, r = some b → g < b ∧ b < w.heap.size := by
  obtain ⟨ring, top, A, c, h, rfl⟩ := h
  exact ⟨h.blk.lt, fun b hb => h.own.lt b hb⟩

/-- the call's own two blocks: the operation, and the answer -/
def opW (w : World) (k y : Int) : World := (w.alloc (.cells #[.int .i64 k, .int .i64 y] 30)).alloc (.cells #[.int .i64 0, .int .i64 0] 33)
theorem opW_res (w : World) (k y : Int) : Blk (opW w k y) (w.heap.size + 1) 33 [.int .i64 0, .int .i64 0] := by
  have := Blk.new (w.alloc (.cells #[.int .i64 k, .int .i64 y] 30)) 33 [.int .i64 0, .int .i64 0]
  unfold opW
  simpa using this
theorem opW_keeps (w : World) (k y : Int) (S : Nat → Prop) : Keeps S w (opW w k y) := ((Keeps.refl S w).alloc _).alloc _
theorem opW_size (w : World) (k y : Int) : (opW w k y).heap.size = w.heap.size + 2 := by simp [opW]

/-- how do ends: the deque turned, the answer laid -/
theorem do_end {g : Nat} {l' : List Int} {r r' : Option Nat} {w w1 w2 : World} {k y : Int} {l : List Int} (h : DqRep w g l r) (hd : DqRep w1 g l' r') (hr' : r' = r ∨ r' = some (opW w k y).heap.size) (hk : Keeps (fun k => k = g ∨ some k = r) (opW w k y) w1)
    (hg : w1.grownBy w2 (some (w.heap.size + 1))) (err n : Int) : DqDo g l' r w err n (.returned (.agg #[.int .i64 err, .int .i64 n])) w2 := by
  have hs := opW_size w k y
  refine ⟨rfl, ⟨r', hd.keeps (Keeps.of_grown hg) (fun e => ?_) (fun b hb e => ?_), ?_⟩, ?_⟩
  · injection e with e; have := h.lt.1; omega
  · injection e with e
    rcases hr' with rfl | rfl
    · have := (h.lt.2 b hb).2; omega
    · injection hb with hb; omega
  · rcases hr' with rfl | rfl
    · exact .inl rfl
    · exact .inr ⟨_, rfl, by omega⟩
  · exact (opW_keeps w k y _).trans hk |>.step (Keeps.of_grown hg) (fun i hi e => by injection e with e; omega)
theorem do_res {g : Nat} {r : Option Nat} {w w1 : World} {k y : Int} {l : List Int} (h : DqRep w g l r) (hk : Keeps (fun k => k = g ∨ some k = r) (opW w k y) w1) : Blk w1 (w.heap.size + 1) 33 [.int .i64 0, .int .i64 0] :=
  (opW_res w k y).keeps hk (fun e => by
    rcases e with e | e
    · have := h.lt.1; omega
    · have := (h.lt.2 _ e.symm).2; omega)
theorem do_start {g : Nat} {r : Option Nat} {w : World} {l : List Int} (h : DqRep w g l r) (k y : Int) : DqRep (opW w k y) g l r := h.keeps (opW_keeps w k y (fun _ => False)) (fun h => h) (fun _ _ h => h)
theorem ints_one2 {l : List Int} : ∀ v ∈ l.map (Value.int .i64), v.oneCell' = true := ints_oneCell _ _

theorem do_push (g : Nat) (x : Int) (l : List Int) (r : Option Nat) (w : World) (h : DqRep w g l r) (hbig : l.length ≤ 8796093022299) :
    Calls Try.prog 15 #[.pointer (some ⟨g, 0, none⟩), .agg #[.int .i64 1, .int .i64 x]] w (DqDo g (l ++ [x]) r w 0 0) := by
  go_enter Try.func15, Try.ntmps15
  go_wp2_with fail
  refine (push_any g x l r _ (do_start h 1 x) hbig).mono ?_
  rintro e w1 ⟨rfl, ⟨r', hd, hr'⟩, hk⟩
  have hR := do_res h hk
  go_wp2_with (refine wpl_put_blk hR [.int .i64 0, .int .i64 0] (by kernel_rfl) rfl (ints_one2 (l := [0, 0])) rfl rfl rfl rfl ?_; intro w3 hR3 hg3)
  refine ret_blk hR3 rfl rfl Try.underlying33 rfl (by kernel_rfl) rfl ?_
  exact do_end h hd hr' hk hg3 _ _

theorem do_pop_some (g : Nat) (x y : Int) (l : List Int) (r : Option Nat) (w : World) (h : DqRep w g (l ++ [x]) r) :
    Calls Try.prog 15 #[.pointer (some ⟨g, 0, none⟩), .agg #[.int .i64 2, .int .i64 y]] w (DqDo g l r w 0 x) := by
  go_enter Try.func15, Try.ntmps15
  go_wp2_with fail
  refine (pop_some g x l r _ (do_start h 2 y)).mono ?_
  rintro e w1 ⟨rfl, hd, hk0⟩
  have hk := hk0.mono (S' := fun k => k = g ∨ some k = r) (fun i hi => .inl hi)
  have hR := do_res h hk
  go_wp2_with (refine wpl_put_blk hR [.int .i64 0, .int .i64 x] (by kernel_rfl) rfl (ints_one2 (l := [0, x])) rfl rfl rfl rfl ?_; intro w3 hR3 hg3)
  refine ret_blk hR3 rfl rfl Try.underlying33 rfl (by kernel_rfl) rfl ?_
  exact do_end h hd (.inl rfl) hk hg3 _ _

theorem do_pop_none (g : Nat) (y : Int) (r : Option Nat) (w : World) (h : DqRep w g [] r) :
    Calls Try.prog 15 #[.pointer (some ⟨g, 0, none⟩), .agg #[.int .i64 2, .int .i64 y]] w (DqDo g [] r w 7 0) := by
  go_enter Try.func15, Try.ntmps15
  go_wp2_with fail
  refine (pop_none g r _ (do_start h 2 y)).mono ?_
  rintro e w1 ⟨rfl, rfl⟩
  have hd := do_start h 2 y
  have hk := Keeps.refl (fun k => k = g ∨ some k = r) (opW w 2 y)
  have hR := do_res h hk
  go_wp2_with (refine wpl_put_blk hR [.int .i64 7, .int .i64 0] (by kernel_rfl) rfl (ints_one2 (l := [7, 0])) rfl rfl rfl rfl ?_; intro w3 hR3 hg3)
  refine ret_blk hR3 rfl rfl Try.underlying33 rfl (by kernel_rfl) rfl ?_
  exact do_end h hd (.inl rfl) hk hg3 _ _

theorem do_steal_some (g : Nat) (x y : Int) (l : List Int) (r : Option Nat) (w : World) (h : DqRep w g (x :: l) r) :
    Calls Try.prog 15 #[.pointer (some ⟨g, 0, none⟩), .agg #[.int .i64 3, .int .i64 y]] w (DqDo g l r w 0 x) := by
  go_enter Try.func15, Try.ntmps15
  go_wp2_with fail
  refine (steal_some g x l r _ (do_start h 3 y)).mono ?_
  rintro e w1 ⟨rfl, hd, hk0⟩
  have hk := hk0.mono (S' := fun k => k = g ∨ some k = r) (fun i hi => .inl hi)
  have hR := do_res h hk
  go_wp2_with (refine wpl_put_blk hR [.int .i64 0, .int .i64 x] (by kernel_rfl) rfl (ints_one2 (l := [0, x])) rfl rfl rfl rfl ?_; intro w3 hR3 hg3)
  refine ret_blk hR3 rfl rfl Try.underlying33 rfl (by kernel_rfl) rfl ?_
  exact do_end h hd (.inl rfl) hk hg3 _ _

theorem do_steal_none (g : Nat) (y : Int) (r : Option Nat) (w : World) (h : DqRep w g [] r) :
    Calls Try.prog 15 #[.pointer (some ⟨g, 0, none⟩), .agg #[.int .i64 3, .int .i64 y]] w (DqDo g [] r w 7 0) := by
  go_enter Try.func15, Try.ntmps15
  go_wp2_with fail
  refine (steal_none g r _ (do_start h 3 y)).mono ?_
  rintro e w1 ⟨rfl, rfl⟩
  have hd := do_start h 3 y
  have hk := Keeps.refl (fun k => k = g ∨ some k = r) (opW w 3 y)
  have hR := do_res h hk
  go_wp2_with (refine wpl_put_blk hR [.int .i64 7, .int .i64 0] (by kernel_rfl) rfl (ints_one2 (l := [7, 0])) rfl rfl rfl rfl ?_; intro w3 hR3 hg3)
  refine ret_blk hR3 rfl rfl Try.underlying33 rfl (by kernel_rfl) rfl ?_
  exact do_end h hd (.inl rfl) hk hg3 _ _

theorem do_kind (g : Nat) (k y : Int) (l : List Int) (r : Option Nat) (w : World) (h : DqRep w g l r) (hk : k < 1 ∨ 3 < k) :
    Calls Try.prog 15 #[.pointer (some ⟨g, 0, none⟩), .agg #[.int .i64 k, .int .i64 y]] w (DqDo g l r w 9 0) := by
  have k1 : (k == 1) = false := by rw [beq_eq_false_iff_ne]; omega
  have k2 : (k == 2) = false := by rw [beq_eq_false_iff_ne]; omega
  have k3 : (k == 3) = false := by rw [beq_eq_false_iff_ne]; omega
  go_enter Try.func15, Try.ntmps15
  go_wp2
  have hR := Blk.new (w.alloc (.cells #[.int .i64 k, .int .i64 y] 30)) 33 [.int .i64 9, .int .i64 0]
  rw [show (w.alloc (.cells #[.int .i64 k, .int .i64 y] 30)).heap.size = w.heap.size + 1 by simp] at hR
  refine ret_blk hR rfl rfl Try.underlying33 rfl (by kernel_rfl) rfl ?_
  refine ⟨rfl, ⟨r, h.keeps (((Keeps.refl (fun _ => False) w).alloc _).alloc _) (fun h => h) (fun _ _ h => h), .inl rfl⟩, ((Keeps.refl _ w).alloc _).alloc _⟩

theorem do_any (g : Nat) (o : Deq.Op) (l : List Int) (r : Option Nat) (w : World) (h : DqRep w g l r) (hbig : l.length ≤ 8796093022299) :
    Calls Try.prog 15 #[.pointer (some ⟨g, 0, none⟩), .agg #[.int .i64 o.kind, .int .i64 o.n]] w (DqDo g (Deq.next l o) r w (Deq.ans l o).1 (Deq.ans l o).2) := by
  obtain ⟨k, y⟩ := o
  by_cases hk : k < 1 ∨ 3 < k
  · have e1 : Deq.next l ⟨k, y⟩ = l := by
      simp only [Deq.next]
      rw [if_neg (by omega), if_neg (by omega), if_neg (by omega)]
    have e2 : Deq.ans l ⟨k, y⟩ = (9, 0) := by
      simp only [Deq.ans]
      rw [if_neg (by omega), if_neg (by omega), if_neg (by omega)]
    rw [e1, e2]
    exact do_kind g k y l r w h hk
  · rcases (show k = 1 ∨ k = 2 ∨ k = 3 by omega) with rfl | rfl | rfl
    · exact do_push g y l r w h hbig
    · rcases List.eq_nil_or_concat l with rfl | ⟨l, x, rfl⟩
      · exact do_pop_none g y r w h
      · rw [List.concat_eq_append] at h ⊢
        have e1 : Deq.next (l ++ [x]) ⟨2, y⟩ = l := by simp [Deq.next]
        have e2 : Deq.ans (l ++ [x]) ⟨2, y⟩ = (0, x) := by simp [Deq.ans]
        rw [e1, e2]
        exact do_pop_some g x y l r w h
    · cases l with
      | nil => exact do_steal_none g y r w h
      | cons x l => exact do_steal_some g x y l r w h
end Go.Proofs.Ytoddhfabeiimkaa


namespace Go.Proofs.Ytoddhfabeiimkaa
set_option linter.unusedVariables false
set_option linter.unusedSimpArgs false
set_option maxRecDepth 100000
open Go.RowKit

theorem len_any (g : Nat) (l : List Int) (r : Option Nat) (w : World) (h : DqRep w g l r) :
    Calls Try.prog 16 #[.pointer (some ⟨g, 0, none⟩)] w fun e w' => e = .returned (.int .i64 l.length) ∧ w = w' := by
  obtain ⟨ring, top, A, c, h, _⟩ := h
  have c2 := h.blk.cell 2
  simp only [List.getElem?_cons_succ, List.getElem?_cons_zero] at c2
  go_enter Try.func16, Try.ntmps16
  go_wp2
  go_ret
  exact ⟨rfl, rfl⟩

end Go.Proofs.Ytoddhfabeiimkaa


namespace Go.Proofs.Ytoddhfabeiimkaa
set_option linter.unusedVariables false
set_option linter.unusedSimpArgs false
set_option maxRecDepth 100000
open Go.RowKit

namespace Dq
def opc (o : Deq.Op) : List Value := [.int .i64 o.kind, .int .i64 o.n]
def ansc (a : Deq.Ans) : List Value := [.int .i64 a.1, .int .i64 a.2]
def opcs (l : List Deq.Op) : List Value := l.flatMap opc
def anscs (l : List Deq.Ans) : List Value := l.flatMap ansc
theorem opcs_length (l : List Deq.Op) : (opcs l).length = l.length * 2 := flat_length opc 2 (fun _ => rfl) l
theorem anscs_length (l : List Deq.Ans) : (anscs l).length = l.length * 2 := flat_length ansc 2 (fun _ => rfl) l
theorem info_ans : (Try.prog.info? 33).map (fun i => (i.zero, i.size, i.bytes)) = some (some (.agg #[.int .i64 0, .int .i64 0]), 2, 16) := by kernel_rfl
theorem info_op : (Try.prog.info? 30).map (fun i => (i.zero, i.size, i.bytes)) = some (some (.agg #[.int .i64 0, .int .i64 0]), 2, 16) := by kernel_rfl
/-- the two cells of one operation -/
theorem op_cells {w : World} {B : Nat} {A : Option Addr} {ops : List Deq.Op} (h : Cells w B A (opcs ops)) {k : Nat} {o : Deq.Op} (ho : ops[k]? = some o) :
    ∃ b off, A = some ⟨b, off, none⟩ ∧ b < B ∧ w.cell? ⟨b, off + k * 2, none⟩ = some (.int .i64 o.kind) ∧ w.cell? ⟨b, off + k * 2 + 1, none⟩ = some (.int .i64 o.n) := by
  have g : ∀ j, j < 2 → (opcs ops)[k * 2 + j]? = (opc o)[j]? := fun j hj => flat_get opc 2 (fun _ => rfl) ops k j o ho hj
  obtain ⟨b, off, hA, hb, hc⟩ := h.at_ (by
    intro h0
    have := g 0 (by decide)
    rw [h0] at this
    simp [opc] at this)
  exact ⟨b, off, hA, hb, hc _ _ (g 0 (by decide)), hc _ _ (g 1 (by decide))⟩
end Dq

theorem dq_new (w : World) : DqRep (w.alloc (.cells #[.slice none 0 0, .int .i64 0, .int .i64 0] 49)) w.heap.size [] none :=
  ⟨[], 0, none, 0, ⟨Blk.new w 49 [.slice none 0 0, .int .i64 0, .int .i64 0], World.ownsRow_nil _ _ _ _, Deq.ring_nil, Nat.zero_le _, Nat.zero_le _⟩, rfl⟩

theorem dqplay_any (v : Value) (ops : List Deq.Op) (w : World) (h : SlV w 2 v ops.length (Dq.opcs ops)) (hr : ops.length ≤ 8796093022200) :
    Calls Try.prog 7 #[v] w fun e w' => ∃ u v', e = .returned (.tuple #[u, v']) ∧ SlV w' 2 u ops.length (Dq.anscs (Deq.answers [] ops)) ∧ SlV w' 1 v' (Deq.after [] ops).length (ints .i64 (Deq.after [] ops)) ∧ Below w.heap.size w w' := by
  obtain ⟨A, c, rfl, hle, hm, hlen, hc⟩ := h
  clear hlen
  unfold maxLen at hm
  have hd0 := dq_new w
  have hb0 : Below w.heap.size w (w.alloc (.cells #[.slice none 0 0, .int .i64 0, .int .i64 0] 49)) := below_alloc (Below.refl _ _) _
  go_enter Try.func7, Try.ntmps7
  go_wp2
  obtain ⟨g, hg⟩ : ∃ g, g = w.heap.size := ⟨_, rfl⟩
  have hgw : w.heap.size ≤ g := by rw [hg]; exact Nat.le_refl _
  rw [← hg] at hd0 ⊢
  clear hg
  go_loopw [5, 13] (fun v i wr => ∃ k : Nat, k ≤ ops.length ∧ i = .int .i64 k ∧ wr.ownsRow (g + 1) 33 2 v k (Dq.anscs (Deq.answers [] (ops.take k))) ∧ (∃ r, DqRep wr g (Deq.after [] (ops.take k)) r) ∧ Below w.heap.size w wr) (fun _ i _ => ops.length - (intOf i).toNat)
  case atStart => exact ⟨0, Nat.zero_le _, rfl, World.ownsRow_nil _ _ _ _, ⟨none, hd0⟩, hb0⟩
  case round =>
    clear hd0 hb0
    obtain ⟨k, hk, rfl, hown, ⟨r, hd⟩, hb⟩ := hrel
    by_cases hlt : k < ops.length
    · have ho : ops[k]? = some ops[k] := List.getElem?_eq_getElem hlt
      obtain ⟨b, off, rfl, hbw, c0, c1⟩ := Dq.op_cells (hc.keep (Nat.le_refl _) (fun p hp => hb.cell hp)) ho
      obtain ⟨l, hl⟩ : ∃ l, l = Deq.after [] (ops.take k) := ⟨_, rfl⟩
      obtain ⟨o, hoo⟩ : ∃ o, o = ops[k] := ⟨_, rfl⟩
      have hll : l.length ≤ 8796093022299 := by
        have := Deq.after_length [] (ops.take k)
        rw [hl]
        simp at this
        omega
      have e1 : Deq.answers [] (ops.take (k + 1)) = Deq.answers [] (ops.take k) ++ [Deq.ans l o] := by rw [hl, hoo]; exact Deq.answers_take [] ops k hlt
      have e2 : Deq.after [] (ops.take (k + 1)) = Deq.next l o := by rw [hl, hoo]; exact Deq.after_take [] ops k hlt
      rw [← hl] at hd
      rw [← hoo] at c0 c1
      have E1 := Lib.hid e1
      have E2 := Lib.hid e2
      clear e1 e2 hl hoo ho hc
      obtain ⟨kd, y⟩ := o
      simp only at c0 c1
      obtain ⟨A', c', rfl, hle', hm'⟩ := own_slice hown
      unfold maxLen at hm'
      go_wp2_with fail
      have hk0 := ((Keeps.refl (fun _ => False) wr).alloc (.cells #[.int .i64 kd, .int .i64 y] 30))
      refine (do_any g ⟨kd, y⟩ l r _ (hd.keeps hk0 (fun h => h) (fun _ _ h => h)) hll).mono ?_
      rintro e w3 ⟨rfl, ⟨r', hd3, hr'⟩, hk3⟩
      have hgr : ∀ b, r = some b → g < b := fun b hb => (hd.lt.2 b hb).1
      have hown3 := own_keeps (own_keeps hown hk0 (fun _ _ h => h)) hk3 (fun q hq e => by
        rcases e with e | e
        · have := own_ge hown q hq; omega
        · obtain ⟨ring, top, A2, c2, hd', rfl⟩ := hd
          exact own_own_ne hown hd'.own (by decide) hq e.symm)
      have hb3 : Below w.heap.size w w3 := hb.trans ((hk0.below hb.size (fun _ h => h.elim)).trans (hk3.below (Nat.le_trans hb.size hk0.size) (fun i hi => by
        rcases hi with hi | hi
        · omega
        · have := hgr i hi.symm; omega)))
      have n63 : k + 1 ≤ maxLen := by unfold maxLen; omega
      have n47 : (k + 1) * 16 ≤ 140737488355328 := by omega
      have nb : g + 1 ≤ w3.heap.size := hd3.lt.1
      obtain ⟨a, ha⟩ : ∃ a, a = Deq.ans l ⟨kd, y⟩ := ⟨_, rfl⟩
      rw [← ha] at E1 ⊢
      clear ha hown hd hb c0 c1 hk0 hk3
      obtain ⟨a1, a2⟩ := a
      simp only
      go_wp2_with (at_builtin; refine wp_push w3 _ _ _ _ _ _ _ _ Try.underlying24 Dq.info_ans rfl (by decide) hown3 (Dq.ansc (a1, a2)) rfl (ints_one2 (l := [a1, a2])) n63 n47 nb rfl rfl rfl rfl ?_; intro v' w4 hown4 hg4 _ hb4)
      go_roundw
      case rel =>
        refine ⟨k + 1, by omega, by go_num, ?_, ⟨r', ?_⟩, hb3.trans (hb4.mono (by omega))⟩
        · rw [E1.out]
          simpa [Dq.anscs] using hown4
        · rw [E2.out]
          refine hd3.keeps (Keeps.of_grown hg4) (fun e => ?_) (fun q hq e => ?_)
          · have := own_ge hown3 g e.symm; omega
          · obtain ⟨ring, top, A2, c2, hd', rfl⟩ := hd3
            exact own_own_ne hown3 hd'.own (by decide) e.symm hq
      case measure => simp [intOf]; omega
    · have hk' : k = ops.length := by omega
      subst hk'
      rw [List.take_length] at hown hd
      obtain ⟨l, hl⟩ : ∃ l, l = Deq.after [] ops := ⟨_, rfl⟩
      have hll : l.length ≤ ops.length := by
        have := Deq.after_length [] ops
        rw [hl]
        simpa using this
      rw [← hl] at hd
      have HL := Lib.hid hl
      clear hc hl
      go_wp2
      obtain ⟨B2, hB2⟩ : ∃ B2, B2 = wr.heap.size := ⟨_, rfl⟩
      have hgB : g < B2 := by rw [hB2]; exact hd.lt.1
      have hrB : ∀ b, r = some b → b < B2 := fun b h => by rw [hB2]; exact (hd.lt.2 b h).2
      have hoB : ∀ q, u5.ownBlock = some q → g < q ∧ q < B2 := fun q hq => by rw [hB2]; exact hown.lt q hq
      have hBn : B2 ≤ wr.heap.size := by rw [hB2]; exact Nat.le_refl _
      clear hB2
      go_loopw [8] (fun v w2 => ∃ k : Nat, k ≤ l.length ∧ w2.ownsRow B2 3 1 v k (ints .i64 (l.take k)) ∧ DqRep w2 g (l.drop k) r ∧ w2.ownsRow (g + 1) 33 2 u5 ops.length (Dq.anscs (Deq.answers [] ops)) ∧ Below w.heap.size w w2 ∧ B2 ≤ w2.heap.size) (fun v _ => l.length - slLen v)
      case atStart => exact ⟨0, Nat.zero_le _, World.ownsRow_nil _ _ _ _, hd, hown, hb, hBn⟩
      case round =>
        clear hd hb hown hBn
        obtain ⟨k, hk2, hown, hd, hs, hb, hBn⟩ := hrel
        obtain ⟨A', c', rfl, hle', hm'⟩ := own_slice hown
        unfold maxLen at hm'
        have HS := Lib.hid hs
        clear hs
        by_cases hlt2 : k < l.length
        · have ex : l.drop k = l[k] :: l.drop (k + 1) := List.drop_eq_getElem_cons hlt2
          have et : l.take (k + 1) = l.take k ++ [l[k]] := List.take_succ_eq_append_getElem hlt2
          obtain ⟨x, hx⟩ : ∃ x, x = l[k] := ⟨_, rfl⟩
          rw [← hx] at ex et
          rw [ex] at hd
          obtain ⟨l', hl'⟩ : ∃ l', l' = l.drop (k + 1) := ⟨_, rfl⟩
          rw [← hl'] at hd
          have ET := Lib.hid et
          have HL' := Lib.hid hl'
          clear ex et hl' hx
          go_wp2_with fail
          refine (len_any g _ r _ hd).mono ?_
          rintro e w3 ⟨rfl, rfl⟩
          rw [List.length_cons]
          go_wp2_with fail
          refine (steal_some g x l' r _ hd).mono ?_
          rintro e w3 ⟨rfl, hd3, hk3⟩
          have hown3 := own_keeps hown hk3 (fun q hq e => by have := own_ge hown q hq; omega)
          have hb3 : Below w.heap.size w w3 := hb.trans (hk3.below hb.size (fun i hi => by omega))
          have hs3 := own_keeps HS.out hk3 (fun q hq e => by have := (hoB q hq).1; omega)
          have n63 : k + 1 ≤ maxLen := by unfold maxLen; omega
          have n47 : (k + 1) * 8 ≤ 140737488355328 := by omega
          have nb : B2 ≤ w3.heap.size := Nat.le_trans hBn hk3.size
          clear hown hd hb hk3 HS
          go_wp2_with (at_builtin; refine wp_push w3 _ _ _ _ _ _ _ _ Try.underlying25 info_i64 rfl (by decide) hown3 [.int .i64 x] rfl (ints_one2 (l := [x])) n63 n47 nb rfl rfl rfl rfl ?_; intro v' w4 hown4 hg4 _ hb4)
          go_roundw
          case rel =>
            refine ⟨k + 1, by omega, ?_, ?_, own_keeps hs3 (Keeps.of_grown hg4) (fun q hq e => ?_), hb3.trans (hb4.mono (by omega)), Nat.le_trans nb hg4.size⟩
            · rw [ET.out]
              simpa [ints] using hown4
            · rw [← HL'.out]
              refine hd3.keeps (Keeps.of_grown hg4) (fun e => ?_) (fun q hq e => ?_)
              · have := own_ge hown3 g e.symm; omega
              · have := own_ge hown3 q e.symm; have := hrB q hq; omega
            · have := own_ge hown3 q e.symm; have := (hoB q hq).2; omega
          case measure =>
            obtain ⟨A4, c4, rfl, _, _⟩ := own_slice hown4
            simp [slLen]
            omega
        · have hk' : k = l.length := by omega
          subst hk'
          rw [List.drop_length] at hd
          rw [List.take_length] at hown
          go_wp2_with fail
          refine (len_any g _ r _ hd).mono ?_
          rintro e w3 ⟨rfl, rfl⟩
          rw [List.length_nil]
          go_wp2
          go_ret2
          refine ⟨_, _, rfl, SlV.of_own HS.out, ?_, hb⟩
          rw [← HL.out]
          exact SlV.of_own hown
end Go.Proofs.Ytoddhfabeiimkaa


namespace Go.Proofs.Ytoddhfabeiimkaa
set_option linter.unusedVariables false
set_option linter.unusedSimpArgs false
set_option maxRecDepth 100000
open Go.ChangeShapes Go.WideShapes Go.ChangeAt Go.RowKit

/-- 'append(v, src...)' as one operation, whatever comes behind -/
theorem step_append {P : Program} {w : World} {ops : Array Oper} {o : Oper} {a : Act} {K : Act → World → Prop} {Q : Exit → Act → World → Prop} {E : Prop} (s x : Operand)
    (base t e : TypeId) (z : Value) (size bytes : Nat) (ht : P.underlying t = some (.slice e)) (hinfo : (P.info? e).map (fun i => (i.zero, i.size, i.bytes)) = some (some z, size, bytes)) (hz : z.cells.size = size) (hsz : 0 < size)
    {v : Value} {n : Nat} {xs : List Value} (hown : w.ownsRow base e size v n xs) {B : Nat} {A : Option Addr} {m c : Nat} {news : List Value} (hcs : Cells w B A news) (hlen : news.length = m * size) (h1 : ∀ u ∈ news, u.oneCell' = true)
    (h63 : n + m ≤ maxLen) (hbytes : (n + m) * bytes ≤ 140737488355328) (hbase : base ≤ w.heap.size)
    (hgd : Region.wanted o (yielded ops a.tmps) = true) (ho : o.op = .call { callee := .builtin .append, args := #[s, x], argTypes := #[t, t] }) (hs : a.eval s = v) (hx : a.eval x = .slice A m c)
    (h : ∀ v' w', w'.ownsRow base e size v' (n + m) (xs ++ news) → w.grownBy w' v.ownBlock → (v'.ownBlock = v.ownBlock ∨ v'.ownBlock = some w.heap.size) → Below base w w' → K (a.put o.dst v') w') :
    if Region.wanted o (yielded ops a.tmps) = true then Oper.wp P o a w K Q else E := by
  rw [if_pos hgd]
  obtain ⟨v', w', hrun, h2, h3, h4⟩ := run_append (P := P) w base t o.type e z size bytes ht hinfo hz hsz v n xs hown B A m c news hlen hcs h1 h63 hbytes hbase
  unfold Oper.wp execOp
  simp only [ho, resolve, invoke, builtin, Sem.run_bind, Sem.run_pure, Result.andThen_ok, List.map_toArray, List.map_cons, List.map_nil, hs, hx, hrun]
  exact h v' w' h2 h3 h4 ((Below.refl _ _).grown h3 hbase (own_ge hown))

theorem Keeps.cell {S : Nat → Prop} {w w' : World} (k : Keeps S w w') {p : Addr} {v : Value} (h : w.cell? p = some v) (hn : ¬ S p.block) : w'.cell? p = some v := by
  have hlt : p.block < w.heap.size := by
    rcases Nat.lt_or_ge p.block w.heap.size with h' | h'
    · exact h'
    · simp [World.cell?, Array.getElem?_eq_none h'] at h
  rw [World.cell?_of_block (w := w) (k.block p.block hlt hn)]
  exact h
theorem SlV.lit (w : World) (vs : List Value) (e : TypeId) (sz n : Nat) (hv : vs.length = n * sz) (hn : n ≤ 1000) : SlV (w.alloc (.cells vs.toArray e)) sz (.slice (some ⟨w.heap.size, 0, none⟩) n n) n vs := by
  have := World.ownsRow_lit (e := e) (size := sz) (base := w.heap.size) w vs.toArray n (Nat.le_refl _) (by unfold maxLen; omega) (by simpa using hv)
  exact SlV.of_own (by simpa using this)
theorem SlV.drewN {w : World} {sz n : Nat} {v : Value} {vs : List Value} (h : SlV w sz v n vs) (k : Nat) : SlV (w.drewN k) sz v n vs := h
theorem ints_one1 (k : IntKind) (xs : List Int) : ∀ u ∈ ints k xs, u.oneCell' = true := by
  intro u hu
  obtain ⟨x, _, rfl⟩ := List.mem_map.1 hu
  rfl
/-- what was laid into a block of its own, behind a call that made memory -/
theorem cells_new_below {w w2 : World} {vs : List Value} {e : TypeId} (hb : Below (w.alloc (.cells vs.toArray e)).heap.size (w.alloc (.cells vs.toArray e)) w2) : Cells w2 (w.heap.size + 1) (some ⟨w.heap.size, 0, none⟩) vs :=
  (Cells.new w vs e).keep (Nat.le_refl _) (fun p hp => hb.cell (by simpa using hp))
theorem cells_new_drew {w w2 : World} {vs : List Value} {e : TypeId} (hb : Below (w.alloc (.cells vs.toArray e)).drew.heap.size (w.alloc (.cells vs.toArray e)).drew w2) : Cells w2 (w.heap.size + 1) (some ⟨w.heap.size, 0, none⟩) vs :=
  (Cells.new w vs e).keep (Nat.le_refl _) (fun p hp => hb.cell (by simpa using hp))
theorem below_self {w w1 w2 : World} (h : Below w.heap.size w w1) (hb : Below w1.heap.size w1 w2) : Below w.heap.size w w2 := below_next hb h
end Go.Proofs.Ytoddhfabeiimkaa


namespace Go.Proofs.Ytoddhfabeiimkaa
set_option linter.unusedVariables false
set_option linter.unusedSimpArgs false
set_option maxRecDepth 100000
open Go.RowKit

theorem equal_ints (v v' : Value) (xs ys : List Int) (w : World) (h : SlV w 1 v xs.length (ints .i64 xs)) (h' : SlV w 1 v' ys.length (ints .i64 ys)) :
    Calls Try.prog 10 #[v, v'] w fun e w' => e = .returned (.bool (decide (xs = ys))) ∧ ∃ m, w' = w.drewN m := by
  obtain ⟨A, c, rfl, hle, hm, hlen, hc⟩ := h
  obtain ⟨A', c', rfl, hle', hm', hlen', hc'⟩ := h'
  clear hlen hlen'
  unfold maxLen at hm hm'
  by_cases hn : xs.length = ys.length
  · have hne : ((xs.length : Int) != ys.length) = false := by simp [hn]
    have HN := Lib.hid hn
    clear hn
    go_enter Try.func10, Try.ntmps10
    go_wp2
    go_loopw [13] (fun i wr => ∃ k : Nat, k ≤ xs.length ∧ i = .int .i64 k ∧ (∃ a, wr = w.drewN a) ∧ xs.take k = ys.take k) (fun i _ => xs.length - (intOf i).toNat)
    case atStart => exact ⟨0, Nat.zero_le _, rfl, ⟨0, rfl⟩, rfl⟩
    case round =>
      obtain ⟨k, hk, rfl, ⟨a, rfl⟩, ht⟩ := hrel
      have HT := Lib.hid ht
      clear ht
      by_cases hlt : k < xs.length
      · have hlt' : k < ys.length := by rw [← HN.out]; exact hlt
        obtain ⟨b, o, x, rfl, hb, hx, hcc⟩ := hc.one hlt
        obtain ⟨b', o', y, rfl, hb', hy, hcc'⟩ := hc'.one hlt'
        clear hc hc'
        have hsn : ∀ (z : Int) (l : List Int), l[k]? = some z → l.take (k + 1) = l.take k ++ [z] := fun z l h => by
          obtain ⟨h', rfl⟩ := List.getElem?_eq_some_iff.1 h
          exact List.take_succ_eq_append_getElem h'
        have HSN := Lib.hid hsn
        clear hsn
        rcases hg : x != y with _ | _
        · go_wp2
          go_quiet (fail)
          go_wp2
          go_roundw
          case rel => exact ⟨k + 1, by omega, by go_num, ⟨_, rfl⟩, by rw [HSN.out _ _ hx.out, HSN.out _ _ hy.out, HT.out, show x = y by simpa using hg]⟩
          case measure => simp [intOf]; omega
        · go_wp2
          go_quiet (fail)
          go_wp2
          go_ret
          refine ⟨ret_bool ?_, ⟨_, World.drewN_drewN _ _ _⟩⟩
          symm
          simp only [decide_eq_false_iff_not]
          rintro rfl
          rw [hx.out] at hy
          simp at hg
          exact hg (by simpa using hy.out)
      · have HK := Lib.hid (show k = xs.length by omega)
        clear hc hc'
        go_wp2
        go_ret
        refine ⟨ret_bool ?_, ⟨_, rfl⟩⟩
        symm
        simp only [decide_eq_true_eq]
        have := HT.out
        rw [HK.out, List.take_length, HN.out, List.take_length] at this
        exact this
  · have hne : ((xs.length : Int) != ys.length) = true := by simp; omega
    have hnl : xs ≠ ys := fun e => hn (by rw [e])
    have HNL := Lib.hid hnl
    clear hnl hc hc'
    go_enter Try.func10, Try.ntmps10
    go_wp2
    go_ret
    exact ⟨ret_bool (by simp [HNL.out]), ⟨0, rfl⟩⟩

theorem equal_ints_same (v v' : Value) (xs : List Int) (w : World) (h : SlV w 1 v xs.length (ints .i64 xs)) (h' : SlV w 1 v' xs.length (ints .i64 xs)) :
    Calls Try.prog 10 #[v, v'] w fun e w' => e = .returned (.bool true) ∧ ∃ m, w' = w.drewN m :=
  (equal_ints v v' xs xs w h h').mono fun e w' ⟨he, hm⟩ => ⟨by rw [he]; simp, hm⟩



namespace Dq
theorem ans_cells {w : World} {B : Nat} {A : Option Addr} {l : List Deq.Ans} (h : Cells w B A (anscs l)) {k : Nat} {a : Deq.Ans} (ho : l[k]? = some a) :
    ∃ b off, A = some ⟨b, off, none⟩ ∧ b < B ∧ w.cell? ⟨b, off + k * 2, none⟩ = some (.int .i64 a.1) ∧ w.cell? ⟨b, off + k * 2 + 1, none⟩ = some (.int .i64 a.2) := by
  have g : ∀ j, j < 2 → (anscs l)[k * 2 + j]? = (ansc a)[j]? := fun j hj => flat_get ansc 2 (fun _ => rfl) l k j a ho hj
  obtain ⟨b, off, hA, hb, hc⟩ := h.at_ (by
    intro h0
    have := g 0 (by decide)
    rw [h0] at this
    simp [ansc] at this)
  exact ⟨b, off, hA, hb, hc _ _ (g 0 (by decide)), hc _ _ (g 1 (by decide))⟩
theorem opcs_one (l : List Deq.Op) : ∀ u ∈ opcs l, u.oneCell' = true := by
  intro u hu
  obtain ⟨o, _, ho⟩ := List.mem_flatMap.1 hu
  exact ints_one2 (l := [o.kind, o.n]) u ho
end Dq

def alive21ops : List Deq.Op := [⟨1, 4⟩, ⟨1, 5⟩, ⟨1, 6⟩, ⟨3, 0⟩, ⟨2, 0⟩]
theorem alive21play : Deq.answers [] alive21ops = [(0, 0), (0, 0), (0, 0), (0, 4), (0, 6)] ∧ Deq.after [] alive21ops = [5] := by decide +kernel

theorem alive21_any (w : World) : Calls Try.prog 6 #[] w fun e w' => e = .returned (.bool true) ∧ Below w.heap.size w w' := by
  go_enter Try.func6, Try.ntmps6
  go_wp2_with fail
  refine (dqplay_any _ alive21ops _ (SlV.lit w (Dq.opcs alive21ops) 30 2 5 rfl (by decide)) (by decide)).mono ?_
  rintro e w1 ⟨u, u', rfl, hs, hs', hb⟩
  rw [alive21play.1] at hs
  rw [alive21play.2] at hs'
  obtain ⟨A, c, rfl, hle, hm, -, hc⟩ := hs
  obtain ⟨b, off, rfl, -, hcs⟩ := hc.at_ (by decide)
  have c7 := hcs 7 _ rfl
  have c9 := hcs 9 _ rfl
  clear hcs hc
  go_wp2_with fail
  refine (equal_ints _ _ [5] [5] _ (hs'.alloc _) (by have := SlV.lit w1 (ints .i64 [5]) 3 1 1 rfl (by decide); exact this)).mono ?_
  rintro e w2 ⟨rfl, m, rfl⟩
  go_wp2
  go_ret
  exact ⟨rfl, below_drewN (below_alloc ((below_alloc (Below.refl _ _) _).trans (hb.mono (by simp))) _) _⟩
end Go.Proofs.Ytoddhfabeiimkaa


namespace Go.Proofs.Ytoddhfabeiimkaa.Deq
set_option linter.unusedVariables false
set_option linter.unusedSimpArgs false
set_option maxRecDepth 100000

def laidOf (ops : List Op) : List Int := ops.flatMap fun o => if o.kind = 1 then [o.n] else []
def got1 (l : List Int) (o : Op) : List Int := if o.kind = 1 then [] else if (ans l o).1 = 0 then [(ans l o).2] else []
def gotOf : List Int → List Op → List Int
  | _, [] => []
  | l, o :: ops => got1 l o ++ gotOf (next l o) ops
theorem laidOf_append (a b : List Op) : laidOf (a ++ b) = laidOf a ++ laidOf b := by simp [laidOf]
theorem gotOf_append (l : List Int) (a b : List Op) : gotOf l (a ++ b) = gotOf l a ++ gotOf (after l a) b := by
  induction a generalizing l with
  | nil => rfl
  | cons o a ih => rw [List.cons_append, gotOf, gotOf, ih, List.append_assoc]; rfl
theorem laidOf_take (ops : List Op) (k : Nat) (h : k < ops.length) : laidOf (ops.take (k + 1)) = laidOf (ops.take k) ++ (if ops[k].kind = 1 then [ops[k].n] else []) := by
  rw [List.take_succ_eq_append_getElem h, laidOf_append]
  simp [laidOf]
theorem gotOf_take (l : List Int) (ops : List Op) (k : Nat) (h : k < ops.length) : gotOf l (ops.take (k + 1)) = gotOf l (ops.take k) ++ got1 (after l (ops.take k)) ops[k] := by
  rw [List.take_succ_eq_append_getElem h, gotOf_append]
  simp [gotOf]
theorem once_one (l : List Int) (o : Op) : (l ++ (if o.kind = 1 then [o.n] else [])).Perm (next l o ++ got1 l o) := by
  unfold next got1 ans
  by_cases h1 : o.kind = 1
  · simp [h1]
  · simp only [if_neg h1, List.append_nil]
    by_cases h2 : o.kind = 2
    · simp only [if_pos h2]
      rcases hl : l.getLast? with _ | x
      · have : l = [] := by simpa using hl
        subst this
        simp
      · obtain ⟨ini, rfl⟩ : ∃ ini, l = ini ++ [x] := by
          have hne : l ≠ [] := by intro e; rw [e] at hl; cases hl
          refine ⟨l.dropLast, ?_⟩
          rw [List.getLast?_eq_some_getLast hne] at hl
          injection hl with hl
          rw [← hl, List.dropLast_concat_getLast hne]
        simp
    · simp only [if_neg h2]
      by_cases h3 : o.kind = 3
      · simp only [if_pos h3]
        rcases l with _ | ⟨x, l⟩
        · simp
        · simp only [List.head?_cons, List.tail_cons, if_true]
          exact (List.perm_append_singleton x l).symm
      · simp [if_neg h3]
theorem once_law : ∀ (ops : List Op) (l : List Int), (l ++ laidOf ops).Perm (after l ops ++ gotOf l ops)
  | [], l => by simp [laidOf, after, gotOf]
  | o :: ops, l => by
    have ih := once_law ops (next l o)
    have h1 := once_one l o
    have e1 : laidOf (o :: ops) = (if o.kind = 1 then [o.n] else []) ++ laidOf ops := by simp [laidOf]
    have e2 : after l (o :: ops) = after (next l o) ops := rfl
    rw [e1, e2, gotOf, ← List.append_assoc]
    refine (h1.append_right _).trans ?_
    rw [List.append_assoc]
    refine (List.perm_append_comm.append_left _).trans ?_
    rw [← List.append_assoc]
    refine (ih.append_right _).trans ?_
    rw [List.append_assoc]
    exact List.perm_append_comm.append_left _
theorem laidOf_length (ops : List Op) : (laidOf ops).length ≤ ops.length := by
  induction ops with
  | nil => simp [laidOf]
  | cons o ops ih =>
    have e1 : laidOf (o :: ops) = (if o.kind = 1 then [o.n] else []) ++ laidOf ops := by simp [laidOf]
    rw [e1, List.length_append, List.length_cons]
    split <;> simp <;> omega
theorem gotOf_length : ∀ (ops : List Op) (l : List Int), (gotOf l ops).length ≤ ops.length
  | [], _ => Nat.le_refl _
  | o :: ops, l => by
    have ih := gotOf_length ops (next l o)
    rw [gotOf, List.length_append, List.length_cons]
    have : (got1 l o).length ≤ 1 := by unfold got1; split <;> (try split) <;> simp
    omega
end Go.Proofs.Ytoddhfabeiimkaa.Deq


namespace Go.Proofs.Ytoddhfabeiimkaa
set_option linter.unusedVariables false
set_option linter.unusedSimpArgs false
set_option maxRecDepth 100000
open Go.RowKit Go.Sort

def srt (zs : List Int) : List Int := zs.mergeSort fun x y => decide (x ≤ y)
theorem srt_length (zs : List Int) : (srt zs).length = zs.length := (List.mergeSort_perm zs _).length_eq
theorem srt_perm {a b : List Int} (h : a.Perm b) : srt a = srt b := Go.mergeSort_of_perm_i h

theorem sort_own (v : Value) (zs : List Int) (w : World) (B : Nat) (h : w.ownsRow B 3 1 v zs.length (ints .i64 zs)) (hz : zs.length < 4611686018427387904) :
    Calls Try.prog 9 #[v] w fun e w' => e = .returned (.tuple #[]) ∧ w'.ownsRow B 3 1 v zs.length (ints .i64 (srt zs)) ∧ w.grownBy w' v.ownBlock := by
  rcases h.2 with ⟨rfl, h0⟩ | ⟨g, cap, cur, rfl, hB, hg, hle, hm, hsz, ht⟩
  · have hz0 : zs.length = 0 := h0
    rw [hz0]
    refine (Try.slices_Sort_int_none none 0 w).mono ?_
    rintro e w' ⟨rfl, rfl⟩
    have : zs = [] := List.eq_nil_of_length_eq_zero hz0
    subst this
    exact ⟨rfl, by simpa [srt] using h, World.grownBy.refl _ _⟩
  · have ht' : cur.toList.take zs.length = zs.map (Value.int .i64) := by simpa [ints] using ht
    have hgl : g < w.heap.size := (Array.getElem?_eq_some_iff.1 hg).1
    refine (Try.slices_Sort_int g 0 cap zs w (holds_of_blockI hg ht') hgl hz).mono ?_
    rintro e w' ⟨rfl, n, os, rfl⟩
    refine ⟨rfl, ?_, grownBy_sortedI _⟩
    have := ownsRow_sortedI (base := B) (n := n) (os := os) (ss := zs) (ts := srt zs) (srt_length zs) hB hg hle hm (by simpa using hsz)
    unfold srt at this ⊢
    simpa [ints] using this
end Go.Proofs.Ytoddhfabeiimkaa


namespace Go.Proofs.Ytoddhfabeiimkaa
set_option linter.unusedVariables false
set_option linter.unusedSimpArgs false
set_option maxRecDepth 100000
open Go Go.RowKit

/-- 'append(v, x)', the block's number told apart -/
theorem wp_push_at {P : Program} (w : World) {ops : Array Oper} {rest : List Oper} {o : Oper} {a : Act} {Q : Exit → Act → World → Prop} (s x : Operand) (q : Nat) (hq : w.heap.size = q)
    (base t e : TypeId) (z : Value) (size bytes : Nat) (ht : P.underlying t = some (.slice e)) (hinfo : (P.info? e).map (fun i => (i.zero, i.size, i.bytes)) = some (some z, size, bytes)) (hz : z.cells.size = size) (hsz : 0 < size)
    {v : Value} {n : Nat} {xs : List Value} (hown : w.ownsRow base e size v n xs) {c : Nat} (news : List Value) (hlen : news.length = 1 * size) (h1 : ∀ u ∈ news, u.oneCell' = true)
    (h63 : n + 1 ≤ maxLen) (hbytes : (n + 1) * bytes ≤ 140737488355328) (hbase : base ≤ w.heap.size)
    (hgd : o.guard = none) (ho : o.op = .call { callee := .builtin .append, args := #[s, x], argTypes := #[t, t] }) (hs : a.eval s = v) (hx : a.eval x = .slice (some ⟨q, 0, none⟩) 1 c)
    (h : ∀ v' w', w'.ownsRow base e size v' (n + 1) (xs ++ news) → w.grownBy w' v.ownBlock → (v'.ownBlock = v.ownBlock ∨ v'.ownBlock = some (w.heap.size + 1)) → Below base w w' → wpList P ops Q rest (a.put o.dst v') w') : wpList P ops Q (o :: rest) a (w.alloc (.cells news.toArray e)) := by
  subst hq
  exact wp_push w s x base t e z size bytes ht hinfo hz hsz hown news hlen h1 h63 hbytes hbase hgd ho hs hx h

/-- two rows of the call's own, and what was laid beside them since w0 -/
structure Two (w0 : World) (T : Nat → Prop) (B : Nat) (e1 : TypeId) (s1 : Nat) (e2 : TypeId) (s2 : Nat) (L : List (Nat × TypeId × List Value)) (w : World) (v1 : Value) (n1 : Nat) (xs1 : List Value) (v2 : Value) (n2 : Nat) (xs2 : List Value) : Prop where
  r1 : w.ownsRow B e1 s1 v1 n1 xs1
  r2 : w.ownsRow B e2 s2 v2 n2 xs2
  k : Keeps T w0 w
  base : B ≤ w.heap.size
  t1 : ∀ i, v1.ownBlock = some i → i < w0.heap.size → T i
  t2 : ∀ i, v2.ownBlock = some i → i < w0.heap.size → T i
  ap : ∀ i, v1.ownBlock = some i → v2.ownBlock ≠ some i
  src : ∀ p ∈ L, Blk w p.1 p.2.1 p.2.2 ∧ v1.ownBlock ≠ some p.1 ∧ v2.ownBlock ≠ some p.1

section
variable {w0 w : World} {T : Nat → Prop} {B s1 s2 n1 n2 : Nat} {e1 e2 : TypeId} {L : List (Nat × TypeId × List Value)} {v1 v2 : Value} {xs1 xs2 : List Value}

theorem Two.start (h1 : w0.ownsRow B e1 s1 v1 n1 xs1) (h2 : w0.ownsRow B e2 s2 v2 n2 xs2) (hb : B ≤ w0.heap.size) (hap : ∀ i, v1.ownBlock = some i → v2.ownBlock ≠ some i) :
    Two w0 (fun k => v1.ownBlock = some k ∨ v2.ownBlock = some k) B e1 s1 e2 s2 [] w0 v1 n1 xs1 v2 n2 xs2 :=
  ⟨h1, h2, Keeps.refl _ _, hb, fun i h _ => .inl h, fun i h _ => .inr h, hap, fun p h => by cases h⟩
theorem Two.drew (h : Two w0 T B e1 s1 e2 s2 L w v1 n1 xs1 v2 n2 xs2) : Two w0 T B e1 s1 e2 s2 L w.drew v1 n1 xs1 v2 n2 xs2 :=
  ⟨h.r1.drew, h.r2.drew, h.k.drewN 1, h.base, h.t1, h.t2, h.ap, fun p hp => ⟨(h.src p hp).1, (h.src p hp).2⟩⟩
theorem Two.alloc (h : Two w0 T B e1 s1 e2 s2 L w v1 n1 xs1 v2 n2 xs2) (cs : List Value) (t : TypeId) : Two w0 T B e1 s1 e2 s2 ((w.heap.size, t, cs) :: L) (w.alloc (.cells cs.toArray t)) v1 n1 xs1 v2 n2 xs2 := by
  refine ⟨h.r1.alloc _, h.r2.alloc _, h.k.alloc _, by have := h.base; simp; omega, h.t1, h.t2, h.ap, fun p hp => ?_⟩
  rcases List.mem_cons.1 hp with rfl | hp
  · exact ⟨Blk.new w t cs, fun e => by have := (h.r1.lt _ e).2; simp at this, fun e => by have := (h.r2.lt _ e).2; simp at this⟩
  · exact ⟨(h.src p hp).1.alloc _, (h.src p hp).2⟩
theorem Two.swap (h : Two w0 T B e1 s1 e2 s2 L w v1 n1 xs1 v2 n2 xs2) : Two w0 T B e2 s2 e1 s1 L w v2 n2 xs2 v1 n1 xs1 :=
  ⟨h.r2, h.r1, h.k, h.base, h.t2, h.t1, fun i h2 h1 => h.ap i h1 h2, fun p hp => ⟨(h.src p hp).1, (h.src p hp).2.2, (h.src p hp).2.1⟩⟩
theorem Two.cells (h : Two w0 T B e1 s1 e2 s2 L w v1 n1 xs1 v2 n2 xs2) {g : Nat} {t : TypeId} {cs : List Value} (hm : (g, t, cs) ∈ L) : Cells w (g + 1) (some ⟨g, 0, none⟩) cs :=
  ⟨g, 0, fun _ => ⟨rfl, Nat.lt_succ_self g⟩, fun j u hu => by rw [Nat.zero_add, (h.src _ hm).1.cell]; exact hu⟩

/-- an append to the first of them -/
theorem Two.grow (h : Two w0 T B e1 s1 e2 s2 L w v1 n1 xs1 v2 n2 xs2) {w' : World} {v' : Value} {n' : Nat} {xs' : List Value} (h1 : w'.ownsRow B e1 s1 v' n' xs') (hg : w.grownBy w' v1.ownBlock) (hv : v'.ownBlock = v1.ownBlock ∨ v'.ownBlock = some w.heap.size) :
    Two w0 T B e1 s1 e2 s2 L w' v' n' xs' v2 n2 xs2 := by
  have kk := Keeps.of_grown hg
  refine ⟨h1, own_keeps h.r2 kk (fun g e1 e2 => h.ap g e2.symm e1), h.k.step kk (fun i hi e => h.t1 i e.symm hi), Nat.le_trans h.base hg.size, fun i hi hl => ?_, h.t2, fun i hi => ?_, fun p hp => ⟨?_, ?_, (h.src p hp).2.2⟩⟩
  · rcases hv with e | e
    · exact h.t1 i (e ▸ hi) hl
    · rw [e] at hi
      injection hi with hi
      have := h.k.size
      omega
  · rcases hv with e | e
    · exact h.ap i (e ▸ hi)
    · rw [e] at hi
      injection hi with hi
      intro e2
      have := (h.r2.lt i e2).2
      omega
  · exact (h.src p hp).1.keeps kk (fun e => (h.src p hp).2.1 e.symm)
  · rcases hv with e | e
    · rw [e]; exact (h.src p hp).2.1
    · rw [e]
      intro e3
      injection e3 with e3
      have := (h.src p hp).1.lt
      omega

theorem two_append1 {P : Program} {ops : Array Oper} {o : Oper} {a : Act} {K : Act → World → Prop} {Q : Exit → Act → World → Prop} {E : Prop} {s x : Operand} {t : TypeId} (h : Two w0 T B e1 s1 e2 s2 L w v1 n1 xs1 v2 n2 xs2)
    {z : Value} {bytes : Nat} (ht : P.underlying t = some (.slice e1)) (hinfo : (P.info? e1).map (fun i => (i.zero, i.size, i.bytes)) = some (some z, s1, bytes)) (hz : z.cells.size = s1) (hsz : 0 < s1)
    {g : Nat} {news : List Value} {c : Nat} {tt : TypeId} (hm : (g, tt, news) ∈ L) (hlen : news.length = 1 * s1) (h1 : ∀ u ∈ news, u.oneCell' = true)
    (h63 : n1 + 1 ≤ maxLen) (hbytes : (n1 + 1) * bytes ≤ 140737488355328)
    (hgd : Region.wanted o (yielded ops a.tmps) = true) (ho : o.op = .call { callee := .builtin .append, args := #[s, x], argTypes := #[t, t] }) (hs : a.eval s = v1) (hx : a.eval x = .slice (some ⟨g, 0, none⟩) 1 c)
    (hK : ∀ v' w', Two w0 T B e1 s1 e2 s2 L w' v' (n1 + 1) (xs1 ++ news) v2 n2 xs2 → K (a.put o.dst v') w') :
    if Region.wanted o (yielded ops a.tmps) = true then Oper.wp P o a w K Q else E :=
  step_append s x B t e1 z s1 bytes ht hinfo hz hsz h.r1 (h.cells hm) hlen h1 h63 hbytes h.base hgd ho hs hx fun v' w' q1 q2 q3 _ => hK v' w' (h.grow q1 q2 q3)

theorem two_append2 {P : Program} {ops : Array Oper} {o : Oper} {a : Act} {K : Act → World → Prop} {Q : Exit → Act → World → Prop} {E : Prop} {s x : Operand} {t : TypeId} (h : Two w0 T B e1 s1 e2 s2 L w v1 n1 xs1 v2 n2 xs2)
    {z : Value} {bytes : Nat} (ht : P.underlying t = some (.slice e2)) (hinfo : (P.info? e2).map (fun i => (i.zero, i.size, i.bytes)) = some (some z, s2, bytes)) (hz : z.cells.size = s2) (hsz : 0 < s2)
    {g : Nat} {news : List Value} {c : Nat} {tt : TypeId} (hm : (g, tt, news) ∈ L) (hlen : news.length = 1 * s2) (h1 : ∀ u ∈ news, u.oneCell' = true)
    (h63 : n2 + 1 ≤ maxLen) (hbytes : (n2 + 1) * bytes ≤ 140737488355328)
    (hgd : Region.wanted o (yielded ops a.tmps) = true) (ho : o.op = .call { callee := .builtin .append, args := #[s, x], argTypes := #[t, t] }) (hs : a.eval s = v2) (hx : a.eval x = .slice (some ⟨g, 0, none⟩) 1 c)
    (hK : ∀ v' w', Two w0 T B e1 s1 e2 s2 L w' v1 n1 xs1 v' (n2 + 1) (xs2 ++ news) → K (a.put o.dst v') w') :
    if Region.wanted o (yielded ops a.tmps) = true then Oper.wp P o a w K Q else E :=
  two_append1 h.swap ht hinfo hz hsz hm hlen h1 h63 hbytes hgd ho hs hx fun v' w' q => hK v' w' q.swap

theorem twl_append1 {P : Program} {ops : Array Oper} {rest : List Oper} {o : Oper} {a : Act} {Q : Exit → Act → World → Prop} {s x : Operand} {t : TypeId} (h : Two w0 T B e1 s1 e2 s2 L w v1 n1 xs1 v2 n2 xs2)
    {z : Value} {bytes : Nat} (ht : P.underlying t = some (.slice e1)) (hinfo : (P.info? e1).map (fun i => (i.zero, i.size, i.bytes)) = some (some z, s1, bytes)) (hz : z.cells.size = s1) (hsz : 0 < s1)
    {g : Nat} {news : List Value} {c : Nat} {tt : TypeId} (hm : (g, tt, news) ∈ L) (hlen : news.length = 1 * s1) (h1 : ∀ u ∈ news, u.oneCell' = true)
    (h63 : n1 + 1 ≤ maxLen) (hbytes : (n1 + 1) * bytes ≤ 140737488355328)
    (hgd : o.guard = none) (ho : o.op = .call { callee := .builtin .append, args := #[s, x], argTypes := #[t, t] }) (hs : a.eval s = v1) (hx : a.eval x = .slice (some ⟨g, 0, none⟩) 1 c)
    (hK : ∀ v' w', Two w0 T B e1 s1 e2 s2 L w' v' (n1 + 1) (xs1 ++ news) v2 n2 xs2 → wpList P ops Q rest (a.put o.dst v') w') : wpList P ops Q (o :: rest) a w :=
  wp_append w s x B t e1 z s1 bytes ht hinfo hz hsz h.r1 (h.cells hm) hlen h1 h63 hbytes h.base hgd ho hs hx fun v' w' q1 q2 q3 _ => hK v' w' (h.grow q1 q2 q3)

theorem twl_append2 {P : Program} {ops : Array Oper} {rest : List Oper} {o : Oper} {a : Act} {Q : Exit → Act → World → Prop} {s x : Operand} {t : TypeId} (h : Two w0 T B e1 s1 e2 s2 L w v1 n1 xs1 v2 n2 xs2)
    {z : Value} {bytes : Nat} (ht : P.underlying t = some (.slice e2)) (hinfo : (P.info? e2).map (fun i => (i.zero, i.size, i.bytes)) = some (some z, s2, bytes)) (hz : z.cells.size = s2) (hsz : 0 < s2)
    {g : Nat} {news : List Value} {c : Nat} {tt : TypeId} (hm : (g, tt, news) ∈ L) (hlen : news.length = 1 * s2) (h1 : ∀ u ∈ news, u.oneCell' = true)
    (h63 : n2 + 1 ≤ maxLen) (hbytes : (n2 + 1) * bytes ≤ 140737488355328)
    (hgd : o.guard = none) (ho : o.op = .call { callee := .builtin .append, args := #[s, x], argTypes := #[t, t] }) (hs : a.eval s = v2) (hx : a.eval x = .slice (some ⟨g, 0, none⟩) 1 c)
    (hK : ∀ v' w', Two w0 T B e1 s1 e2 s2 L w' v1 n1 xs1 v' (n2 + 1) (xs2 ++ news) → wpList P ops Q rest (a.put o.dst v') w') : wpList P ops Q (o :: rest) a w :=
  twl_append1 h.swap ht hinfo hz hsz hm hlen h1 h63 hbytes hgd ho hs hx fun v' w' q => hK v' w' q.swap
end
end Go.Proofs.Ytoddhfabeiimkaa


namespace Go.Proofs.Ytoddhfabeiimkaa
set_option linter.unusedVariables false
set_option linter.unusedSimpArgs false
set_option maxRecDepth 100000
open Go.RowKit

theorem info_int' : (Try.prog.info? 3).map (fun i => (i.zero, i.size, i.bytes)) = some (some (.int .i64 0), 1, 8) := by kernel_rfl
theorem clone_int (v : Value) (n : Nat) (xs : List Value) (w : World) (h : SlV w 1 v n xs) (h1 : ∀ u ∈ xs, u.oneCell' = true) (hr : n * 8 ≤ 140737488355328) :
    Calls Try.prog 8 #[v] w fun e w' => ∃ u, e = .returned u ∧ w'.ownsRow w.heap.size 3 1 u n xs ∧ Below w.heap.size w w' := by
  obtain ⟨A, c, rfl, hle, hm, hlen, hc⟩ := h
  unfold maxLen at hm
  have heq := fun (w : World) (A : Option Addr) (n c : Nat) => Lib.run_eql_slice_nil (P := Try.prog) w _ _ A n c 0 0 Try.underlying25
  rcases A with _ | a
  · have h0 : xs = [] := by
      rcases xs with _ | ⟨x, xs⟩
      · rfl
      · obtain ⟨b, o, h1, _⟩ := hc
        have := (h1 (by simp)).1
        cases this
    have hn : n = 0 := by subst h0; simp at hlen; omega
    subst h0
    subst hn
    go_enter Try.func8, Try.ntmps8
    go_wp2
    go_ret
    exact ⟨_, rfl, World.ownsRow_nil _ _ _ _, Below.refl _ _⟩
  · go_enter Try.func8, Try.ntmps8
    have hmade := World.ownsRow_made (e := 3) (size := 1) (base := w.heap.size) w #[] 0 (Nat.le_refl _) (Nat.zero_le _) rfl
    have hc' := hc.keep (w' := w.alloc (.cells #[] 3)) (Nat.le_refl _) (fun p hp => World.cell?_alloc_lt w _ p hp)
    have n63 : 0 + n ≤ maxLen := by unfold maxLen; omega
    have n47 : (0 + n) * 8 ≤ 140737488355328 := by omega
    go_wp2_with (at_builtin; refine wp_append _ _ _ _ _ _ _ _ _ Try.underlying25 info_int' rfl (by decide) hmade hc' hlen h1 n63 n47 (by simp) rfl rfl rfl rfl ?_; intro v' w' hown _ _ hb)
    go_ret
    refine ⟨_, rfl, by simpa using hown, ((Below.refl _ _).alloc (Nat.le_refl _) _).trans hb⟩

theorem Deq.got_le (ops : List Deq.Op) (k : Nat) : (Deq.after [] ops).length + (Deq.gotOf [] (ops.take k)).length ≤ ops.length := by
  have h1 := (Deq.once_law ops []).length_eq
  rw [List.nil_append, List.length_append] at h1
  have h2 := Deq.laidOf_length ops
  have h3 := Deq.gotOf_append [] (ops.take k) (ops.drop k)
  rw [List.take_append_drop] at h3
  rw [h3, List.length_append] at h1
  omega
theorem Two.forget {w0 w : World} {T : Nat → Prop} {B s1 s2 n1 n2 : Nat} {e1 e2 : TypeId} {L : List (Nat × TypeId × List Value)} {v1 v2 : Value} {xs1 xs2 : List Value} (h : Two w0 T B e1 s1 e2 s2 L w v1 n1 xs1 v2 n2 xs2) : Two w0 T B e1 s1 e2 s2 [] w v1 n1 xs1 v2 n2 xs2 :=
  ⟨h.r1, h.r2, h.k, h.base, h.t1, h.t2, h.ap, fun p hp => by cases hp⟩


set_option maxHeartbeats 4000000 in
theorem dequeOnce_walk (v : Value) (ops : List Deq.Op) (w : World) (h : SlV w 2 v ops.length (Dq.opcs ops)) (hr : ops.length ≤ 8796093022200) :
    Calls Try.prog 3 #[v] w fun e w' => e = .returned (.bool true) ∧ Below w.heap.size w w' := by
  obtain ⟨A, c, rfl, hle, hm, hlen, hc⟩ := id h
  unfold maxLen at hm
  clear hc hlen
  go_enter Try.func3, Try.ntmps3
  go_wp2_with fail
  refine (alive21_any w).mono ?_
  rintro e w1 ⟨rfl, hb1⟩
  have hpl := dqplay_any _ ops w1 (h.below hb1) (by omega)
  go_wp2_with fail
  refine hpl.mono ?_
  rintro e w2 ⟨u, v', rfl, hu, hv', hb2⟩
  have hb2' := below_next hb2 hb1
  obtain ⟨Au, cu, rfl, hu1, hu2, -⟩ := id hu
  unfold maxLen at hu2
  obtain ⟨lf, hlf⟩ : ∃ lf, lf = Deq.after [] ops := ⟨_, rfl⟩
  have hll : lf.length ≤ ops.length := by rw [hlf]; have := Deq.after_length [] ops; simpa using this
  rw [← hlf] at hv'
  have HLF := Lib.hid hlf
  have hcl := clone_int v' lf.length (ints .i64 lf) w2 hv' (ints_oneCell .i64 lf) (by omega)
  obtain ⟨Av, cv, rfl, -⟩ := id hv'
  clear hpl hlf hb2
  go_wp2_with fail
  refine hcl.mono ?_
  rintro e w3 ⟨vg, rfl, hown3, hb3⟩
  have hb3' := below_next hb3 hb2'
  have hb13 := below_next hb2' (Below.refl _ _)
  have hopk : ∀ wr, Below w2.heap.size w2 wr → Cells wr wr.heap.size A (Dq.opcs ops) ∧ Cells wr wr.heap.size Au (Dq.anscs (Deq.answers [] ops)) := fun wr hb => by
    obtain ⟨A1, c1, e1, -, -, -, h1⟩ := (h.below hb2').below hb
    obtain ⟨A2, c2, e2, -, -, -, h2⟩ := hu.below hb
    injection e1 with e1
    injection e2 with e2
    rw [e1, e2]
    exact ⟨h1, h2⟩
  have hge : ∀ i, vg.ownBlock = some i → w2.heap.size ≤ i := fun i hi => own_ge hown3 i hi
  have hT := Two.start (World.ownsRow_nil w3 w2.heap.size 3 1) hown3 hb3.size (by intro i hi; simp [Value.ownBlock] at hi)
  have HH := Lib.hid (And.intro hopk (And.intro hge (And.intro hb3 hb2')))
  obtain ⟨Vg, cg, rfl, -, -⟩ := own_slice hown3
  clear hcl hown3 hu hv' h hb1 hb2' hb3 hb3' hb13 hopk hge
  go_wp2_with fail
  go_loopw [5, 6, 25] (fun a b i wr => ∃ k : Nat, k ≤ ops.length ∧ i = .int .i64 (k : Int) ∧ Two w3 (fun k => (Value.slice none 0 0).ownBlock = some k ∨ (Value.slice Vg lf.length cg).ownBlock = some k) w2.heap.size 3 1 3 1 [] wr a (Deq.laidOf (ops.take k)).length (ints .i64 (Deq.laidOf (ops.take k))) b (lf ++ Deq.gotOf [] (ops.take k)).length (ints .i64 (lf ++ Deq.gotOf [] (ops.take k)))) (fun _ _ i _ => ops.length - (intOf i).toNat)
  case atStart => exact ⟨0, Nat.zero_le _, rfl, by simpa [Deq.laidOf, Deq.gotOf, ints] using hT⟩
  case round =>
    obtain ⟨k, hk, rfl, hTk⟩ := hrel
    have hbk : Below w2.heap.size w2 wr := HH.out.2.2.1.trans (hTk.k.below HH.out.2.2.1.size (fun i hi => hi.elim (fun e => by simp [Value.ownBlock] at e) (HH.out.2.1 i)))
    have hbw : Below w.heap.size w wr := below_next hbk HH.out.2.2.2
    obtain ⟨hco, hca⟩ := HH.out.1 wr hbk
    by_cases hlt : k < ops.length
    · have ho : ops[k]? = some ops[k] := List.getElem?_eq_getElem hlt
      obtain ⟨b, off, rfl, -, c0, c1⟩ := Dq.op_cells hco ho
      have ha : (Deq.answers [] ops)[k]? = some (Deq.ans (Deq.after [] (ops.take k)) ops[k]) := by
        have e : ops = ops.take k ++ ops[k] :: ops.drop (k + 1) := by rw [List.getElem_cons_drop, List.take_append_drop]
        have := Deq.answers_append [] (ops.take k) (ops[k] :: ops.drop (k + 1))
        rw [← e] at this
        rw [this, List.getElem?_append_right (by rw [Deq.answers_length, List.length_take]; omega), Deq.answers_length, List.length_take, Nat.min_eq_left (Nat.le_of_lt hlt), Nat.sub_self]
        rfl
      obtain ⟨ba, offa, rfl, hbl, d0, d1⟩ := Dq.ans_cells hca ha
      have e1 := Deq.laidOf_take ops k hlt
      have e2 := Deq.gotOf_take [] ops k hlt
      have hl1 : (Deq.laidOf (ops.take k)).length ≤ k := Nat.le_trans (Deq.laidOf_length _) (by rw [List.length_take]; omega)
      have hl2 : lf.length + (Deq.gotOf [] (ops.take k)).length ≤ ops.length := by rw [HLF.out]; exact Deq.got_le ops k
      obtain ⟨l, hl⟩ : ∃ l, l = Deq.after [] (ops.take k) := ⟨_, rfl⟩
      obtain ⟨o, hoo⟩ : ∃ o, o = ops[k] := ⟨_, rfl⟩
      obtain ⟨la, hla⟩ : ∃ la, la = Deq.laidOf (ops.take k) := ⟨_, rfl⟩
      obtain ⟨ga, hga⟩ : ∃ ga, ga = Deq.gotOf [] (ops.take k) := ⟨_, rfl⟩
      rw [← hla] at e1 hl1 hTk
      rw [← hga] at e2 hl2 hTk
      rw [← hl] at e2 d0 d1
      rw [← hoo] at c0 c1 e1 e2 d0 d1
      have HL := Lib.hid (And.intro hl (And.intro hoo (And.intro hla hga)))
      clear hl hoo hla hga ho ha hco hca hT
      obtain ⟨kd, y⟩ := o
      simp only at c0 c1 e1 e2
      have n63a : la.length + 1 ≤ maxLen := by unfold maxLen; omega
      have n47a : (la.length + 1) * 8 ≤ 140737488355328 := by omega
      have n63b : (lf ++ ga).length + 1 ≤ maxLen := by rw [List.length_append]; unfold maxLen; omega
      have n47b : ((lf ++ ga).length + 1) * 8 ≤ 140737488355328 := by rw [List.length_append]; omega
      obtain ⟨Va, ca, rfl, -, -⟩ := own_slice hTk.r1
      obtain ⟨Vb, cb, rfl, -, -⟩ := own_slice hTk.r2
      have hTA := fun z : Int => (hTk.alloc [.int .i64 kd, .int .i64 y] 30).alloc [.int .i64 z] 3
      simp only [World.size_alloc] at hTA
      rcases h1 : (kd == 1) with _ | _
      · have hk1 : kd ≠ 1 := by simpa using h1
        have E1 := Lib.hid (show Deq.laidOf (ops.take (k + 1)) = la by rw [e1, if_neg hk1, List.append_nil])
        rcases h2 : ((Deq.ans l ⟨kd, y⟩).1 == 0) with _ | _
        · have hk2 : (Deq.ans l ⟨kd, y⟩).1 ≠ 0 := by simpa using h2
          have E2 := Lib.hid (show Deq.gotOf [] (ops.take (k + 1)) = ga by rw [e2]; unfold Deq.got1; rw [if_neg hk1, if_neg hk2, List.append_nil])
          have HE := Lib.hid ((hTk.alloc [.int .i64 kd, .int .i64 y] 30).forget)
          generalize (Deq.ans l ⟨kd, y⟩).1 = a1 at d0 h2
          generalize (Deq.ans l ⟨kd, y⟩).2 = a2 at d1
          clear hTA hTk e1 e2 hk1 hk2
          go_wp2_with fail
          go_roundw
          case rel => exact ⟨k + 1, by omega, by go_num, by rw [E1.out, E2.out]; exact HE.out⟩
          case measure => simp [intOf]; omega
        · have hk2 : (Deq.ans l ⟨kd, y⟩).1 = 0 := by simpa using h2
          have E2 := Lib.hid (show Deq.gotOf [] (ops.take (k + 1)) = ga ++ [(Deq.ans l ⟨kd, y⟩).2] by rw [e2]; unfold Deq.got1; rw [if_neg hk1, if_pos hk2])
          clear e1 e2 hk1 hk2
          generalize (Deq.ans l ⟨kd, y⟩).1 = a1 at d0 h2
          generalize (Deq.ans l ⟨kd, y⟩).2 = a2 at d1 E2
          go_wp2_with (first | (at_builtin; refine twl_append2 (hTA a2) Try.underlying25 info_int' rfl (by decide) (g := wr.heap.size + 1) List.mem_cons_self rfl (by simp [Value.oneCell']) n63b n47b rfl rfl rfl rfl ?_; intro v7 w7 hT7) | fail)
          have HE := Lib.hid hT7.forget
          obtain ⟨V7, c7, rfl, -, -⟩ := own_slice hT7.r2
          clear hT7
          try go_wp2_with fail
          go_roundw
          case rel => exact ⟨k + 1, by omega, by go_num, by
            rw [E1.out, E2.out]
            have h := HE.out
            simp only [ints, List.map_append, List.length_append, List.length_cons, List.length_nil, List.map_cons, List.map_nil, List.append_assoc, Nat.add_assoc, Nat.zero_add] at h ⊢
            exact h⟩
          case measure => simp [intOf]; omega
      · obtain rfl : kd = 1 := by simpa using h1
        have E1 := Lib.hid (show Deq.laidOf (ops.take (k + 1)) = la ++ [y] by rw [e1]; rfl)
        have E2 := Lib.hid (show Deq.gotOf [] (ops.take (k + 1)) = ga by rw [e2]; unfold Deq.got1; rw [if_pos rfl, List.append_nil])
        clear e1 e2 d0 d1 h1
        go_wp2_with (first | (at_builtin; refine twl_append1 (hTA y) Try.underlying25 info_int' rfl (by decide) (g := wr.heap.size + 1) List.mem_cons_self rfl (by simp [Value.oneCell']) n63a n47a rfl rfl rfl rfl ?_; intro v7 w7 hT7) | fail)
        have HE := Lib.hid hT7.forget
        obtain ⟨V7, c7, rfl, -, -⟩ := own_slice hT7.r1
        clear hT7
        try go_wp2_with fail
        go_roundw
        case rel => exact ⟨k + 1, by omega, by go_num, by
          rw [E1.out, E2.out]
          have h := HE.out
          simp only [ints, List.map_append, List.length_append, List.length_cons, List.length_nil, List.map_cons, List.map_nil, List.append_assoc, Nat.add_assoc, Nat.zero_add] at h ⊢
          exact h⟩
        case measure => simp [intOf]; omega
    · obtain rfl : k = ops.length := by omega
      rw [List.take_length] at hTk
      clear hT hco hca hbk
      obtain ⟨la, hla⟩ : ∃ la, la = Deq.laidOf ops := ⟨_, rfl⟩
      obtain ⟨ga, hga⟩ : ∃ ga, ga = lf ++ Deq.gotOf [] ops := ⟨_, rfl⟩
      have hl1 : la.length ≤ ops.length := by rw [hla]; exact Deq.laidOf_length _
      have hl2 : ga.length ≤ ops.length := by rw [hga, List.length_append, HLF.out]; have := Deq.got_le ops ops.length; rwa [List.take_length] at this
      have hsame : srt la = srt ga := by
        have := Deq.once_law ops []
        rw [List.nil_append] at this
        rw [hla, hga, HLF.out]
        exact srt_perm this
      rw [← hla, ← hga] at hTk
      have HS := Lib.hid hsame
      have hlen : la.length = ga.length := by
        have := congrArg List.length hsame
        rwa [srt_length, srt_length] at this
      clear hla hga hsame
      have hs1 := sort_own u5 la wr w2.heap.size hTk.r1 (by omega)
      obtain ⟨Va, ca, rfl, -, -⟩ := own_slice hTk.r1
      have hap := hTk.ap
      have r2 := hTk.r2
      have hT := Lib.hid hTk
      have HLN := Lib.hid hlen
      clear hTk hlen
      obtain ⟨Vb, cb, rfl, -, -⟩ := own_slice r2
      go_wp2_with fail
      refine hs1.mono ?_
      rintro e w4 ⟨rfl, q1, hg4⟩
      have k4 := (Keeps.of_grown hg4)
      have p2 := own_keeps r2 k4 (fun g e1 e2 => hap g e2.symm e1)
      have hs2 := sort_own _ ga w4 w2.heap.size p2 (by omega)
      clear hs1 r2
      go_wp2_with fail
      refine hs2.mono ?_
      rintro e w5 ⟨rfl, q2, hg5⟩
      have k5 := (Keeps.of_grown hg5)
      have p1 := own_keeps q1 k5 (fun g e1 e2 => hap g e1 e2.symm)
      have z2 := SlV.of_own q2
      have z1 := SlV.of_own p1
      rw [← HS.out] at z2
      have heq := equal_ints_same (.slice Va la.length ca) (.slice Vb ga.length cb) (srt la) w5 (by rw [srt_length]; exact z1) (by rw [srt_length, HLN.out]; exact z2)
      have b4 : Below w2.heap.size wr w4 := k4.below hT.out.base (fun i hi => own_ge hT.out.r1 i hi.symm)
      have b5 : Below w2.heap.size w4 w5 := k5.below (Nat.le_trans hT.out.base b4.size) (fun i hi => own_ge p2 i hi.symm)
      have hbE : Below w.heap.size w w5 := hbw.trans ((b4.trans b5).mono HH.out.2.2.2.size)
      have HE := Lib.hid hbE
      clear hs2 q1 q2 p1 p2 z1 z2 hg4 hg5 k4 k5 b4 b5 hbE hbw
      go_wp2_with fail
      refine heq.mono ?_
      rintro e w6 ⟨rfl, m, rfl⟩
      have HE2 := Lib.hid (below_drewN HE.out m)
      clear heq
      go_wp2_with fail
      go_ret
      exact ⟨rfl, HE2.out⟩
end Go.Proofs.Ytoddhfabeiimkaa
