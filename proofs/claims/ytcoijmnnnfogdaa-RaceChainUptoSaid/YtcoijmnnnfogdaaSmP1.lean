/-
  Workers who steal from each other: Go's parts go on as the tree does, when a leaf is done.
-/
import Derived.WalkKit
import Derived.ProofKit
import Derived.SizedLaws
import Derived.Deep.Slices
import Derived.Lib.Hide
import Derived.BigQuiet
import Derived.Deep.QuietTactic
import Derived.Deep.RegionHeld3
import Derived.Deep.AppendLies
import Derived.Maps.AppendAt
import Derived.WalkSpells
import Derived.Test.YtcoijmnnnfogdaaRows
import Derived.ChangeKeysEq
import Derived.StillTailTactics
import Derived.Test.YtcoijmnnnfogdaaChecked

namespace Go.Proofs.Ytcoijmnnnfogdaa
set_option linter.unusedVariables false
set_option linter.unusedSimpArgs false
set_option maxRecDepth 100000
open Go.ChangeShapes Go.WideShapes Go.ChangeAt Go.RowKit

/-- The cells of a slice's elements lie at its address, below block B. -/
def Cells (w : World) (B : Nat) (A : Option Addr) (vs : List Value) : Prop :=
  ∃ b o, (vs ≠ [] → A = some ⟨b, o, none⟩ ∧ b < B) ∧ ∀ j u, vs[j]? = some u → w.cell? ⟨b, o + j, none⟩ = some u

/-- A slice value of n elements, each of sz cells, that reads as the cells vs. -/
def SlV (w : World) (sz : Nat) (v : Value) (n : Nat) (vs : List Value) : Prop :=
  ∃ A c, v = .slice A n c ∧ n ≤ c ∧ c ≤ maxLen ∧ vs.length = n * sz ∧ Cells w w.heap.size A vs

/-- a slice's length, for a loop's measure -/
def slLen : Value → Nat | .slice _ n _ => n | _ => 0

def ints (k : IntKind) (xs : List Int) : List Value := xs.map (Value.int k)

def Wfs (k : IntKind) (xs : List Int) : Prop := ∀ x ∈ xs, (Lit.int k x).wf = true

def SlI (k : IntKind) (w : World) (v : Value) (xs : List Int) : Prop := SlV w 1 v xs.length (ints k xs) ∧ Wfs k xs

theorem ints_length (k : IntKind) (xs : List Int) : (ints k xs).length = xs.length := by simp [ints]
theorem ints_get (k : IntKind) (xs : List Int) (j : Nat) (h : j < xs.length) : (ints k xs)[j]? = some (.int k (xs.getD j 0)) := by
  simp [ints, List.getD, List.getElem?_eq_getElem h]

theorem Cells.nil (w : World) (B : Nat) (A : Option Addr) : Cells w B A [] := ⟨0, 0, fun h => absurd rfl h, fun j u h => by simp at h⟩

theorem Cells.keep {w w' : World} {B B' : Nat} {A : Option Addr} {vs : List Value} (h : Cells w B A vs) (hB : B ≤ B') (hk : ∀ p : Addr, p.block < B → w'.cell? p = w.cell? p) : Cells w' B' A vs := by
  obtain ⟨b, o, h1, h2⟩ := h
  refine ⟨b, o, fun hne => ⟨(h1 hne).1, Nat.lt_of_lt_of_le (h1 hne).2 hB⟩, fun j u hu => ?_⟩
  have hne : vs ≠ [] := by intro h0; subst h0; simp at hu
  exact (hk _ (h1 hne).2).trans (h2 j u hu)

theorem Cells.below {w w' : World} {B : Nat} {A : Option Addr} {vs : List Value} (h : Cells w B A vs) (hb : Below B w w') (hB : B ≤ w'.heap.size) : Cells w' w'.heap.size A vs :=
  h.keep hB fun _ hp => hb.cell hp

theorem SlV.below {w w' : World} {sz n : Nat} {v : Value} {vs : List Value} (h : SlV w sz v n vs) (hb : Below w.heap.size w w') : SlV w' sz v n vs := by
  obtain ⟨A, c, h1, h2, h3, h4, h5⟩ := h
  exact ⟨A, c, h1, h2, h3, h4, h5.below hb hb.size⟩

theorem SlI.below {w w' : World} {k : IntKind} {v : Value} {xs : List Int} (h : SlI k w v xs) (hb : Below w.heap.size w w') : SlI k w' v xs := ⟨h.1.below hb, h.2⟩

theorem SlV.alloc {w : World} {sz n : Nat} {v : Value} {vs : List Value} (h : SlV w sz v n vs) (o : Obj) : SlV (w.alloc o) sz v n vs := h.below ((Below.refl _ _).alloc (Nat.le_refl _) o)
theorem SlI.alloc {w : World} {k : IntKind} {v : Value} {xs : List Int} (h : SlI k w v xs) (o : Obj) : SlI k (w.alloc o) v xs := ⟨h.1.alloc o, h.2⟩

theorem SlV.step {w w' : World} {sz n : Nat} {v : Value} {vs : List Value} (hb : Below w.heap.size w w') (h : SlV w sz v n vs) : SlV w' sz v n vs := h.below hb
theorem SlI.step {w w' : World} {k : IntKind} {v : Value} {xs : List Int} (hb : Below w.heap.size w w') (h : SlI k w v xs) : SlI k w' v xs := h.below hb

theorem below_next {w w1 w2 : World} (hb : Below w1.heap.size w1 w2) (h : Below w.heap.size w w1) : Below w.heap.size w w2 := h.trans (hb.mono h.size)
theorem below_alloc {w w1 : World} (h : Below w.heap.size w w1) (o : Obj) : Below w.heap.size w (w1.alloc o) := h.alloc h.size o
theorem below_drew {w w1 : World} (h : Below w.heap.size w w1) : Below w.heap.size w w1.drew := h.drew

theorem SlV.nil (w : World) (sz : Nat) : SlV w sz (.slice none 0 0) 0 [] := ⟨none, 0, rfl, Nat.le_refl _, Nat.zero_le _, by simp, Cells.nil _ _ _⟩
theorem SlI.nil (k : IntKind) (w : World) : SlI k w (.slice none 0 0) [] := ⟨SlV.nil w 1, fun x h => by simp at h⟩

theorem Cells.of_own {w : World} {base : Nat} {e : TypeId} {size n c : Nat} {A : Option Addr} {xs : List Value} (h : w.ownsRow base e size (.slice A n c) n xs) : Cells w w.heap.size A xs := by
  rcases h.2 with ⟨h1, h2⟩ | ⟨g, cap, cur, hv, _, hg, _, _, _, _⟩
  · have : xs = [] := List.eq_nil_of_length_eq_zero (by rw [h.1, h2]; simp)
    subst this
    exact Cells.nil _ _ _
  · have hA : A = some ⟨g, 0, none⟩ := by injection hv
    subst hA
    refine ⟨g, 0, fun _ => ⟨rfl, (Array.getElem?_eq_some_iff.1 hg).1⟩, fun j u hu => ?_⟩
    have := h.cells (g := g) rfl j u hu
    rw [Nat.zero_add]
    rwa [show ((⟨g, 0, none⟩ : Addr).add j) = ⟨g, j, none⟩ from by unfold Addr.add; split <;> simp_all] at this

theorem SlV.of_own {w : World} {base : Nat} {e : TypeId} {size n : Nat} {v : Value} {xs : List Value} (h : w.ownsRow base e size v n xs) : SlV w size v n xs := by
  have h' := h
  rcases h'.2 with ⟨rfl, rfl⟩ | ⟨g, cap, cur, rfl, _, _, hle, hm, _, _⟩
  · exact ⟨none, 0, rfl, Nat.le_refl _, Nat.zero_le _, h'.1, Cells.of_own h⟩
  · exact ⟨_, cap, rfl, hle, hm, h'.1, Cells.of_own h⟩

theorem SlI.of_own {w : World} {base : Nat} {e : TypeId} {k : IntKind} {v : Value} {xs : List Int} (h : w.ownsRow base e 1 v xs.length (ints k xs)) (hw : Wfs k xs) : SlI k w v xs := ⟨SlV.of_own h, hw⟩

theorem below_drewN {B : Nat} {a w : World} (h : Below B a w) (n : Nat) : Below B a (w.drewN n) := ⟨h.os, h.tape, h.output, h.size, h.block⟩

theorem run_max_two {P : Program} (w : World) (ts : Array TypeId) (t : TypeId) (k k' : IntKind) (x y : Int) : (Builtin.max_ ts t #[.int k x, .int k' y]).run P w = .ok (.int k (max x y)) w := by
  have : (if y > x then y else x) = max x y := by split <;> omega
  rw [← this]
  rfl
theorem run_min_two {P : Program} (w : World) (ts : Array TypeId) (t : TypeId) (k k' : IntKind) (x y : Int) : (Builtin.min_ ts t #[.int k x, .int k' y]).run P w = .ok (.int k (min x y)) w := by
  have : (if y < x then y else x) = min x y := by split <;> omega
  rw [← this]
  rfl
attribute [go_sem ↓] run_max_two run_min_two

/-- one element's cell -/
theorem Cells.int {w : World} {B : Nat} {A : Option Addr} {xs : List Int} {k : IntKind} (h : Cells w B A (ints k xs)) {j : Nat} (hj : j < xs.length) :
    ∃ b o, A = some ⟨b, o, none⟩ ∧ b < B ∧ ∀ i, i < xs.length → w.cell? ⟨b, o + i, none⟩ = some (.int k (xs.getD i 0)) := by
  obtain ⟨b, o, h1, h2⟩ := h
  have hne : ints k xs ≠ [] := by
    intro h0
    have : xs.length = 0 := by simpa [ints] using congrArg List.length h0
    omega
  obtain ⟨h3, h4⟩ := h1 hne
  exact ⟨b, o, h3, h4, fun i hi => h2 i _ (ints_get k xs i hi)⟩

/-- one element, under a name of its own -/
theorem Cells.one {w : World} {B : Nat} {A : Option Addr} {xs : List Int} {k : IntKind} (h : Cells w B A (ints k xs)) {j : Nat} (hj : j < xs.length) :
    ∃ b o x, A = some ⟨b, o, none⟩ ∧ b < B ∧ Hid (xs[j]? = some x) ∧ w.cell? ⟨b, o + j, none⟩ = some (.int k x) := by
  obtain ⟨b, o, h1, h2, h3⟩ := h.int hj
  exact ⟨b, o, xs[j], h1, h2, List.getElem?_eq_getElem hj, by rw [h3 j hj]; simp [List.getD, List.getElem?_eq_getElem hj]⟩

theorem Wfs.get {k : IntKind} {xs : List Int} (h : Wfs k xs) {j : Nat} (hj : j < xs.length) : (Lit.int k (xs.getD j 0)).wf = true := by
  have e : xs.getD j 0 = xs[j] := by simp [List.getD, List.getElem?_eq_getElem hj]
  rw [e]
  exact h _ (List.getElem_mem hj)

theorem wf_u64 {x : Int} : (Lit.int .u64 x).wf = true ↔ 0 ≤ x ∧ x ≤ 18446744073709551615 := by
  simp [Lit.wf, IntKind.min, IntKind.max, IntKind.signed, IntKind.bits]
theorem wf_i64 {x : Int} : (Lit.int .i64 x).wf = true ↔ -9223372036854775808 ≤ x ∧ x ≤ 9223372036854775807 := by
  simp [Lit.wf, IntKind.min, IntKind.max, IntKind.signed, IntKind.bits]

theorem wrap_u64 (n : Int) : IntKind.u64.wrap n = n % 18446744073709551616 := by
  simp [IntKind.wrap, IntKind.bits, IntKind.signed]
theorem ints_set (k : IntKind) (xs : List Int) (i : Nat) (x : Int) : ints k (xs.set i x) = (ints k xs).set i (.int k x) := by simp [ints, List.map_set]
theorem Wfs.set {k : IntKind} {xs : List Int} (h : Wfs k xs) (i : Nat) {x : Int} (hx : (Lit.int k x).wf = true) : Wfs k (xs.set i x) := by
  intro y hy
  rcases List.mem_or_eq_of_mem_set hy with hy | rfl
  · exact h y hy
  · exact hx
theorem Wfs.append {k : IntKind} {xs ys : List Int} (h : Wfs k xs) (h' : Wfs k ys) : Wfs k (xs ++ ys) := by
  intro y hy
  rcases List.mem_append.1 hy with hy | hy
  · exact h y hy
  · exact h' y hy
theorem Wfs.replicate {k : IntKind} {x : Int} (hx : (Lit.int k x).wf = true) (n : Nat) : Wfs k (List.replicate n x) := by
  intro y hy
  rw [(List.mem_replicate.1 hy).2]
  exact hx

theorem ret_int {k : IntKind} {a b : Int} (h : a = b) : Ending.returned (.int k a) = .returned (.int k b) := by rw [h]
theorem ret_bool {a b : Bool} (h : a = b) : Ending.returned (.bool a) = .returned (.bool b) := by rw [h]

theorem Cells.take {w : World} {B : Nat} {A : Option Addr} {vs : List Value} (h : Cells w B A vs) (k : Nat) : Cells w B A (vs.take k) := by
  obtain ⟨b, o, h1, h2⟩ := h
  refine ⟨b, o, fun hne => h1 (fun h0 => hne (by rw [h0]; simp)), fun j u hu => h2 j u ?_⟩
  rw [List.getElem?_take] at hu
  split at hu
  · exact hu
  · cases hu

/-- the first k elements -/
theorem SlI.take {k : IntKind} {w : World} {A : Option Addr} {n c : Nat} {xs ys : List Int} (h : SlI k w (.slice A n c) xs) (j : Nat) (hy : ys = xs.take j) (hj : j ≤ xs.length) : SlI k w (.slice A ys.length c) ys := by
  obtain ⟨⟨A', c', he, h1, h2, h3, h4⟩, h5⟩ := h
  injection he with e1 e2 e3
  subst e1 e3
  have hl : ys.length ≤ xs.length := by rw [hy]; simp; omega
  refine ⟨⟨A, c, rfl, by omega, h2, by simp [ints], ?_⟩, fun x hx => h5 x ?_⟩
  · have : ints k ys = (ints k xs).take j := by rw [hy]; simp [ints, List.map_take]
    rw [this]
    exact h4.take j
  · rw [hy] at hx
    exact List.mem_of_mem_take hx

/-- 'make([]T, n)' -/
theorem wp_make {P : Program} (w : World) {ops : Array Oper} {rest : List Oper} {o : Oper} {a : Act} {Q : Exit → Act → World → Prop}
    (t e : TypeId) (z : Value) (bytes : Nat) (n : Nat) (ht : P.underlying t = some (.slice e)) (hinfo : (P.info? e).map (fun i => (i.zero, i.size, i.bytes)) = some (some z, 1, bytes)) (hz : z.cells = #[z])
    {L C : Int} (hL : L = (n : Int)) (hC : C = (n : Int)) (b2 : bytes * n ≤ 281474976710656) (b3 : n ≤ 9223372036854775807)
    {l c : Operand} {kl kc : IntKind} (hg : o.guard = none) (hop : o.op = Op.makeSlice t l c) (hl : a.eval l = .int kl L) (hc : a.eval c = .int kc C)
    (hK : ∀ w', w'.ownsRow w.heap.size e 1 (.slice (some ⟨w.heap.size, 0, none⟩) n n) n (List.replicate n z) → Below w.heap.size w w' → w'.heap.size = w.heap.size + 1 → wpList P ops Q rest (a.put o.dst (.slice (some ⟨w.heap.size, 0, none⟩) n n)) w') :
    wpList P ops Q (o :: rest) a w := by
  obtain ⟨i, hi, hz0, hz1, hz2⟩ := info_parts hinfo
  refine wpList_plain hg fun K hK' => ?_
  subst hL
  subst hC
  have h63' : (n : Int) ≤ 9223372036854775807 := by omega
  have hb' : (i.bytes : Int) * (n : Int) ≤ 281474976710656 := by
    have h : ((i.bytes * n : Nat) : Int) ≤ 281474976710656 := by rw [hz2]; omega
    rwa [Int.natCast_mul] at h
  have hr := run_make (P := P) w t e i z ht hi hz0 kl kc n n (by omega) (Int.le_refl _) hb' h63'
  simp only [Int.toNat_natCast, hz1, hz, Nat.mul_one] at hr
  unfold Oper.wp
  simp [execOp, hop, hl, hc, hr, Result.andThen]
  refine hK' _ _ (hK _ ?_ ((Below.refl _ _).alloc (Nat.le_refl _) _) (by simp))
  have := World.ownsRow_lit (e := e) (size := 1) (base := w.heap.size) w (madeCells #[z] n) n (Nat.le_refl _) (by unfold maxLen; omega) (by simp [madeCells])
  rwa [toList_madeCells_one] at this

theorem Cells.new (w : World) (vs : List Value) (e : TypeId) : Cells (w.alloc (.cells vs.toArray e)) (w.heap.size + 1) (some ⟨w.heap.size, 0, none⟩) vs := by
  refine ⟨w.heap.size, 0, fun _ => ⟨rfl, by omega⟩, fun j u hu => ?_⟩
  rw [cell_of_row _ _ _ _ _ _ (heap_alloc_new w (.cells vs.toArray e))]
  simpa using hu

theorem run_append_nil_src {P : Program} (w : World) (base : Nat) (t ty e : TypeId) (i : TypeInfo) (size : Nat) (ht : P.underlying t = some (.slice e)) (hi : P.info? e = some i)
    (v : Value) (n : Nat) (xs : List Value) (hown : w.ownsRow base e size v n xs) (c : Nat) : (Builtin.append_ #[t, t] ty #[v, .slice none 0 c]).run P w = .ok v w := by
  rcases hown.2 with ⟨rfl, rfl⟩ | ⟨g, cap, cur, rfl, _, _, hnc, _⟩
  · simp [Builtin.append_, run_underlying ht, sizeOf, typeInfo, hi, Builtin.lenOf, Builtin.firstCells]
  · simp [Builtin.append_, run_underlying ht, sizeOf, typeInfo, hi, Builtin.lenOf, Builtin.firstCells, hnc, storeCells]

/-- 'append(v, src...)', v nil or the call's own, src whatever -/
theorem run_append {P : Program} (w : World) (base : Nat) (t ty e : TypeId) (z : Value) (size bytes : Nat) (ht : P.underlying t = some (.slice e)) (hinfo : (P.info? e).map (fun i => (i.zero, i.size, i.bytes)) = some (some z, size, bytes)) (hz : z.cells.size = size) (hsz : 0 < size)
    (v : Value) (n : Nat) (xs : List Value) (hown : w.ownsRow base e size v n xs) (B : Nat) (A : Option Addr) (m c : Nat) (news : List Value) (hlen : news.length = m * size) (hcs : Cells w B A news) (h1 : ∀ u ∈ news, u.oneCell' = true)
    (h63 : n + m ≤ maxLen) (hbytes : (n + m) * bytes ≤ 140737488355328) (hbase : base ≤ w.heap.size) :
    ∃ v' w', (Builtin.append_ #[t, t] ty #[v, .slice A m c]).run P w = .ok v' w' ∧ w'.ownsRow base e size v' (n + m) (xs ++ news) ∧ w.grownBy w' v.ownBlock ∧ (v'.ownBlock = v.ownBlock ∨ v'.ownBlock = some w.heap.size) := by
  obtain ⟨i, hi, hz0, hz1, hz2⟩ := info_parts hinfo
  by_cases hm : m = 0
  · subst hm
    have hn : news = [] := List.eq_nil_of_length_eq_zero (by simpa using hlen)
    subst hn
    rcases A with _ | ad
    · exact ⟨v, w, run_append_nil_src w base t ty e i size ht hi v n xs hown c, by simpa using hown, World.grownBy.refl w _, .inl rfl⟩
    · obtain ⟨v', w', hrun, h2, h3, _, h5⟩ := run_append_own_at (P := P) w base t ty e i z size bytes ht hi hz0 hz1 hz2 hz hsz v n xs hown ad 0 c [] hlen (by simp) h1 h63 hbytes hbase
      exact ⟨v', w', hrun, h2, h3, h5⟩
  · obtain ⟨b, o, hA, hcell⟩ := hcs
    have hne : news ≠ [] := by
      intro h0
      rw [h0] at hlen
      have : 0 < m * size := Nat.mul_pos (by omega) hsz
      simp at hlen
      omega
    obtain ⟨rfl, _⟩ := hA hne
    obtain ⟨v', w', hrun, h2, h3, _, h5⟩ := run_append_own_at (P := P) w base t ty e i z size bytes ht hi hz0 hz1 hz2 hz hsz v n xs hown ⟨b, o, none⟩ m c news hlen (fun j u hu => by rw [Addr.add_lit]; exact hcell j u hu) h1 h63 hbytes hbase
    exact ⟨v', w', hrun, h2, h3, h5⟩

theorem own_ge {w : World} {base : Nat} {e : TypeId} {size : Nat} {v : Value} {n : Nat} {xs : List Value} (h : w.ownsRow base e size v n xs) : ∀ k, v.ownBlock = some k → base ≤ k := fun k hk => (h.lt k hk).1

theorem own_slice {w : World} {base : Nat} {e : TypeId} {size : Nat} {v : Value} {n : Nat} {xs : List Value} (h : w.ownsRow base e size v n xs) : ∃ A c, v = .slice A n c ∧ n ≤ c ∧ c ≤ maxLen := by
  rcases h.2 with ⟨rfl, rfl⟩ | ⟨g, cap, cur, rfl, _, _, hle, hm, _, _⟩
  · exact ⟨none, 0, rfl, Nat.le_refl _, Nat.zero_le _⟩
  · exact ⟨_, cap, rfl, hle, hm⟩
theorem own_addr {w : World} {base : Nat} {e : TypeId} {size : Nat} {v : Value} {n : Nat} {xs : List Value} (h : w.ownsRow base e size v n xs) (hn : 0 < n) : ∃ g c, v = .slice (some ⟨g, 0, none⟩) n c ∧ n ≤ c ∧ c ≤ maxLen ∧ base ≤ g ∧ g < w.heap.size := by
  rcases h.2 with ⟨rfl, rfl⟩ | ⟨g, cap, cur, rfl, hb, hg, hle, hm, _, _⟩
  · omega
  · exact ⟨g, cap, rfl, hle, hm, hb, (Array.getElem?_eq_some_iff.1 hg).1⟩

theorem own_len {w : World} {base : Nat} {e : TypeId} {size : Nat} {v : Value} {n : Nat} {xs : List Value} (h : w.ownsRow base e size v n xs) : slLen v = n := by
  obtain ⟨A, c, rfl, _, _⟩ := own_slice h
  rfl

theorem wp_append {P : Program} (w : World) {ops : Array Oper} {rest : List Oper} {o : Oper} {a : Act} {Q : Exit → Act → World → Prop} (s x : Operand)
    (base t e : TypeId) (z : Value) (size bytes : Nat) (ht : P.underlying t = some (.slice e)) (hinfo : (P.info? e).map (fun i => (i.zero, i.size, i.bytes)) = some (some z, size, bytes)) (hz : z.cells.size = size) (hsz : 0 < size)
    {v : Value} {n : Nat} {xs : List Value} (hown : w.ownsRow base e size v n xs) {B : Nat} {A : Option Addr} {m c : Nat} {news : List Value} (hcs : Cells w B A news) (hlen : news.length = m * size) (h1 : ∀ u ∈ news, u.oneCell' = true)
    (h63 : n + m ≤ maxLen) (hbytes : (n + m) * bytes ≤ 140737488355328) (hbase : base ≤ w.heap.size)
    (hgd : o.guard = none) (ho : o.op = .call { callee := .builtin .append, args := #[s, x], argTypes := #[t, t] }) (hs : a.eval s = v) (hx : a.eval x = .slice A m c)
    (h : ∀ v' w', w'.ownsRow base e size v' (n + m) (xs ++ news) → w.grownBy w' v.ownBlock → (v'.ownBlock = v.ownBlock ∨ v'.ownBlock = some w.heap.size) → Below base w w' → wpList P ops Q rest (a.put o.dst v') w') : wpList P ops Q (o :: rest) a w := by
  refine wpList_plain hgd fun _ hK => ?_
  obtain ⟨v', w', hrun, h2, h3, h4⟩ := run_append (P := P) w base t o.type e z size bytes ht hinfo hz hsz v n xs hown B A m c news hlen hcs h1 h63 hbytes hbase
  unfold Oper.wp execOp
  simp only [ho, resolve, invoke, builtin, Sem.run_bind, Sem.run_pure, Result.andThen_ok, List.map_toArray, List.map_cons, List.map_nil, hs, hx, hrun]
  exact hK _ _ (h v' w' h2 h3 h4 ((Below.refl _ _).grown h3 hbase (own_ge hown)))

/-- 'append(v, x)': the one element lies in a block of its own -/
theorem wp_push {P : Program} (w : World) {ops : Array Oper} {rest : List Oper} {o : Oper} {a : Act} {Q : Exit → Act → World → Prop} (s x : Operand)
    (base t e : TypeId) (z : Value) (size bytes : Nat) (ht : P.underlying t = some (.slice e)) (hinfo : (P.info? e).map (fun i => (i.zero, i.size, i.bytes)) = some (some z, size, bytes)) (hz : z.cells.size = size) (hsz : 0 < size)
    {v : Value} {n : Nat} {xs : List Value} (hown : w.ownsRow base e size v n xs) {c : Nat} (news : List Value) (hlen : news.length = 1 * size) (h1 : ∀ u ∈ news, u.oneCell' = true)
    (h63 : n + 1 ≤ maxLen) (hbytes : (n + 1) * bytes ≤ 140737488355328) (hbase : base ≤ w.heap.size)
    (hgd : o.guard = none) (ho : o.op = .call { callee := .builtin .append, args := #[s, x], argTypes := #[t, t] }) (hs : a.eval s = v) (hx : a.eval x = .slice (some ⟨w.heap.size, 0, none⟩) 1 c)
    (h : ∀ v' w', w'.ownsRow base e size v' (n + 1) (xs ++ news) → w.grownBy w' v.ownBlock → (v'.ownBlock = v.ownBlock ∨ v'.ownBlock = some (w.heap.size + 1)) → Below base w w' → wpList P ops Q rest (a.put o.dst v') w') : wpList P ops Q (o :: rest) a (w.alloc (.cells news.toArray e)) := by
  refine wp_append _ s x base t e z size bytes ht hinfo hz hsz (hown.alloc _) (Cells.new w news e) hlen h1 h63 hbytes (Nat.le_trans hbase (by simp)) hgd ho hs hx fun v' w' h2 h3 h4 h5 => ?_
  have hg : w.grownBy w' v.ownBlock :=
    ⟨h3.os, h3.tape, h3.output, Nat.le_trans (by simp) h3.size, fun k hk hne => (h3.block k (by simp; omega) hne).trans (Below.heap_alloc w _ k hk)⟩
  exact h v' w' h2 hg (by simpa using h4) (((Below.refl _ _).alloc hbase _).trans h5)

theorem flat_length {α : Type} (f : α → List Value) (n : Nat) (hf : ∀ a, (f a).length = n) (l : List α) : (l.flatMap f).length = l.length * n := by
  induction l with
  | nil => simp
  | cons a l ih => rw [List.flatMap_cons, List.length_append, hf, ih, List.length_cons, Nat.add_mul]; omega

theorem flat_get {α : Type} (f : α → List Value) (n : Nat) (hf : ∀ a, (f a).length = n) (l : List α) (k j : Nat) (x : α) (hx : l[k]? = some x) (hj : j < n) : (l.flatMap f)[k * n + j]? = (f x)[j]? := by
  induction l generalizing k with
  | nil => simp at hx
  | cons a l ih =>
    rw [List.flatMap_cons]
    rcases k with _ | k
    · simp at hx
      subst hx
      rw [Nat.zero_mul, Nat.zero_add, List.getElem?_append_left (by rw [hf]; exact hj)]
    · have e : (k + 1) * n + j = (f a).length + (k * n + j) := by rw [hf, Nat.add_mul]; omega
      rw [e, List.getElem?_append_right (by omega), Nat.add_sub_cancel_left]
      exact ih k (by simpa using hx)

/-- the address of a slice whose cells are known, and its cells one by one -/
theorem Cells.at_ {w : World} {B : Nat} {A : Option Addr} {vs : List Value} (h : Cells w B A vs) (hne : vs ≠ []) : ∃ b o, A = some ⟨b, o, none⟩ ∧ b < B ∧ ∀ j u, vs[j]? = some u → w.cell? ⟨b, o + j, none⟩ = some u := by
  obtain ⟨b, o, h1, h2⟩ := h
  exact ⟨b, o, (h1 hne).1, (h1 hne).2, h2⟩

theorem own_base {w : World} {base base' : Nat} {e : TypeId} {size : Nat} {v : Value} {n : Nat} {xs : List Value} (h : w.ownsRow base e size v n xs) (hb : base' ≤ base) : w.ownsRow base' e size v n xs := by
  refine ⟨h.1, ?_⟩
  rcases h.2 with h' | ⟨g, cap, cur, h1, h2, h3⟩
  · exact .inl h'
  · exact .inr ⟨g, cap, cur, h1, by omega, h3⟩

/-- an argument that is a slice of integers -/
theorem open_sl {H : Type} {enc : TypeId × Value → H} {P : Program} {w : World} {t e : TypeId} {k : IntKind} {v : Value} {d : DataW H} {ps : List MemPlace} (ht : P.underlying t = some (.slice e)) (he : P.underlying e = some (.int k)) (hc : P.cellsOf e = 1)
    (hv : ∃ a len cap, v = .slice a len cap)
    (h : DataW.Trod enc P w 0 (fun _ => true) true t v d ps) (hlt : ∀ x ∈ ps, x.block < w.heap.size) :
    ∃ xs : List Int, SlI k w v xs ∧ ((d = .nil ∧ xs = []) ∨ ∃ sp : List (DataW H), d = .slice (lits k xs) sp) := by
  obtain ⟨a0, len, cap, rfl⟩ := hv
  obtain ⟨fuel, hf⟩ := h
  rcases open_ints ht he hc hf with ⟨hcs, hx⟩ | ⟨a, len', cap', zs, hcs, _, hl, hm, hz, hx, hcell, hwz⟩
  · simp [Value.cells] at hcs
    obtain ⟨rfl, rfl, rfl⟩ := hcs
    simp only [Prod.mk.injEq] at hx
    exact ⟨[], SlI.nil _ _, .inl ⟨hx.1, rfl⟩⟩
  · simp [Value.cells] at hcs
    obtain ⟨rfl, rfl, rfl⟩ := hcs
    simp only [Prod.mk.injEq] at hx
    simp only [if_true] at hz
    have htl : (zs.take len).length = len := by simp; omega
    refine ⟨zs.take len, ⟨⟨some a, cap, by rw [htl], by omega, hm, by simp [ints], ?_⟩, fun x hx => hwz x (List.mem_of_mem_take hx)⟩, .inr ⟨_, hx.1⟩⟩
    by_cases h0 : zs.take len = []
    · rw [h0]
      exact Cells.nil _ _ _
    · have hl0 : 0 < len := by
        rcases Nat.eq_zero_or_pos len with h | h
        · subst h; simp at h0
        · exact h
      obtain ⟨b, off, spot⟩ := a
      have hspot : spot = none := by simpa [Addr.add] using World.cell?_spot (hcell 0 (by omega))
      subst hspot
      refine ⟨b, off, fun _ => ⟨rfl, hlt (.cell b off) (by rw [hx.2]; exact MemPlace.mem_row.2 ⟨0, by omega, by simp⟩)⟩, fun j u hu => ?_⟩
      have hj : j < len := by
        have := (List.getElem?_eq_some_iff.1 hu).1
        simp [ints] at this
        omega
      have := hcell j (by omega)
      rw [add_plain] at this
      rw [this, ← hu]
      simp [ints, List.getD, hj, List.getElem?_eq_getElem (show j < zs.length by omega)]

/-- all arguments read behind the call as before it -/
theorem trodAll_keep {H : Type} {enc : TypeId × Value → H} {P : Program} (hl : laidOutB P = true) {W W' : World} (hb : Below W.heap.size W W') :
    ∀ (ts : List TypeId) (vs : List Value) (ds : List (DataW H)) (ps : List MemPlace), (∀ t ∈ ts, P.readableRec t = true ∧ t < P.types.size) → (∀ x ∈ ps, x.block < W.heap.size) →
      DataW.TrodAll enc P W 0 (fun _ => true) true ts vs ds ps → DataW.TrodAll enc P W' 0 (fun b => decide (b < W.heap.size)) true ts vs ds ps
  | [], [], [], _, _, _, h => h
  | t :: ts, v :: vs, d :: ds, ps, hts, hlt, h => by
    obtain ⟨p, q, h1, h2, rfl⟩ := h
    exact ⟨p, q, Below.trod hl (hts t (by simp)).1 (hts t (by simp)).2 h1 hb (fun x hx => hlt x (by simp [hx])),
      trodAll_keep hl hb ts vs ds q (fun t' h' => hts t' (by simp [h'])) (fun x hx => hlt x (by simp [hx])) h2, rfl⟩
  | [], _ :: _, _, _, _, _, h => h.elim
  | [], [], _ :: _, _, _, _, h => h.elim
  | _ :: _, [], _, _, _, _, h => h.elim
  | _ :: _, _ :: _, [], _, _, _, h => h.elim

/-- THE END OF A LAW: it returned true, and nothing that was there has turned. -/
theorem post_true {H : Type} {enc : TypeId × Value → H} {P : Program} {f : Func} {s : ChangeSpec} {W W' : World} {args : Array Value} {ds gs : List (DataW H)} {before : List MemPlace} {tb : TypeId}
    (hl : laidOutB P = true) (hres : f.resultTypes = #[tb]) (htb : P.underlying tb = some .bool) (hts : ∀ t ∈ f.params.toList, P.readableRec t = true ∧ t < P.types.size) (hvars : s.vars = [])
    (hfn : s.fn H ds = { results := [.lit (.bool true)], args := ds })
    (hW : DataW.Whole enc P f.params.toList s.vars false W args.toList ds gs before) (hb : Below W.heap.size W W') :
    s.post enc P f false true false false W args (.bool true) W' := by
  have hW' := hW
  obtain ⟨p, q, hA, hV, rfl, _, _⟩ := hW
  have hgs : gs = [] ∧ q = [] := by
    rw [hvars] at hV
    cases gs with
    | nil => exact ⟨rfl, hV⟩
    | cons g gs => exact hV.elim
  obtain ⟨rfl, rfl⟩ := hgs
  have e : s.fn H (ds ++ []) = { results := [.lit (.bool true)], args := ds } := by rw [List.append_nil]; exact hfn
  refine ⟨ds, [], _, [], p, [], hW', ?_, ?_, ?_, hb.frame _, fun h => by cases h⟩
  · rw [e, hres]
    exact trodAll_mk1 (shut_bool htb true)
  · rw [e]
    exact trodAll_keep hl hb _ _ _ _ hts (fun x hx => by simpa using hW'.lt x (by simp [hx])) hA
  · rw [e, hvars]
    rfl

end Go.Proofs.Ytcoijmnnnfogdaa


namespace Go.Proofs.Ytcoijmnnnfogdaa
set_option linter.unusedVariables false
set_option linter.unusedSimpArgs false
set_option maxRecDepth 100000
open Go.ChangeShapes Go.WideShapes Go.ChangeAt Go.RowKit Go.Deep

/-- every field is an int of one cell, and they lie one behind the other -/
def intFields (P : Program) (fs : Array Field) : Bool :=
  (List.range fs.size).all fun j => match fs[j]? with
    | some f => f.offset == j && P.cellsOf f.type == 1 && (match P.underlying f.type with | some (.int .i64) => true | _ => false)
    | none => false

theorem intFields_at {P : Program} {fs : Array Field} (h : intFields P fs = true) {j : Nat} (hj : j < fs.size) : ∃ f, fs[j]? = some f ∧ f.offset = j ∧ P.cellsOf f.type = 1 ∧ P.underlying f.type = some (.int .i64) := by
  have := List.all_eq_true.1 h j (by simpa using hj)
  rw [Array.getElem?_eq_getElem hj] at this
  simp only [Bool.and_eq_true, beq_iff_eq] at this
  refine ⟨fs[j], Array.getElem?_eq_getElem hj, this.1.1, this.1.2, ?_⟩
  have h3 := this.2
  split at h3
  · assumption
  · cases h3

def irow (r : List Int) : List Value := ints .i64 r

section
variable {H : Type} {enc : TypeId × Value → H} {P : Program} {w : World}

/-- one struct's cells are integers -/
theorem struct_ints {e : TypeId} {fs : Array Field} {n fuel : Nat} {cs : List Value} {x : DataW H × List MemPlace} (he : P.underlying e = some (.struct fs)) (hn : fs.size = n) (hC : P.cellsOf e = n) (hf : intFields P fs = true)
    (h : DataW.trod enc P w 0 (fun _ => true) true fuel e cs = some x) : ∃ r : List Int, r.length = n ∧ cs = irow r ∧ Wfs .i64 r := by
  obtain ⟨xs, m, _, _, hl, hxl, hfs⟩ := DataW.trod_struct he h
  rw [hC] at hl
  have each : ∀ j, j < n → ∃ k : Int, cs[j]? = some (.int .i64 k) ∧ (Lit.int .i64 k).wf = true := by
    intro j hj
    obtain ⟨f, hfj, ho, hc, hu⟩ := intFields_at hf (j := j) (by omega)
    have h1 := hfs j f hfj
    rw [ho, hc] at h1
    have hxj : xs[j]? = some xs[j] := List.getElem?_eq_getElem (by omega)
    rw [hxj] at h1
    obtain ⟨k, hk, _, hw⟩ := DataW.trod_int hu h1
    refine ⟨k, ?_, hw⟩
    have := congrArg (fun l => l[0]?) hk
    simp only [List.getElem?_cons_zero] at this
    rw [← this, List.getElem?_take, if_pos (by decide), List.getElem?_drop, Nat.add_zero]
  refine ⟨(List.range n).map fun j => intOf (cs.getD j undef), by simp, ?_, ?_⟩
  · apply List.ext_getElem?
    intro j
    by_cases hj : j < n
    · obtain ⟨k, hk, _⟩ := each j hj
      rw [hk]
      simp [irow, ints, hj, hk, List.getD, intOf]
    · rw [List.getElem?_eq_none (by omega), List.getElem?_eq_none (by simp [irow, ints]; omega)]
  · intro y hy
    obtain ⟨j, hj, rfl⟩ := List.mem_map.1 hy
    obtain ⟨k, hk, hw⟩ := each j (by simpa using hj)
    simp only [List.getD, hk, Option.getD_some, intOf]
    exact hw

/-- an argument that is a slice of structs of n integers -/
theorem open_rows {t e : TypeId} {fs : Array Field} {n : Nat} {v : Value} {d : DataW H} {ps : List MemPlace} (ht : P.underlying t = some (.slice e)) (he : P.underlying e = some (.struct fs)) (hn : fs.size = n) (hn0 : 0 < n) (hC : P.cellsOf e = n) (hf : intFields P fs = true)
    (hv : ∃ a len cap, v = .slice a len cap) (h : DataW.Trod enc P w 0 (fun _ => true) true t v d ps) (hlt : ∀ x ∈ ps, x.block < w.heap.size) :
    ∃ rs : List (List Int), (∀ r ∈ rs, r.length = n ∧ Wfs .i64 r) ∧ SlV w n v rs.length (rs.flatMap irow) ∧ ((d = .nil ∧ rs = []) ∨ ∃ (el sp : List (DataW H)), d = .slice el sp ∧ el.length = rs.length) := by
  obtain ⟨a0, len, cap, rfl⟩ := hv
  obtain ⟨fuel, hfu⟩ := h
  rcases open_slice ht hfu with ⟨hcs, hx⟩ | ⟨a, len', cap', m, k, D, Pl, hcs, _, hl, hm, hmm, hx, hi⟩
  · simp [Value.cells] at hcs
    obtain ⟨rfl, rfl, rfl⟩ := hcs
    simp only [Prod.mk.injEq] at hx
    exact ⟨[], by simp, SlV.nil _ _, .inl ⟨hx.1, rfl⟩⟩
  · simp [Value.cells] at hcs
    obtain ⟨rfl, rfl, rfl⟩ := hcs
    simp only [Prod.mk.injEq] at hx
    simp only [if_true] at hmm
    rw [hC] at hi hx
    have each : ∀ i, i < len → ∃ r : List Int, (r.length = n ∧ Wfs .i64 r) ∧ w.cells? 0 (a.add (i * n)) n = some (irow r) := by
      intro i hil
      obtain ⟨cs', hc, htr⟩ := hi i (by omega)
      obtain ⟨r, hr, hcr, hw⟩ := struct_ints he hn hC hf htr
      exact ⟨r, ⟨hr, hw⟩, by rw [hc, hcr]⟩
    obtain ⟨f, hff⟩ := choose_lt each
    have hlen : ∀ r ∈ (List.range len).map f, r.length = n ∧ Wfs .i64 r := by
      intro r hr
      obtain ⟨i, hi', rfl⟩ := List.mem_map.1 hr
      exact (hff i (by simpa using hi')).1
    have hflat : (((List.range len).map f).flatMap irow).length = len * n := by
      have : ∀ l : List (List Int), (∀ r ∈ l, r.length = n) → (l.flatMap irow).length = l.length * n := by
        intro l
        induction l with
        | nil => simp
        | cons r l ih =>
          intro hl'
          rw [List.flatMap_cons, List.length_append, ih (fun x hx => hl' x (by simp [hx])), List.length_cons, Nat.add_mul]
          have := hl' r (by simp)
          simp [irow, ints, this]
          omega
      rw [this _ fun r hr => (hlen r hr).1]
      simp
    refine ⟨(List.range len).map f, hlen, ⟨some a, cap, by simp, by simpa using hl, hm, by simpa using hflat, ?_⟩, .inr ⟨_, _, hx.1, by simp⟩⟩
    by_cases h0 : len = 0
    · subst h0
      exact Cells.nil _ _ _
    · obtain ⟨b, off, spot⟩ := a
      have hcell : ∀ i, i < len → ∀ j u, (irow (f i))[j]? = some u → w.cell? ((⟨b, off, spot⟩ : Addr).add (i * n + j)) = some u := by
        intro i hil j u hu
        have hj : j < n := by
          have := (List.getElem?_eq_some_iff.1 hu).1
          have h1 := (hff i hil).1.1
          simp [irow, ints, h1] at this
          exact this
        obtain ⟨_, _, hat⟩ := World.cells?_some (hff i hil).2
        have := hat j hj
        rw [Go.Deep.add_add] at this
        rw [this, hu]
      have hspot : spot = none := by
        have hr := (hff 0 (by omega)).1.1
        have hex : ∃ u, (irow (f 0))[0]? = some u := ⟨_, List.getElem?_eq_getElem (by simp [irow, ints]; omega)⟩
        obtain ⟨u, hu⟩ := hex
        have := hcell 0 (by omega) 0 u hu
        simpa [Addr.add] using World.cell?_spot this
      subst hspot
      refine ⟨b, off, fun _ => ⟨rfl, hlt (.cell b off) (by
        rw [hx.2]
        refine List.mem_append_left _ (MemPlace.mem_row.2 ⟨0, ?_, by simp⟩)
        exact Nat.mul_pos (by omega) hn0)⟩, fun j u hu => ?_⟩
      have hjl : j < len * n := by
        have := (List.getElem?_eq_some_iff.1 hu).1
        omega
      have hq : j / n < len := Nat.div_lt_of_lt_mul (by rw [Nat.mul_comm]; exact hjl)
      have hr : j % n < n := Nat.mod_lt _ hn0
      have hj : j = j / n * n + j % n := by have := Nat.div_add_mod j n; rw [Nat.mul_comm] at this; omega
      have hget : ((List.range len).map f)[j / n]? = some (f (j / n)) := by simp [hq]
      have key : ∀ (l : List (List Int)), (∀ r ∈ l, r.length = n) → ∀ (q s : Nat) (r : List Int), l[q]? = some r → s < n → (l.flatMap irow)[q * n + s]? = (irow r)[s]? := by
        intro l
        induction l with
        | nil => intro _ q s r h'; simp at h'
        | cons r0 l ih =>
          intro hl' q s r h' hs
          have h00 : (irow r0).length = n := by simp [irow, ints, hl' r0 (by simp)]
          rw [List.flatMap_cons]
          rcases q with _ | q
          · simp at h'
            subst h'
            rw [Nat.zero_mul, Nat.zero_add, List.getElem?_append_left (by omega)]
          · have e : (q + 1) * n + s = (irow r0).length + (q * n + s) := by rw [h00, Nat.add_mul]; omega
            rw [e, List.getElem?_append_right (by omega), Nat.add_sub_cancel_left]
            exact ih (fun x hx => hl' x (by simp [hx])) q s r (by simpa using h') hs
      rw [hj, key _ (fun r hr => (hlen r hr).1) _ _ _ hget hr] at hu
      have := hcell _ hq _ _ hu
      rw [← hj, Addr.add_lit] at this
      exact this
end
end Go.Proofs.Ytcoijmnnnfogdaa


namespace Go.Proofs.Ytcoijmnnnfogdaa
set_option linter.unusedVariables false
set_option linter.unusedSimpArgs false
set_option maxRecDepth 100000
open Go.ChangeShapes Go.WideShapes Go.ChangeAt Go.RowKit

theorem own : ownKnob Try.prog.godebug = none := by kernel_rfl
theorem laidOut : laidOutB Try.prog = true := by kernel_rfl

/-- the form's own reach, of a slice that was opened -/
theorem reach_rows {H : Type} {ts : List TypeId} {ds : List (DataW H)} {n by_ : Nat} {d : DataW H} {t e : TypeId} (hsz : (DataW.weightsEach Try.prog ts ds).all (· ≤ reachBytes) = true) {j : Nat} (ht : ts[j]? = some t) (hd : ds[j]? = some d)
    (hu : Try.prog.underlying t = some (.slice e)) (hb : Try.prog.bytesOf e = by_) (h : (d = .nil ∧ n = 0) ∨ ∃ (el sp : List (DataW H)), d = .slice el sp ∧ el.length = n) : n * by_ ≤ 140737488351232 := by
  rcases h with ⟨_, rfl⟩ | ⟨el, sp, rfl, rfl⟩
  · simp
  · have := sized_slice hsz ht hd hu
    rw [hb] at this
    have h2 : el.length * by_ ≤ (el.length + sp.length) * by_ := Nat.mul_le_mul_right _ (by omega)
    simp only [reachBytes] at this
    omega
end Go.Proofs.Ytcoijmnnnfogdaa


namespace Go.Proofs.Ytcoijmnnnfogdaa
set_option linter.unusedVariables false
set_option linter.unusedSimpArgs false
set_option maxRecDepth 100000
open Go

def fieldsOf (P : Program) (t : TypeId) : Array Field := match P.underlying t with | some (.struct fs) => fs | _ => #[]
end Go.Proofs.Ytcoijmnnnfogdaa


namespace Go.Proofs.Ytcoijmnnnfogdaa
set_option linter.unusedVariables false
set_option linter.unusedSimpArgs false
set_option maxRecDepth 100000
open Go.ChangeShapes Go.WideShapes Go.ChangeAt Go.RowKit

def Blk (w : World) (g : Nat) (t : TypeId) (cs : List Value) : Prop := w.heap[g]? = some (.cells cs.toArray t (0, 0))

section
variable {w w' : World} {g : Nat} {t : TypeId} {cs : List Value}
theorem Blk.lt (h : Blk w g t cs) : g < w.heap.size := (Array.getElem?_eq_some_iff.1 h).1
theorem Blk.cell (h : Blk w g t cs) (i : Nat) : w.cell? ⟨g, i, none⟩ = cs[i]? := by
  rw [cell_of_row w g i cs.toArray t (0, 0) h]; simp
theorem Blk.frozen (h : Blk w g t cs) (i : Nat) : w.frozen? ⟨g, i, none⟩ = false := frozen_of_row w g i _ t h
theorem Blk.new (w : World) (t : TypeId) (cs : List Value) : Blk (w.alloc (.cells cs.toArray t)) w.heap.size t cs := heap_alloc_new w _
theorem Blk.alloc (h : Blk w g t cs) (o : Obj) : Blk (w.alloc o) g t cs := (Below.heap_alloc w o g h.lt).trans h
theorem Blk.below (h : Blk w g t cs) (hb : Below w.heap.size w w') : Blk w' g t cs := (hb.block g h.lt).trans h
theorem Blk.set_ (h : Blk w g t cs) (i : Nat) (u : Value) : Blk (w.setCell ⟨g, i, none⟩ u) g t (cs.set i u) := by
  have := heap_setCell_same w g i cs.toArray t u h
  unfold Blk
  rw [this]
  simp
theorem Blk.far (h : Blk w g t cs) {p : Addr} (hp : g ≠ p.block) (u : Value) : Blk (w.setCell p u) g t cs := (Below.heap_setCell w p u g hp).trans h
theorem Blk.row (h : Blk w g t cs) (ds : List Value) : Blk (w.setRow g ds.toArray) g t ds := setRow_heap w g cs.toArray _ t _ h
theorem Blk.farRow (h : Blk w g t cs) {k : Nat} (hk : g ≠ k) (ds : Array Value) : Blk (w.setRow k ds) g t cs := (setRow_other w k g ds hk).trans h

theorem Blk.drewN (h : Blk w g t cs) (n : Nat) : Blk (w.drewN n) g t cs := h
theorem Blk.drew (h : Blk w g t cs) : Blk w.drew g t cs := h
theorem grown_undrewN {a b : World} {n : Nat} {r : Option Nat} (h : (a.drewN n).grownBy b r) : a.grownBy b r := ⟨h.os, h.tape, h.output, h.size, h.block⟩
theorem Blk.grown (h : Blk w g t cs) {r : Option Nat} (hg : w.grownBy w' r) (hne : some g ≠ r) : Blk w' g t cs := (hg.block g h.lt hne).trans h

theorem grown_setRow (w : World) (g : Nat) (ds : Array Value) : w.grownBy (w.setRow g ds) (some g) := ⟨rfl, rfl, rfl, by simp, fun k _ hk => setRow_other w g k ds (fun e => hk (by simp [e]))⟩
theorem grown_setCell (w : World) (g i : Nat) (u : Value) : w.grownBy (w.setCell ⟨g, i, none⟩ u) (some g) := ⟨rfl, rfl, rfl, by simp [World.setCell], fun k _ hk => Below.heap_setCell w _ u k (fun e => hk (by simp [e]))⟩
theorem grown_alloc (w : World) (o : Obj) (r : Option Nat) : w.grownBy (w.alloc o) r := World.grownBy_alloc w o r
theorem grown_trans {a b c : World} {r : Option Nat} (h : a.grownBy b r) (k : b.grownBy c r) : a.grownBy c r :=
  ⟨k.os.trans h.os, k.tape.trans h.tape, k.output.trans h.output, Nat.le_trans h.size k.size, fun i hi hne => (k.block i (Nat.lt_of_lt_of_le hi h.size) hne).trans (h.block i hi hne)⟩
theorem grown_of_below {a b : World} (h : Below a.heap.size a b) (r : Option Nat) : a.grownBy b r := ⟨h.os, h.tape, h.output, h.size, fun i hi _ => h.block i hi⟩
theorem grown_drewN (w : World) (n : Nat) (r : Option Nat) : w.grownBy (w.drewN n) r := ⟨rfl, rfl, rfl, Nat.le_refl _, fun _ _ _ => rfl⟩
theorem grown_drew (w : World) (r : Option Nat) : w.grownBy w.drew r := ⟨rfl, rfl, rfl, Nat.le_refl _, fun _ _ _ => rfl⟩
/-- only block g may have turned, and g is the call's own -/
theorem below_of_grown {a b : World} {B g : Nat} (h : a.grownBy b (some g)) (hB : B ≤ a.heap.size) (hg : B ≤ g) : Below B a b :=
  ⟨h.os, h.tape, h.output, h.size, fun i hi => h.block i (by omega) (fun e => by injection e; omega)⟩
end

theorem wpList_want {P : Program} {ops : Array Oper} {Q : Exit → Act → World → Prop} {a : Act} {w : World} {rest : List Oper} {o : Oper} (hg : Region.wanted o (yielded ops a.tmps) = true)
    (h : ∀ K : Act → World → Prop, (∀ a w, wpList P ops Q rest a w → K a w) → o.wp P a w K Q) : wpList P ops Q (o :: rest) a w :=
  wpList_step fun K hK => by rw [if_pos hg]; exact h K hK

section
variable {P : Program} {w : World} {g : Nat} {t : TypeId} {cs : List Value}

theorem run_loadVar_blk (h : Blk w g t cs) (ty : TypeId) (o k : Nat) (hu : ((P.underlying ty).map fun | .struct _ | .array _ _ => true | _ => false) = some true) (hi : (P.info? ty).map (·.size) = some k) (hk : o + k ≤ cs.length) :
    (loadVar ty ⟨g, o, none⟩).run P w = .ok (.agg ((cs.drop o).take k).toArray) w := by
  obtain ⟨d, hd, hdd⟩ := Option.map_eq_some_iff.1 hu
  obtain ⟨i, hii, his⟩ := Option.map_eq_some_iff.1 hi
  have hl : ((cs.drop o).take k).length = k := by simp; omega
  have hc : ∀ j v, ((cs.drop o).take k)[j]? = some v → w.cell? ((⟨g, o, none⟩ : Addr).add j) = some v := by
    intro j v hv
    rw [Addr.add_lit, h.cell]
    rw [List.getElem?_take] at hv
    split at hv
    · rw [← hv, List.getElem?_drop]
    · cases hv
  have hld := run_loadCells_list (P := P) w ⟨g, o, none⟩ _ hc
  rw [hl] at hld
  have hagg : (isAgg ty).run P w = .ok true w := by
    unfold isAgg
    rw [Sem.run_bind, run_underlying hd w]
    cases d <;> simp_all
  simp [loadVar, Sem.run_bind, hagg, sizeOf, typeInfo, hii, his, hld]

theorem wp_load_blk {o : Oper} {a : Act} {K : Act → World → Prop} {Q : Exit → Act → World → Prop} (h : Blk w g t cs) (ty : TypeId) (x : Operand) (off k : Nat)
    (hu : ((P.underlying ty).map fun | .struct _ | .array _ _ => true | _ => false) = some true) (hi : (P.info? ty).map (·.size) = some k) (hk : off + k ≤ cs.length)
    (ho : o.op = .load ty x) (hx : a.eval x = .pointer (some ⟨g, off, none⟩))
    (hK : K (a.put o.dst (.agg ((cs.drop off).take k).toArray)) w) : o.wp P a w K Q := by
  unfold Oper.wp execOp
  simp only [ho, hx, Instr.loadAt, Instr.sureAddr, Sem.run_bind, Sem.run_pure, Result.andThen_ok, run_loadVar_blk h ty off k hu hi hk]
  exact hK

theorem wpl_load_blk {ops : Array Oper} {rest : List Oper} {o : Oper} {a : Act} {Q : Exit → Act → World → Prop} (h : Blk w g t cs) (ty : TypeId) (off k : Nat)
    (hu : ((P.underlying ty).map fun | .struct _ | .array _ _ => true | _ => false) = some true) (hi : (P.info? ty).map (·.size) = some k) (hk : off + k ≤ cs.length)
    (hgd : Region.wanted o (yielded ops a.tmps) = true) {x : Operand} (ho : o.op = .load ty x) (hx : a.eval x = .pointer (some ⟨g, off, none⟩))
    (hK : wpList P ops Q rest (a.put o.dst (.agg ((cs.drop off).take k).toArray)) w) : wpList P ops Q (o :: rest) a w :=
  wpList_want hgd fun _ h' => wp_load_blk h ty x off k hu hi hk ho hx (h' _ _ hK)

theorem run_storeVar_blk (h : Blk w g t cs) (ty : TypeId) (o k : Nat) (vs : List Value) (hi : (P.info? ty).map (·.size) = some k) (hv : vs.length = k) (hk : o + k ≤ cs.length) (h1 : ∀ v ∈ vs, v.oneCell' = true) :
    (storeVar ty ⟨g, o, none⟩ (.agg vs.toArray)).run P w = .ok () (w.setRow g (cs.take o ++ vs ++ cs.drop (o + k)).toArray) := by
  obtain ⟨i, hii, his⟩ := Option.map_eq_some_iff.1 hi
  have := run_storeCells_at P g o t vs 0 cs.toArray w h (by simp; omega) h1
  simp only [Nat.add_zero, hv] at this
  simp [storeVar, sizeOf, typeInfo, hii, his, Value.cells, hv, this]

theorem wp_store_blk {o : Oper} {a : Act} {K : Act → World → Prop} {Q : Exit → Act → World → Prop} (h : Blk w g t cs) (ty : TypeId) (x y : Operand) (off k : Nat) (vs : List Value) (hi : (P.info? ty).map (·.size) = some k) (hv : vs.length = k) (hk : off + k ≤ cs.length) (h1 : ∀ v ∈ vs, v.oneCell' = true)
    (ho : o.op = .store ty x y) (hx : a.eval x = .pointer (some ⟨g, off, none⟩)) (hy : a.eval y = .agg vs.toArray)
    (hK : K (a.put o.dst undef) (w.setRow g (cs.take off ++ vs ++ cs.drop (off + k)).toArray)) : o.wp P a w K Q := by
  unfold Oper.wp execOp
  simp only [ho, hx, hy, Instr.storeAt, Instr.sureAddr, Sem.run_bind, Sem.run_pure, Result.andThen_ok, run_storeVar_blk h ty off k vs hi hv hk h1]
  exact hK

theorem wpl_store_blk {ops : Array Oper} {rest : List Oper} {o : Oper} {a : Act} {Q : Exit → Act → World → Prop} (h : Blk w g t cs) (ty : TypeId) (off k : Nat) (vs : List Value) (hi : (P.info? ty).map (·.size) = some k) (hv : vs.length = k) (hk : off + k ≤ cs.length) (h1 : ∀ v ∈ vs, v.oneCell' = true)
    (hgd : Region.wanted o (yielded ops a.tmps) = true) {x y : Operand} (ho : o.op = .store ty x y) (hx : a.eval x = .pointer (some ⟨g, off, none⟩)) (hy : a.eval y = .agg vs.toArray)
    (hK : ∀ w', Blk w' g t (cs.take off ++ vs ++ cs.drop (off + k)) → w.grownBy w' (some g) → wpList P ops Q rest (a.put o.dst undef) w') : wpList P ops Q (o :: rest) a w :=
  wpList_want hgd fun _ h' => wp_store_blk h ty x y off k vs hi hv hk h1 ho hx hy (h' _ _ (hK _ (h.row _) (grown_setRow _ _ _)))

theorem whole_put {cs vs : List Value} {k : Nat} (h : cs.length = k) : cs.take 0 ++ vs ++ cs.drop (0 + k) = vs := by
  rw [List.take_zero, List.nil_append, List.drop_of_length_le (by omega), List.append_nil]

/-- a store of all of it -/
theorem wpl_put_blk {ops : Array Oper} {rest : List Oper} {o : Oper} {a : Act} {Q : Exit → Act → World → Prop} (h : Blk w g t cs) (vs : List Value) {ty : TypeId} (hi : (P.info? ty).map (·.size) = some cs.length) (hv : vs.length = cs.length) (h1 : ∀ v ∈ vs, v.oneCell' = true)
    (hgd : Region.wanted o (yielded ops a.tmps) = true) {x y : Operand} (ho : o.op = .store ty x y) (hx : a.eval x = .pointer (some ⟨g, 0, none⟩)) (hy : a.eval y = .agg vs.toArray)
    (hK : ∀ w', Blk w' g t vs → w.grownBy w' (some g) → wpList P ops Q rest (a.put o.dst undef) w') : wpList P ops Q (o :: rest) a w := by
  refine wpl_store_blk h ty 0 cs.length vs hi hv (by omega) h1 hgd ho hx hy fun w' h2 h3 => hK w' ?_ h3
  rwa [whole_put rfl] at h2
/-- a load of all of it -/
theorem wpl_get_blk {ops : Array Oper} {rest : List Oper} {o : Oper} {a : Act} {Q : Exit → Act → World → Prop} (h : Blk w g t cs) {ty : TypeId}
    (hu : ((P.underlying ty).map fun | .struct _ | .array _ _ => true | _ => false) = some true) (hi : (P.info? ty).map (·.size) = some cs.length)
    (hgd : Region.wanted o (yielded ops a.tmps) = true) {x : Operand} (ho : o.op = .load ty x) (hx : a.eval x = .pointer (some ⟨g, 0, none⟩))
    (hK : wpList P ops Q rest (a.put o.dst (.agg cs.toArray)) w) : wpList P ops Q (o :: rest) a w := by
  refine wpl_load_blk h ty 0 cs.length hu hi (by omega) hgd ho hx ?_
  rw [List.drop_zero, List.take_length]
  exact hK

/-- a store into one cell of it -/
theorem wpl_set_blk {ops : Array Oper} {rest : List Oper} {o : Oper} {a : Act} {Q : Exit → Act → World → Prop} (h : Blk w g t cs) (i : Nat) (u : Value) {ty : TypeId} (hi : (P.info? ty).map (·.size) = some 1) (hk : i < cs.length) (hu : u.cells = #[u]) (h1 : u.oneCell' = true)
    (hgd : Region.wanted o (yielded ops a.tmps) = true) {x y : Operand} (ho : o.op = .store ty x y) (hx : a.eval x = .pointer (some ⟨g, i, none⟩)) (hy : a.eval y = u)
    (hK : ∀ w', Blk w' g t (cs.set i u) → w.grownBy w' (some g) → wpList P ops Q rest (a.put o.dst undef) w') : wpList P ops Q (o :: rest) a w := by
  refine wpList_want hgd fun _ h' => ?_
  obtain ⟨inf, hii, his⟩ := Option.map_eq_some_iff.1 hi
  have := run_storeCells_at P g i t [u] 0 cs.toArray w h (by simp; omega) (by simpa using h1)
  simp only [Nat.add_zero, List.length_singleton] at this
  have hrun : (storeVar ty ⟨g, i, none⟩ u).run P w = .ok () (w.setRow g (cs.take i ++ [u] ++ cs.drop (i + 1)).toArray) := by
    simp [storeVar, sizeOf, typeInfo, hii, his, hu, this]
  have e : cs.take i ++ [u] ++ cs.drop (i + 1) = cs.set i u := by
    rw [List.set_eq_take_append_cons_drop, if_pos hk]
    simp
  rw [e] at hrun
  unfold Oper.wp execOp
  simp only [ho, hx, hy, Instr.storeAt, Instr.sureAddr, Sem.run_bind, Sem.run_pure, Result.andThen_ok, hrun]
  exact h' _ _ (hK _ (h.row _) (grown_setRow _ _ _))
end

/-- a result that lies in a block -/
theorem ret_blk {P : Program} {fn : Func} {R : Ending → World → Prop} {a : Act} {w : World} {p : Tmp} {ty : TypeId} {g : Nat} {t : TypeId} {cs : List Value} (hB : Blk w g t cs) (hr : fn.results = #[.cell p ty]) (hp : a.tmps.getD p undef = .pointer (some ⟨g, 0, none⟩)) {d : TypeDesc}
    (hu : P.underlying ty = some d) (hd : (match d with | .struct _ | .array _ _ => true | _ => false) = true) (hi : (P.info? ty).map (·.size) = some cs.length) (hdf : a.defers = []) (hR : R (.returned (.agg cs.toArray)) w) : bodyPost P fn R .ret a w :=
  bodyPost_ret (results_cell_row hr _ _ g t cs.toArray (0, 0) d hp hB hu hd (by simpa using hi)) hdf hR

/-! ### two arrays of bools -/
def bools (l : List Bool) : List Value := l.map .bool
theorem bools_one (l : List Bool) : ∀ v ∈ bools l, v.oneCell' = true := by
  intro v hv
  obtain ⟨b, _, rfl⟩ := List.mem_map.1 hv
  rfl

theorem run_eqItems_bools {P : Program} (w : World) (d : Nat) (e : TypeId) (he : P.underlying e = some .bool) (hc : P.cellsOf e = 1) (xs ys : List Bool) (hl : xs.length = ys.length) :
    ∀ (n k : Nat), k + n = xs.length → (Op.eqItems (d + 1) e (P.cellsOf e) (bools xs).toArray (bools ys).toArray (List.range' k n)).run P w = .ok (decide (xs.drop k = ys.drop k)) w := by
  intro n
  induction n with
  | zero =>
    intro k hk
    rw [List.drop_of_length_le (by omega), List.drop_of_length_le (by omega)]
    simp [Op.eqItems]
  | succ n ih =>
    intro k hk
    have hx : xs[k]? = some xs[k] := List.getElem?_eq_getElem (by omega)
    have hy : ys[k]? = some ys[k] := List.getElem?_eq_getElem (by omega)
    have hagg : (isAgg e).run P w = .ok false w := by
      unfold isAgg
      rw [Sem.run_bind, run_underlying he w]
      rfl
    have px : (part e (bools xs).toArray (k * P.cellsOf e)).run P w = .ok (.bool xs[k]) w := by
      simp [part, Sem.run_bind, hagg, hc, bools, hx]
    have py : (part e (bools ys).toArray (k * P.cellsOf e)).run P w = .ok (.bool ys[k]) w := by
      simp [part, Sem.run_bind, hagg, hc, bools, hy]
    rw [List.range'_succ]
    simp only [Op.eqItems, Sem.run_bind, px, py, run_equalIn_bool w d e _ _ he, Result.andThen_ok]
    have dx : xs.drop k = xs[k] :: xs.drop (k + 1) := List.drop_eq_getElem_cons (by omega)
    have dy : ys.drop k = ys[k] :: ys.drop (k + 1) := List.drop_eq_getElem_cons (by omega)
    have e : (xs.drop k = ys.drop k) ↔ (xs[k] = ys[k] ∧ xs.drop (k + 1) = ys.drop (k + 1)) := by rw [dx, dy, List.cons.injEq]
    by_cases hb : xs[k] = ys[k]
    · have hb' : (!(xs[k] == ys[k])) = false := by simp [hb]
      rw [hb', if_neg (by simp), ih (k + 1) (by omega)]
      simp only [e, hb, true_and]
    · have hb' : (!(xs[k] == ys[k])) = true := by simp [hb]
      rw [hb', if_pos rfl]
      simp only [e, hb, false_and]
      rfl

theorem run_equal_bools {P : Program} (w : World) (t e : TypeId) (n : Nat) (ht : P.underlying t = some (.array n e)) (he : P.underlying e = some .bool) (hc : P.cellsOf e = 1) (hi : (P.info? e).isSome = true) (xs ys : List Bool) (hx : xs.length = n) (hy : ys.length = n) (b : Bool) (hb : decide (xs = ys) = b) :
    (Op.equalIn 10000 t (.agg (bools xs).toArray) (.agg (bools ys).toArray)).run P w = .ok b w := by
  subst hb
  obtain ⟨i, hi⟩ := Option.isSome_iff_exists.1 hi
  have := run_equalIn_array (P := P) w 9999 (bools xs).toArray (bools ys).toArray ht hi
  have h2 := run_eqItems_bools (P := P) w 9998 e he hc xs ys (by omega) n 0 (by omega)
  rw [← List.range_eq_range'] at h2
  rw [this, h2]
  simp
end Go.Proofs.Ytcoijmnnnfogdaa


namespace Go.Proofs.Ytcoijmnnnfogdaa
set_option linter.unusedVariables false
set_option linter.unusedSimpArgs false
set_option maxRecDepth 100000
open Go.RowKit

/-- of the blocks that were there those outside S are as they were -/
structure Keeps (S : Nat → Prop) (w w' : World) : Prop where
  os : w'.os = w.os
  tape : w'.tape = w.tape
  output : w'.output = w.output
  size : w.heap.size ≤ w'.heap.size
  block : ∀ k, k < w.heap.size → ¬ S k → w'.heap[k]? = w.heap[k]?

section
variable {S S' : Nat → Prop} {a b c w w' : World}
theorem Keeps.refl (S : Nat → Prop) (w : World) : Keeps S w w := ⟨rfl, rfl, rfl, Nat.le_refl _, fun _ _ _ => rfl⟩
theorem Keeps.trans (h : Keeps S a b) (k : Keeps S b c) : Keeps S a c :=
  ⟨k.os.trans h.os, k.tape.trans h.tape, k.output.trans h.output, Nat.le_trans h.size k.size, fun i hi hn => (k.block i (Nat.lt_of_lt_of_le hi h.size) hn).trans (h.block i hi hn)⟩
/-- the second may have turned blocks that the first has made, too -/
theorem Keeps.step (h : Keeps S a b) (k : Keeps S' b c) (hs : ∀ i, i < a.heap.size → S' i → S i) : Keeps S a c :=
  ⟨k.os.trans h.os, k.tape.trans h.tape, k.output.trans h.output, Nat.le_trans h.size k.size, fun i hi hn => (k.block i (Nat.lt_of_lt_of_le hi h.size) (fun h' => hn (hs i hi h'))).trans (h.block i hi hn)⟩
theorem Keeps.mono (h : Keeps S a b) (hs : ∀ i, S i → S' i) : Keeps S' a b := ⟨h.os, h.tape, h.output, h.size, fun i hi hn => h.block i hi (fun h' => hn (hs i h'))⟩
theorem Keeps.of_grown {r : Option Nat} (h : a.grownBy b r) : Keeps (fun k => some k = r) a b := ⟨h.os, h.tape, h.output, h.size, fun i hi hn => h.block i hi hn⟩
theorem Keeps.of_below (h : Below a.heap.size a b) (S : Nat → Prop) : Keeps S a b := ⟨h.os, h.tape, h.output, h.size, fun i hi _ => h.block i hi⟩
theorem Keeps.alloc (h : Keeps S a b) (o : Obj) : Keeps S a (b.alloc o) := h.step (Keeps.of_grown (grown_alloc b o none)) (fun i _ hi => by cases hi)
theorem Keeps.drewN (h : Keeps S a b) (n : Nat) : Keeps S a (b.drewN n) := ⟨h.os, h.tape, h.output, h.size, h.block⟩
theorem Keeps.undrewN {n : Nat} (h : Keeps S (a.drewN n) b) : Keeps S a b := ⟨h.os, h.tape, h.output, h.size, h.block⟩
theorem Keeps.below {B : Nat} (h : Keeps S a b) (hB : B ≤ a.heap.size) (hs : ∀ i, S i → B ≤ i) : Below B a b := ⟨h.os, h.tape, h.output, h.size, fun i hi => h.block i (by omega) (fun h' => by have := hs i h'; omega)⟩
theorem Blk.keeps {g : Nat} {t : TypeId} {cs : List Value} (h : Blk w g t cs) (k : Keeps S w w') (hg : ¬ S g) : Blk w' g t cs := (k.block g h.lt hg).trans h
theorem own_keeps {base : Nat} {e : TypeId} {size n : Nat} {v : Value} {xs : List Value} (h : w.ownsRow base e size v n xs) (k : Keeps S w w') (hv : ∀ g, v.ownBlock = some g → ¬ S g) : w'.ownsRow base e size v n xs := by
  refine ⟨h.1, ?_⟩
  rcases h.2 with h' | ⟨g, cap, cur, rfl, hb, hg, rest⟩
  · exact .inl h'
  · refine .inr ⟨g, cap, cur, rfl, hb, ?_, rest⟩
    rw [k.block g (Array.getElem?_eq_some_iff.1 hg).1 (hv g rfl)]
    exact hg
theorem Cells.keeps {A : Option Addr} {vs : List Value} {B : Nat} (h : Cells w B A vs) (k : Keeps S w w') (hB : B ≤ w.heap.size) (hs : ∀ i, S i → B ≤ i) : Cells w' B A vs :=
  h.keep (Nat.le_refl _) fun _ hp => (k.below hB hs).cell hp

/-- rows of unlike element types lie in unlike blocks -/
theorem own_own_ne {base base' : Nat} {e e' : TypeId} {size size' n n' : Nat} {v v' : Value} {xs xs' : List Value} (h : w.ownsRow base e size v n xs) (h' : w.ownsRow base' e' size' v' n' xs') (hne : e ≠ e') {g : Nat} (hg : v.ownBlock = some g) : v'.ownBlock ≠ some g := by
  intro hg'
  rcases h.2 with ⟨rfl, _⟩ | ⟨g1, cap, cur, rfl, _, hh, _⟩
  · simp [Value.ownBlock] at hg
  · rcases h'.2 with ⟨rfl, _⟩ | ⟨g2, cap', cur', rfl, _, hh', _⟩
    · simp [Value.ownBlock] at hg'
    · simp only [Value.ownBlock, Option.some.injEq] at hg hg'
      subst hg
      subst hg'
      rw [hh] at hh'
      injection hh' with hh'
      injection hh' with _ ht
      exact hne ht
theorem own_blk_ne {base : Nat} {e t : TypeId} {size n g : Nat} {v : Value} {xs cs : List Value} (h : w.ownsRow base e size v n xs) (h' : Blk w g t cs) (hne : e ≠ t) : v.ownBlock ≠ some g := by
  intro hg
  rcases h.2 with ⟨rfl, _⟩ | ⟨g1, cap, cur, rfl, _, hh, _⟩
  · simp [Value.ownBlock] at hg
  · simp only [Value.ownBlock, Option.some.injEq] at hg
    subst hg
    unfold Blk at h'
    rw [hh] at h'
    injection h' with h'
    injection h' with _ ht
    exact hne ht
end
end Go.Proofs.Ytcoijmnnnfogdaa


namespace Go.Proofs.Ytcoijmnnnfogdaa.Sp
set_option linter.unusedVariables false
set_option linter.unusedSimpArgs false
set_option maxRecDepth 100000

inductive T where
  | nil
  | one (c : Int) (wr : Bool) (lb : Int)
  | two (par : Bool) (l r : T)

abbrev Acc := Int × Bool × Int

def T.leaves : T → List Acc
  | .nil => []
  | .one c b l => [(c, b, l)]
  | .two _ l r => l.leaves ++ r.leaves
def T.size (t : T) : Nat := t.leaves.length
def T.span : T → Nat
  | .nil => 0
  | .one _ _ _ => 1
  | .two par l r => if par then max l.span r.span else l.span + r.span
def T.width : T → Nat
  | .nil => 0
  | .one _ _ _ => 1
  | .two par l r => if par then l.width + r.width else max l.width r.width

theorem T.size_two (p : Bool) (l r : T) : (T.two p l r).size = l.size + r.size := by simp [T.size, T.leaves]
def T.cnt : T → Nat
  | .nil => 1
  | .one _ _ _ => 1
  | .two _ l r => 1 + l.cnt + r.cnt
theorem T.size_le_cnt (t : T) : t.size ≤ t.cnt := by
  induction t with
  | nil => exact Nat.zero_le _
  | one _ _ _ => exact Nat.le_refl _
  | two p l r ihl ihr => rw [T.size_two, T.cnt]; omega
theorem T.span_le (t : T) : t.span ≤ t.size := by
  induction t with
  | nil => exact Nat.le_refl _
  | one _ _ _ => exact Nat.le_refl _
  | two p l r ihl ihr =>
    rw [T.size_two]
    cases p <;> simp only [T.span] <;> simp <;> omega
theorem T.width_le (t : T) : t.width ≤ t.size := by
  induction t with
  | nil => exact Nat.le_refl _
  | one _ _ _ => exact Nat.le_refl _
  | two p l r ihl ihr =>
    rw [T.size_two]
    cases p <;> simp only [T.width] <;> simp <;> omega
theorem T.area (t : T) : t.size ≤ t.span * t.width := by
  induction t with
  | nil => exact Nat.le_refl _
  | one _ _ _ => exact Nat.le_refl _
  | two p l r ihl ihr =>
    rw [T.size_two]
    cases p
    · simp only [T.span, T.width, Bool.false_eq_true, if_false, Nat.add_mul]
      exact Nat.add_le_add (Nat.le_trans ihl (Nat.mul_le_mul_left _ (Nat.le_max_left _ _))) (Nat.le_trans ihr (Nat.mul_le_mul_left _ (Nat.le_max_right _ _)))
    · simp only [T.span, T.width, if_true, Nat.mul_add]
      exact Nat.add_le_add (Nat.le_trans ihl (Nat.mul_le_mul_right _ (Nat.le_max_left _ _))) (Nat.le_trans ihr (Nat.mul_le_mul_right _ (Nat.le_max_right _ _)))
theorem T.zero (t : T) : (t.size = 0 ↔ t.span = 0) ∧ (t.size = 0 ↔ t.width = 0) := by
  have h1 := t.span_le
  have h2 := t.width_le
  have h3 := t.area
  refine ⟨⟨fun h => by omega, fun h => ?_⟩, ⟨fun h => by omega, fun h => ?_⟩⟩
  · rw [h, Nat.zero_mul] at h3; omega
  · rw [h, Nat.mul_zero] at h3; omega
end Go.Proofs.Ytcoijmnnnfogdaa.Sp


namespace Go.Proofs.Ytcoijmnnnfogdaa
set_option linter.unusedVariables false
set_option linter.unusedSimpArgs false
set_option maxRecDepth 100000
open Go.ChangeShapes Go.WideShapes Go.ChangeAt Go.RowKit
set_option maxRecDepth 100000

def tcells (k c : Int) (b : Bool) (l : Int) (A : Option Addr) (n cap : Nat) : List Value := [.int .i64 k, .int .i64 c, .bool b, .int .i64 l, .slice A n cap]

inductive TmR (B : Nat) (w : World) : List Value → Sp.T → Prop
  | nil (k c : Int) (b : Bool) (l : Int) (A : Option Addr) (n cap : Nat) : n ≤ cap → cap ≤ maxLen → k ≠ 1 → ¬ ((k = 2 ∨ k = 3) ∧ 2 ≤ n) → TmR B w (tcells k c b l A n cap) .nil
  | one (c : Int) (b : Bool) (l : Int) (A : Option Addr) (n cap : Nat) : n ≤ cap → cap ≤ maxLen → TmR B w (tcells 1 c b l A n cap) (.one c b l)
  | two (par : Bool) (c : Int) (b : Bool) (l : Int) (g o n cap : Nat) (cs0 cs1 : List Value) (t0 t1 : Sp.T) : n ≤ cap → cap ≤ maxLen → 2 ≤ n → g < B →
      (∀ j u, cs0[j]? = some u → w.cell? ⟨g, o + j, none⟩ = some u) → (∀ j u, cs1[j]? = some u → w.cell? ⟨g, o + 5 + j, none⟩ = some u) → TmR B w cs0 t0 → TmR B w cs1 t1 →
      TmR B w (tcells (if par then 3 else 2) c b l (some ⟨g, o, none⟩) n cap) (.two par t0 t1)

theorem TmR.form {B : Nat} {w : World} {cs : List Value} {t : Sp.T} (h : TmR B w cs t) : ∃ k c b l A n cap, cs = tcells k c b l A n cap ∧ n ≤ cap ∧ cap ≤ maxLen := by
  cases h with
  | nil k c b l A n cap h1 h2 => exact ⟨_, _, _, _, _, _, _, rfl, h1, h2⟩
  | one c b l A n cap h1 h2 => exact ⟨_, _, _, _, _, _, _, rfl, h1, h2⟩
  | two par c b l g o n cap cs0 cs1 t0 t1 h1 h2 => exact ⟨_, _, _, _, _, _, _, rfl, h1, h2⟩

theorem TmR.keep {B B' : Nat} {w w' : World} {cs : List Value} {t : Sp.T} (h : TmR B w cs t) (hB : B ≤ B') (hk : ∀ p : Addr, p.block < B → w'.cell? p = w.cell? p) : TmR B' w' cs t := by
  induction h with
  | nil k c b l A n cap h1 h2 h3 h4 => exact .nil k c b l A n cap h1 h2 h3 h4
  | one c b l A n cap h1 h2 => exact .one c b l A n cap h1 h2
  | two par c b l g o n cap cs0 cs1 t0 t1 h1 h2 h3 h4 h5 h6 _ _ i0 i1 =>
    exact .two par c b l g o n cap cs0 cs1 t0 t1 h1 h2 h3 (Nat.lt_of_lt_of_le h4 hB) (fun j u hu => (hk ⟨g, o + j, none⟩ h4).trans (h5 j u hu)) (fun j u hu => (hk ⟨g, o + 5 + j, none⟩ h4).trans (h6 j u hu)) i0 i1
theorem TmR.later {B : Nat} {w w' : World} {cs : List Value} {t : Sp.T} (h : TmR B w cs t) (hb : Below B w w') : TmR B w' cs t := h.keep (Nat.le_refl _) (fun _ hp => hb.cell hp)
theorem TmR.alloc {B : Nat} {w : World} {cs : List Value} {t : Sp.T} (h : TmR B w cs t) (hB : B ≤ w.heap.size) (o : Obj) : TmR B (w.alloc o) cs t := h.later ((Below.refl _ _).alloc hB o)

/-! ### an argument -/
theorem bulk_mem {H : Type} {d : DataW H} : ∀ {l : List (DataW H)}, d ∈ l → Rows.uptoBulk d ≤ Rows.uptoBulkAll l
  | x :: l, h => by
    rw [Rows.uptoBulkAll]
    rcases List.mem_cons.1 h with rfl | h
    · omega
    · have := bulk_mem h; omega
theorem bulk_two {H : Type} (x y : DataW H) (l : List (DataW H)) : Rows.uptoBulk x + Rows.uptoBulk y ≤ Rows.uptoBulkAll (x :: y :: l) := by
  rw [Rows.uptoBulkAll, Rows.uptoBulkAll]; omega


theorem open_term {H : Type} {enc : TypeId × Value → H} {w : World} : ∀ (fuel : Nat) (cs : List Value) (x : DataW H × List MemPlace), DataW.trod enc Try.prog w 0 (fun _ => true) true fuel 26 cs = some x → (∀ p ∈ x.2, p.block < w.heap.size) →
    ∃ t : Sp.T, TmR w.heap.size w cs t ∧ t.cnt ≤ Rows.uptoBulk x.1 := by
  intro fuel
  induction fuel using Nat.strongRecOn with
  | _ fuel ih =>
    intro cs x h hlt
    have hT : Try.prog.underlying 26 = some (.struct (fieldsOf Try.prog 26)) := by kernel_rfl
    have hA : Try.prog.underlying 23 = some (.struct (fieldsOf Try.prog 23)) := by kernel_rfl
    obtain ⟨xs, m, rfl, rfl, hl, hxl, hfs⟩ := DataW.trod_struct hT h
    have e0 : (fieldsOf Try.prog 26)[0]?.map (fun f => (f.type, f.offset)) = some (3, 0) := by kernel_rfl
    have e1 : (fieldsOf Try.prog 26)[1]?.map (fun f => (f.type, f.offset)) = some (23, 1) := by kernel_rfl
    have e2 : (fieldsOf Try.prog 26)[2]?.map (fun f => (f.type, f.offset)) = some (24, 4) := by kernel_rfl
    have hsz : (fieldsOf Try.prog 26).size = 3 := by kernel_rfl
    obtain ⟨f0, g0, q0⟩ := Option.map_eq_some_iff.1 e0
    obtain ⟨f1, g1, q1⟩ := Option.map_eq_some_iff.1 e1
    obtain ⟨f2, g2, q2⟩ := Option.map_eq_some_iff.1 e2
    injection q0 with q0 q0'
    injection q1 with q1 q1'
    injection q2 with q2 q2'
    have h0 := hfs 0 f0 g0
    have h1 := hfs 1 f1 g1
    have h2 := hfs 2 f2 g2
    have c0 : Try.prog.cellsOf 3 = 1 := by kernel_rfl
    have c1 : Try.prog.cellsOf 23 = 3 := by kernel_rfl
    have c2 : Try.prog.cellsOf 24 = 1 := by kernel_rfl
    have cT : Try.prog.cellsOf 26 = 5 := by kernel_rfl
    have cB : Try.prog.cellsOf 4 = 1 := by kernel_rfl
    rw [q0, q0', c0] at h0
    rw [q1, q1', c1] at h1
    rw [q2, q2', c2] at h2
    rw [cT] at hl
    rw [hsz] at hxl
    match xs, hxl, cs, hl with
    | [x0, x1, x2], _, [v0, v1, v2, v3, v4], _ =>
      simp only [List.drop_succ_cons, List.drop_zero, List.take_succ_cons, List.take_zero, List.getElem?_cons_zero, List.getElem?_cons_succ] at h0 h1 h2
      obtain ⟨k, hk, -, -⟩ := DataW.trod_int Try.underlying3 h0
      obtain ⟨ys, m1, rfl, -, hl1, hyl, hys⟩ := DataW.trod_struct hA h1
      have d0 : (fieldsOf Try.prog 23)[0]?.map (fun f => (f.type, f.offset)) = some (3, 0) := by kernel_rfl
      have d1 : (fieldsOf Try.prog 23)[1]?.map (fun f => (f.type, f.offset)) = some (4, 1) := by kernel_rfl
      have d2 : (fieldsOf Try.prog 23)[2]?.map (fun f => (f.type, f.offset)) = some (3, 2) := by kernel_rfl
      have hsy : (fieldsOf Try.prog 23).size = 3 := by kernel_rfl
      obtain ⟨u0, w0, p0⟩ := Option.map_eq_some_iff.1 d0
      obtain ⟨u1, w1, p1⟩ := Option.map_eq_some_iff.1 d1
      obtain ⟨u2, w2, p2⟩ := Option.map_eq_some_iff.1 d2
      injection p0 with p0 p0'
      injection p1 with p1 p1'
      injection p2 with p2 p2'
      have y0 := hys 0 u0 w0
      have y1 := hys 1 u1 w1
      have y2 := hys 2 u2 w2
      rw [p0, p0', c0] at y0
      rw [p1, p1', cB] at y1
      rw [p2, p2', c0] at y2
      rw [hsy] at hyl
      match ys, hyl with
      | [z0, z1, z2], _ =>
        simp only [List.drop_succ_cons, List.drop_zero, List.take_succ_cons, List.take_zero, List.getElem?_cons_zero, List.getElem?_cons_succ] at y0 y1 y2
        obtain ⟨c, hc, -, -⟩ := DataW.trod_int Try.underlying3 y0
        obtain ⟨b, hb, -⟩ := DataW.trod_bool Try.underlying4 y1
        obtain ⟨l, hl', -, -⟩ := DataW.trod_int Try.underlying3 y2
        simp only [List.cons.injEq, and_true] at hk hc hb hl'
        subst hk hc hb hl'
        have bulk1 : Rows.uptoBulk (DataW.agg (H := H) [x0.1, x1.1, x2.1]) = Rows.uptoBulk x0.1 + (Rows.uptoBulk x1.1 + Rows.uptoBulk x2.1) + 1 := by
          simp [Rows.uptoBulk, Rows.uptoBulkAll]
        have pos : ∀ d : DataW H, 1 ≤ Rows.uptoBulk d := fun d => by
          cases d with
          | lit x => cases x <;> simp [Rows.uptoBulk]
          | _ => simp [Rows.uptoBulk]
        rcases DataW.trod_slice Try.underlying24 h2 with ⟨hcs, hx⟩ | ⟨a, len, cap, el, rest, n, hn, hcs, hx, -, hle, hm, hlen, hel, hsp, -⟩
        · simp only [List.cons.injEq, and_true] at hcs
          subst hcs
          by_cases hk1 : k = 1
          · subst hk1
            exact ⟨.one c b l, .one c b l none 0 0 (Nat.le_refl _) (Nat.zero_le _), by have := pos x0.1; simp [Sp.T.cnt, bulk1]⟩
          · exact ⟨.nil, .nil k c b l none 0 0 (Nat.le_refl _) (Nat.zero_le _) hk1 (by omega), by simp [Sp.T.cnt, bulk1]⟩
        · simp only [List.cons.injEq, and_true] at hcs
          subst hcs
          by_cases hk1 : k = 1
          · subst hk1
            exact ⟨.one c b l, .one c b l _ len cap hle hm, by have := pos x0.1; simp [Sp.T.cnt, bulk1]⟩
          · by_cases hk2 : (k = 2 ∨ k = 3) ∧ 2 ≤ len
            · obtain ⟨hk2, h2l⟩ := hk2
              have kid : ∀ i, i < len → ∃ (y : DataW H × List MemPlace) (cs' : List Value) (t : Sp.T), el[i]? = some y ∧ cs'.length = 5 ∧ (∀ j u, cs'[j]? = some u → w.cell? ((a.add (i * 5)).add j) = some u) ∧ TmR w.heap.size w cs' t ∧ t.cnt ≤ Rows.uptoBulk y.1 := by
                intro i hi
                have h3 := hel i hi
                rw [cT, List.getElem?_eq_getElem (by omega)] at h3
                obtain ⟨cs', hc', htr⟩ := Option.bind_eq_some_iff.1 h3
                obtain ⟨hb0, hl5, hat⟩ := World.cells?_some hc'
                obtain ⟨t, ht1, ht2⟩ := ih n (by omega) cs' _ htr (fun p hp => hlt p (by
                  rw [hx]
                  simp only [List.flatMap_cons, List.flatMap_nil, List.mem_append, List.append_nil]
                  exact .inr (.inr (.inr (List.mem_flatMap.2 ⟨el[i], List.mem_append_left _ (List.getElem_mem _), hp⟩)))))
                refine ⟨el[i], cs', t, List.getElem?_eq_getElem (by omega), hl5, fun j u hu => ?_, ht1, ht2⟩
                have hj : j < 5 := by have := (List.getElem?_eq_some_iff.1 hu).1; omega
                rw [hat j hj, hu]
              obtain ⟨ya, csa, ta, ea, la, ca, ra, ba⟩ := kid 0 (by omega)
              obtain ⟨yb, csb, tb, eb, lb, cb, rb, bb⟩ := kid 1 (by omega)
              obtain ⟨g, o, sp⟩ := a
              have hsp0 : sp = none := by
                have := ca 0 _ (List.getElem?_eq_getElem (by omega))
                simpa [Addr.add] using World.cell?_spot this
              subst hsp0
              have ca' : ∀ j u, csa[j]? = some u → w.cell? ⟨g, o + j, none⟩ = some u := fun j u hu => by
                have := ca j u hu
                rw [Addr.add_lit, Addr.add_lit] at this
                simpa using this
              have cb' : ∀ j u, csb[j]? = some u → w.cell? ⟨g, o + 5 + j, none⟩ = some u := fun j u hu => by
                have := cb j u hu
                rw [Addr.add_lit, Addr.add_lit] at this
                simpa using this
              have hg : g < w.heap.size := World.block_lt_of_cell? w _ (ca' 0 _ (List.getElem?_eq_getElem (by omega)))
              have hbulk : ta.cnt + tb.cnt ≤ Rows.uptoBulk x2.1 := by
                rw [hx]
                match el, hlen, ea, eb with
                | e0 :: e1 :: el', _, ea, eb =>
                  simp only [List.getElem?_cons_zero, List.getElem?_cons_succ, Option.some.injEq] at ea eb
                  subst ea eb
                  have := bulk_two e0.1 e1.1 (el'.map (·.1))
                  simp only [List.map_cons, Rows.uptoBulk]
                  omega
              rcases hk2 with rfl | rfl
              · exact ⟨.two false ta tb, .two false c b l g o len cap csa csb ta tb hle hm h2l hg ca' cb' ra rb, by show _ ≤ Rows.uptoBulk (DataW.agg (H := H) [x0.1, x1.1, x2.1]); rw [Sp.T.cnt, bulk1]; omega⟩
              · exact ⟨.two true ta tb, .two true c b l g o len cap csa csb ta tb hle hm h2l hg ca' cb' ra rb, by show _ ≤ Rows.uptoBulk (DataW.agg (H := H) [x0.1, x1.1, x2.1]); rw [Sp.T.cnt, bulk1]; omega⟩
            · exact ⟨.nil, .nil k c b l _ len cap hle hm hk1 hk2, by simp [Sp.T.cnt, bulk1]⟩
end Go.Proofs.Ytcoijmnnnfogdaa


namespace Go.Proofs.Ytcoijmnnnfogdaa
set_option linter.unusedVariables false
set_option linter.unusedSimpArgs false
set_option maxRecDepth 100000
open Go.ChangeShapes Go.WideShapes Go.ChangeAt Go.RowKit

theorem open_arg_cnt {H : Type} {enc : TypeId × Value → H} {W : World} {base : Nat} {v : Value} {d : DataW H} {p : List MemPlace} (hv : Value.okWide Try.prog W .any base 26 v) (h : DataW.Trod enc Try.prog W 0 (fun _ => true) true 26 v d p) (hlt : ∀ x ∈ p, x.block < W.heap.size) :
    ∃ (cs : List Value) (t : Sp.T), v = .agg cs.toArray ∧ TmR W.heap.size W cs t ∧ t.cnt ≤ Rows.uptoBulk d := by
  have hT : Try.prog.underlying 26 = some (.struct (fieldsOf Try.prog 26)) := by kernel_rfl
  obtain ⟨cs, rfl, hcs⟩ := okWide_struct hT hv
  obtain ⟨fuel, hf⟩ := h
  obtain ⟨t, h1, h2⟩ := open_term fuel cs.toList (d, p) (by simpa [Value.cells] using hf) hlt
  exact ⟨cs.toList, t, by simp, h1, h2⟩
theorem open_arg_term {H : Type} {enc : TypeId × Value → H} {W : World} {base : Nat} {v : Value} {d : DataW H} {p : List MemPlace} (hv : Value.okWide Try.prog W .any base 26 v) (h : DataW.Trod enc Try.prog W 0 (fun _ => true) true 26 v d p) (hlt : ∀ x ∈ p, x.block < W.heap.size) :
    ∃ (cs : List Value) (t : Sp.T), v = .agg cs.toArray ∧ TmR W.heap.size W cs t ∧ t.size ≤ Rows.uptoBulk d := by
  obtain ⟨cs, t, h1, h2, h3⟩ := open_arg_cnt hv h hlt
  exact ⟨cs, t, h1, h2, Nat.le_trans t.size_le_cnt h3⟩
/-- an argument that is a struct of n integers -/
theorem open_arg_ints {H : Type} {enc : TypeId × Value → H} {W : World} {base : Nat} {v : Value} {d : DataW H} {p : List MemPlace} {e : TypeId} {n : Nat} {fs : Array Field} (he : Try.prog.underlying e = some (.struct fs)) (hn : fs.size = n) (hC : Try.prog.cellsOf e = n) (hf : intFields Try.prog fs = true) (hv : Value.okWide Try.prog W .any base e v) (h : DataW.Trod enc Try.prog W 0 (fun _ => true) true e v d p) :
    ∃ r : List Int, v = .agg (irow r).toArray ∧ r.length = n ∧ Wfs .i64 r := by
  obtain ⟨cs, rfl, hcs⟩ := okWide_struct he hv
  obtain ⟨fuel, hfu⟩ := h
  obtain ⟨r, h1, h2, h3⟩ := struct_ints he hn hC hf (by simpa [Value.cells] using hfu)
  exact ⟨r, by rw [← h2], h1, h3⟩

theorem open_arg_two {H : Type} {enc : TypeId × Value → H} {W : World} {base : Nat} {v : Value} {d : DataW H} {p : List MemPlace} {e : TypeId} {fs : Array Field} (he : Try.prog.underlying e = some (.struct fs)) (hn : fs.size = 2) (hC : Try.prog.cellsOf e = 2) (hf : intFields Try.prog fs = true) (hv : Value.okWide Try.prog W .any base e v) (h : DataW.Trod enc Try.prog W 0 (fun _ => true) true e v d p) :
    ∃ a b : Int, v = .agg #[.int .i64 a, .int .i64 b] := by
  obtain ⟨r, h1, h2, -⟩ := open_arg_ints he hn hC hf hv h
  match r, h2 with
  | [a, b], _ => exact ⟨a, b, h1⟩

theorem bulk_pos {H : Type} (d : DataW H) : 1 ≤ Rows.uptoBulk d := by
  cases d with
  | lit x => cases x <;> simp [Rows.uptoBulk]
  | _ => simp [Rows.uptoBulk]
theorem bulk_len {H : Type} : ∀ l : List (DataW H), l.length ≤ Rows.uptoBulkAll l
  | [] => by simp
  | x :: l => by
    rw [Rows.uptoBulkAll, List.length_cons]
    have := bulk_pos x
    have := bulk_len l
    omega
theorem bulk_rows {H : Type} {d : DataW H} {n : Nat} (h : (d = .nil ∧ n = 0) ∨ ∃ (el sp : List (DataW H)), d = .slice el sp ∧ el.length = n) : n ≤ Rows.uptoBulk d := by
  rcases h with ⟨_, rfl⟩ | ⟨e, sp, rfl, he⟩
  · exact Nat.zero_le _
  · have := bulk_len e
    rw [Rows.uptoBulk]
    omega
end Go.Proofs.Ytcoijmnnnfogdaa


namespace Go.Proofs.Ytcoijmnnnfogdaa.Deq
set_option linter.unusedVariables false
set_option linter.unusedSimpArgs false
set_option maxRecDepth 100000

structure Op where
  kind : Int
  n : Int

abbrev Ans := Int × Int

def next (l : List Int) (o : Op) : List Int :=
  if o.kind = 1 then l ++ [o.n] else if o.kind = 2 then l.dropLast else if o.kind = 3 then l.tail else l

def ans (l : List Int) (o : Op) : Ans :=
  if o.kind = 1 then (0, 0)
  else if o.kind = 2 then (match l.getLast? with | some x => (0, x) | none => (7, 0))
  else if o.kind = 3 then (match l.head? with | some x => (0, x) | none => (7, 0))
  else (9, 0)

def after (l : List Int) (ops : List Op) : List Int := ops.foldl next l

def answers : List Int → List Op → List Ans
  | _, [] => []
  | l, o :: ops => ans l o :: answers (next l o) ops

theorem after_append (l : List Int) (a b : List Op) : after l (a ++ b) = after (after l a) b := by simp [after]
theorem answers_append (l : List Int) (a b : List Op) : answers l (a ++ b) = answers l a ++ answers (after l a) b := by
  induction a generalizing l with
  | nil => rfl
  | cons o a ih => simp [answers, after, ih]
theorem answers_length (l : List Int) (a : List Op) : (answers l a).length = a.length := by
  induction a generalizing l with
  | nil => rfl
  | cons o a ih => simp [answers, ih]
theorem answers_take (l : List Int) (ops : List Op) (k : Nat) (h : k < ops.length) : answers l (ops.take (k + 1)) = answers l (ops.take k) ++ [ans (after l (ops.take k)) ops[k]] := by
  rw [List.take_succ_eq_append_getElem h, answers_append]
  rfl
theorem after_take (l : List Int) (ops : List Op) (k : Nat) (h : k < ops.length) : after l (ops.take (k + 1)) = next (after l (ops.take k)) ops[k] := by
  rw [List.take_succ_eq_append_getElem h, after_append]
  rfl
theorem after_length (l : List Int) (ops : List Op) : (after l ops).length ≤ l.length + ops.length := by
  induction ops generalizing l with
  | nil => simp [after]
  | cons o ops ih =>
    have h1 := ih (next l o)
    have h2 : (next l o).length ≤ l.length + 1 := by
      unfold next
      split
      · simp
      · split
        · simp; omega
        · split
          · simp; omega
          · omega
    have e : after l (o :: ops) = after (next l o) ops := rfl
    rw [e, List.length_cons]
    omega

/-! ### the ring -/
def ringed (ring : List Int) (top : Nat) (l : List Int) : Prop :=
  l.length ≤ ring.length ∧ (0 < ring.length → top < ring.length) ∧ ∀ i, i < l.length → ring[(top + i) % ring.length]? = l[i]?

theorem ring_nil : ringed [] 0 [] := ⟨Nat.le_refl _, fun h => by simp at h, fun i hi => by simp at hi⟩

theorem mod_inj {n a i j : Nat} (hi : i < n) (hj : j < n) (h : (a + i) % n = (a + j) % n) : i = j := by
  have h1 := Nat.div_add_mod (a + i) n
  have h2 := Nat.div_add_mod (a + j) n
  rw [h] at h1
  rcases Nat.lt_trichotomy ((a + i) / n) ((a + j) / n) with hlt | he | hgt
  · have : n * ((a + i) / n) + n ≤ n * ((a + j) / n) := by
      have := Nat.mul_le_mul_left n hlt
      rwa [Nat.mul_succ] at this
    omega
  · rw [he] at h1; omega
  · have : n * ((a + j) / n) + n ≤ n * ((a + i) / n) := by
      have := Nat.mul_le_mul_left n hgt
      rwa [Nat.mul_succ] at this
    omega

/-- a thing is laid at the bottom, where there is room -/
theorem ring_push {ring : List Int} {top : Nat} {l : List Int} (h : ringed ring top l) (hr : l.length < ring.length) (x : Int) : ringed (ring.set ((top + l.length) % ring.length) x) top (l ++ [x]) := by
  obtain ⟨h1, h2, h3⟩ := h
  have hm : (top + l.length) % ring.length < ring.length := Nat.mod_lt _ (by omega)
  refine ⟨by simp; omega, by simpa using h2, fun i hi => ?_⟩
  rw [List.length_set]
  simp only [List.length_append, List.length_singleton] at hi
  by_cases hil : i = l.length
  · subst hil
    rw [List.getElem?_set_self hm]
    simp
  · rw [List.getElem?_set_ne (fun e => hil (mod_inj (by omega) (by omega) e.symm)), List.getElem?_append_left (by omega)]
    exact h3 i (by omega)

theorem ring_pop {ring : List Int} {top : Nat} {l : List Int} (h : ringed ring top l) : ringed ring top l.dropLast := by
  obtain ⟨h1, h2, h3⟩ := h
  refine ⟨by simp; omega, h2, fun i hi => ?_⟩
  simp only [List.length_dropLast] at hi
  rw [h3 i (by omega), List.getElem?_dropLast, if_pos hi]

theorem ring_steal {ring : List Int} {top : Nat} {l : List Int} (h : ringed ring top l) (h0 : 0 < l.length) : ringed ring ((top + 1) % ring.length) l.tail := by
  obtain ⟨h1, h2, h3⟩ := h
  refine ⟨by simp; omega, fun _ => Nat.mod_lt _ (by omega), fun i hi => ?_⟩
  simp only [List.length_tail] at hi
  rw [Nat.mod_add_mod, show top + 1 + i = top + (i + 1) by omega, h3 (i + 1) (by omega), List.getElem?_tail]

/-- the things go over into a larger ring -/
def moved (n : Nat) (l : List Int) (k : Nat) : List Int := l.take k ++ List.replicate (n - k) 0
theorem moved_zero (n : Nat) (l : List Int) : moved n l 0 = List.replicate n 0 := by simp [moved]
theorem moved_length (n : Nat) (l : List Int) (k : Nat) (hk : k ≤ n) (hl : k ≤ l.length) : (moved n l k).length = n := by simp [moved]; omega
theorem moved_get (n : Nat) (l : List Int) (k : Nat) (hk : k < n) (hl : k ≤ l.length) : (moved n l k)[k]? = some 0 := by
  unfold moved
  obtain ⟨m, hm⟩ : ∃ m, n - k = m + 1 := ⟨n - k - 1, by omega⟩
  rw [List.getElem?_append_right (by simp; omega), hm]
  simp [List.replicate_succ, Nat.min_eq_left hl]
theorem moved_set (n : Nat) (l : List Int) (k : Nat) (x : Int) (hk : k < n) (hx : l[k]? = some x) : (moved n l k).set k x = moved n l (k + 1) := by
  have hl : k < l.length := (List.getElem?_eq_some_iff.1 hx).1
  unfold moved
  obtain ⟨m, hm⟩ : ∃ m, n - k = m + 1 := ⟨n - k - 1, by omega⟩
  rw [hm, show n - (k + 1) = m by omega, List.set_append_right _ _ (by simp; omega)]
  have e : l.take (k + 1) = l.take k ++ [x] := by
    obtain ⟨h', rfl⟩ := List.getElem?_eq_some_iff.1 hx
    exact List.take_succ_eq_append_getElem h'
  rw [e]
  simp [List.replicate_succ, Nat.min_eq_left (Nat.le_of_lt hl)]
theorem ring_moved (n : Nat) (l : List Int) (h : l.length < n) : ringed (moved n l l.length) 0 l := by
  have hl := moved_length n l l.length (by omega) (Nat.le_refl _)
  refine ⟨by omega, fun _ => by omega, fun i hi => ?_⟩
  rw [hl, Nat.zero_add, Nat.mod_eq_of_lt (by omega)]
  unfold moved
  rw [List.take_length, List.getElem?_append_left hi]

/-! ### the laws -/
def pushes (l : List Int) : List Op := l.map fun x => ⟨1, x⟩
def steals (k : Nat) : List Op := List.replicate k ⟨3, 0⟩
def pops (k : Nat) : List Op := List.replicate k ⟨2, 0⟩

theorem after_pushes (l m : List Int) : after l (pushes m) = l ++ m := by
  induction m generalizing l with
  | nil => simp [pushes, after]
  | cons x m ih =>
    have e : after l (pushes (x :: m)) = after (l ++ [x]) (pushes m) := by simp [pushes, after, next]
    rw [e, ih]
    simp

theorem steals_all (l : List Int) : after l (steals l.length) = [] ∧ (answers l (steals l.length)).map (·.2) = l := by
  induction l with
  | nil => exact ⟨rfl, rfl⟩
  | cons x l ih =>
    have e : steals (x :: l).length = ⟨3, 0⟩ :: steals l.length := by simp [steals, List.replicate_succ]
    rw [e]
    refine ⟨ih.1, ?_⟩
    have := ih.2
    simp only [answers, List.map_cons]
    have e1 : next (x :: l) ⟨3, 0⟩ = l := rfl
    have e2 : (ans (x :: l) ⟨3, 0⟩).2 = x := rfl
    rw [e1, e2, this]

theorem pops_all (l : List Int) : after l (pops l.length) = [] ∧ (answers l (pops l.length)).map (·.2) = l.reverse := by
  obtain ⟨n, hn⟩ : ∃ n, n = l.length := ⟨_, rfl⟩
  rw [← hn]
  induction n generalizing l with
  | zero =>
    have : l = [] := List.eq_nil_of_length_eq_zero hn.symm
    subst this
    exact ⟨rfl, rfl⟩
  | succ n ih =>
    have hne : l ≠ [] := by intro h; subst h; simp at hn
    have e : pops (n + 1) = ⟨2, 0⟩ :: pops n := by simp [pops, List.replicate_succ]
    obtain ⟨h1, h2⟩ := ih l.dropLast (by simp; omega)
    have e1 : next l ⟨2, 0⟩ = l.dropLast := rfl
    rw [e]
    refine ⟨h1, ?_⟩
    simp only [answers, List.map_cons]
    rw [e1, h2]
    have e2 : (ans l ⟨2, 0⟩).2 = l.getLast hne := by
      show (match l.getLast? with | some x => ((0 : Int), x) | none => (7, 0)).2 = _
      rw [List.getLast?_eq_some_getLast hne]
    rw [e2]
    conv => rhs; rw [← List.dropLast_concat_getLast hne]
    simp

/-- both ends do not meet -/
theorem two_law (l : List Int) (h : 2 ≤ l.length) :
    ans l ⟨3, 0⟩ = ans (next l ⟨2, 0⟩) ⟨3, 0⟩ ∧ ans (next l ⟨3, 0⟩) ⟨2, 0⟩ = ans l ⟨2, 0⟩ ∧ next (next l ⟨3, 0⟩) ⟨2, 0⟩ = next (next l ⟨2, 0⟩) ⟨3, 0⟩ := by
  match l, h with
  | x :: y :: l, _ =>
    refine ⟨rfl, ?_, ?_⟩
    · show (match (y :: l).getLast? with | some x => ((0 : Int), x) | none => (7, 0)) = (match (x :: y :: l).getLast? with | some x => ((0 : Int), x) | none => (7, 0))
      simp [List.getLast?_cons_cons]
    · show (y :: l).dropLast = ((x :: y :: l).dropLast).tail
      simp [List.dropLast_cons_cons]
end Go.Proofs.Ytcoijmnnnfogdaa.Deq


namespace Go.Proofs.Ytcoijmnnnfogdaa
set_option linter.unusedVariables false
set_option linter.unusedSimpArgs false
set_option maxRecDepth 100000
open Go Go.RowKit

theorem still_tail {P : Go.Program} {id : Nat} {Q : Exit → Act → World → Prop} {a : Act} {w : World} {l : List Oper} (n : Nat) (hm : P.follows .mixedOrders = true) (hB : Region.lexTailB .any l.toArray n = true)
    (h : wpStill P l.toArray (w.drewN 1) (fun a' => wpList P l.toArray Q (l.drop n) a' (w.drewN 1)) (l.take n) a) : (Code.region id l.toArray true).wp P Q a w :=
  wp_region_still_tail n hm hB h

/-- its last operation is the store -/
theorem still_last {P : Go.Program} {id : Nat} {Q : Exit → Act → World → Prop} {a : Act} {w : World} {l : List Oper} (hm : P.follows .mixedOrders = true) (hB : Region.lexTailB .any l.toArray (l.length - 1) = true)
    (h : wpStill P l.toArray (w.drewN 1) (fun a' => wpList P l.toArray Q (l.drop (l.length - 1)) a' (w.drewN 1)) (l.take (l.length - 1)) a) : (Code.region id l.toArray true).wp P Q a w :=
  still_tail (l.length - 1) hm hB h

/-- an own row and its block: the block as a whole -/
theorem own_blk {w : World} {base : Nat} {e : TypeId} {g n c : Nat} {xs : List Value} (h : w.ownsRow base e 1 (.slice (some ⟨g, 0, none⟩) n c) n xs) :
    ∃ cs, Blk w g e cs ∧ cs.length = c ∧ cs.take n = xs ∧ n ≤ c ∧ c ≤ maxLen ∧ base ≤ g := by
  rcases h.2 with ⟨h', _⟩ | ⟨g1, cap, cur, he, hb, hh, hle, hm, hs, ht⟩
  · cases h'
  · cases he
    exact ⟨cur.toList, hh, by simpa using hs, by simpa using ht, hle, hm, hb⟩
theorem own_of_blk {w : World} {base : Nat} {e : TypeId} {g n : Nat} {cs : List Value} (h : Blk w g e cs) (hb : base ≤ g) (hn : n ≤ cs.length) (hm : cs.length ≤ maxLen) : w.ownsRow base e 1 (.slice (some ⟨g, 0, none⟩) n cs.length) n (cs.take n) :=
  ⟨by simp; omega, .inr ⟨g, cs.length, cs.toArray, rfl, hb, h, hn, hm, by simp, by simp⟩⟩

theorem wpl_set_own {P : Go.Program} {w : World} {base : Nat} {e : TypeId} {g n c : Nat} {xs : List Value} {ops : Array Oper} {rest : List Oper} {o : Oper} {a : Act} {Q : Exit → Act → World → Prop} (h : w.ownsRow base e 1 (.slice (some ⟨g, 0, none⟩) n c) n xs) (i : Nat) (u : Value) {ty : TypeId} (hi : (P.info? ty).map (·.size) = some 1) (hk : i < n) (hu : u.cells = #[u]) (h1 : u.oneCell' = true)
    (hgd : Region.wanted o (yielded ops a.tmps) = true) {x y : Operand} (ho : o.op = .store ty x y) (hx : a.eval x = .pointer (some ⟨g, i, none⟩)) (hy : a.eval y = u)
    (hK : ∀ w', w'.ownsRow base e 1 (.slice (some ⟨g, 0, none⟩) n c) n (xs.set i u) → w.grownBy w' (some g) → wpList P ops Q rest (a.put o.dst undef) w') : wpList P ops Q (o :: rest) a w := by
  obtain ⟨cs, hB, rfl, rfl, hn, hm, hb⟩ := own_blk h
  refine wpl_set_blk hB i u hi (by omega) hu h1 hgd ho hx hy fun w' hB' hg => hK w' ?_ hg
  have := own_of_blk (n := n) hB' hb (by simpa using hn) (by simpa using hm)
  rw [List.length_set, List.take_set] at this
  exact this
end Go.Proofs.Ytcoijmnnnfogdaa


namespace Go.Proofs.Ytcoijmnnnfogdaa
set_option linter.unusedVariables false
set_option linter.unusedSimpArgs false
set_option maxRecDepth 100000
open Go.RowKit
set_option maxRecDepth 100000

theorem info_i64 : (Try.prog.info? 3).map (fun i => (i.zero, i.size, i.bytes)) = some (some (.int .i64 0), 1, 8) := by kernel_rfl

theorem rem_i64 (a b n : Nat) (h : a + b < 2 ^ 62) (hn : 0 < n) : (IntKind.i64.wrap (↑a + ↑b)).tmod ↑n = (((a + b) % n : Nat) : Int) := by
  rw [IntWalk.i64_in _ (by omega)]
  rfl

/-- a deque in block g, its ring in block r -/
structure DqAt (w : World) (g : Nat) (l : List Int) (ring : List Int) (top : Nat) (A : Option Addr) (c : Nat) : Prop where
  blk : Blk w g 68 [.slice A ring.length c, .int .i64 top, .int .i64 l.length]
  own : w.ownsRow (g + 1) 3 1 (.slice A ring.length c) ring.length (ints .i64 ring)
  rng : Deq.ringed ring top l
  small : ring.length ≤ 17592186044600
  small' : top ≤ ring.length

def DqRep (w : World) (g : Nat) (l : List Int) (r : Option Nat) : Prop := ∃ ring top A c, DqAt w g l ring top A c ∧ (Value.slice A ring.length c).ownBlock = r

theorem steal_none (g : Nat) (r : Option Nat) (w : World) (h : DqRep w g [] r) :
    Calls Try.prog 40 #[.pointer (some ⟨g, 0, none⟩)] w fun e w' => e = .returned (.tuple #[.int .i64 0, .bool false]) ∧ w = w' := by
  obtain ⟨ring, top, A, c, h, _⟩ := h
  have c2 := h.blk.cell 2
  simp only [List.getElem?_cons_succ, List.getElem?_cons_zero, List.length_nil] at c2
  go_enter Try.func40, Try.ntmps40
  go_wp2
  go_ret2
  exact ⟨rfl, rfl⟩

theorem pop_none (g : Nat) (r : Option Nat) (w : World) (h : DqRep w g [] r) :
    Calls Try.prog 47 #[.pointer (some ⟨g, 0, none⟩)] w fun e w' => e = .returned (.tuple #[.int .i64 0, .bool false]) ∧ w = w' := by
  obtain ⟨ring, top, A, c, h, _⟩ := h
  have c2 := h.blk.cell 2
  simp only [List.getElem?_cons_succ, List.getElem?_cons_zero, List.length_nil] at c2
  go_enter Try.func47, Try.ntmps47
  go_wp2
  go_ret2
  exact ⟨rfl, rfl⟩

theorem steal_some (g : Nat) (x : Int) (l : List Int) (r : Option Nat) (w : World) (h : DqRep w g (x :: l) r) :
    Calls Try.prog 40 #[.pointer (some ⟨g, 0, none⟩)] w fun e w' => e = .returned (.tuple #[.int .i64 x, .bool true]) ∧ DqRep w' g l r ∧ Keeps (fun k => k = g) w w' := by
  obtain ⟨ring, top, A, c, h, hr⟩ := h
  have hn : (x :: l).length ≤ ring.length := h.rng.1
  have hlen : (x :: l).length = l.length + 1 := rfl
  have htop : top < ring.length := h.rng.2.1 (by omega)
  have hx : ring[top]? = some x := by
    have := h.rng.2.2 0 (by simp)
    rwa [Nat.add_zero, Nat.mod_eq_of_lt htop] at this
  have hst := Deq.ring_steal h.rng (by simp)
  have hsm := h.small
  obtain ⟨b, c', hA, hle, hm, hb1, hb2⟩ := own_addr h.own (by omega)
  cases hA
  have hc := h.own.cellAt top (by omega)
  rw [ints, List.getElem?_map, hx] at hc
  simp only [Option.map_some] at hc
  have c0 := h.blk.cell 0
  have c1 := h.blk.cell 1
  have c2 := h.blk.cell 2
  simp only [List.getElem?_cons_succ, List.getElem?_cons_zero, hlen] at c0 c1 c2
  have hblk := h.blk
  have f1 := h.blk.frozen 1
  unfold maxLen at hm
  obtain ⟨n, hnn⟩ : ∃ n, n = ring.length := ⟨_, rfl⟩
  rw [← hnn] at htop hsm hle c0 hn
  have HN := Lib.hid hnn
  clear hx hst hnn
  have hn0 : n ≠ 0 := by omega
  obtain ⟨t, ht⟩ : ∃ t, t = (top + 1) % n := ⟨_, rfl⟩
  have htn : t < n := by rw [ht]; exact Nat.mod_lt _ (by omega)
  have HT := Lib.hid ht
  have hw : (IntKind.i64.wrap (↑top + 1)).tmod ↑n = (t : Int) := by rw [ht]; exact rem_i64 top 1 n (by omega) (by omega)
  clear ht
  go_enter Try.func40, Try.ntmps40
  go_wp2
  go_quiet (fail)
  go_wp2
  (refine still_tail 14 (by kernel_rfl) (by kernel_rfl) ?_; simp only [List.take_succ_cons, List.take_zero, List.drop_succ_cons, List.drop_zero]; repeat still_step; try refine wpStill_nil ?_)
  refine wpl_set_blk ((hblk.drewN nq).drewN 1) 1 (.int .i64 t) (by kernel_rfl) (by simp) rfl rfl rfl rfl rfl rfl ?_
  intro w2 hB2 hg2
  simp only [List.set_cons_succ, List.set_cons_zero, hlen] at hB2
  have d2 := hB2.cell 2
  simp only [List.getElem?_cons_succ, List.getElem?_cons_zero] at d2
  go_wp2_with (refine wpl_set_blk hB2 2 (.int .i64 l.length) (by kernel_rfl) (by simp) rfl rfl rfl rfl rfl rfl ?_; intro w3 hB3 hg3)
  go_ret2
  simp only [List.set_cons_succ, List.set_cons_zero, hlen] at hB3
  have hk3 : Keeps (fun k => k = g) w w3 := (((Keeps.of_grown hg2).undrewN.undrewN).trans (Keeps.of_grown hg3)).mono (fun i hi => by injection hi)
  refine ⟨rfl, ⟨ring, t, _, c, ⟨hB3, own_keeps h.own hk3 (fun g' hg' e => ?_), ?_, h.small, ?_⟩, hr⟩, hk3⟩
  · have := own_ge h.own g' hg'
    omega
  · rw [HT.out, HN.out]
    exact Deq.ring_steal h.rng (by simp)
  · have := HN.out
    omega

theorem pop_some (g : Nat) (x : Int) (l : List Int) (r : Option Nat) (w : World) (h : DqRep w g (l ++ [x]) r) :
    Calls Try.prog 47 #[.pointer (some ⟨g, 0, none⟩)] w fun e w' => e = .returned (.tuple #[.int .i64 x, .bool true]) ∧ DqRep w' g l r ∧ Keeps (fun k => k = g) w w' := by
  obtain ⟨ring, top, A, c, h, hr⟩ := h
  have hlen : (l ++ [x]).length = l.length + 1 := by simp
  have hn : l.length + 1 ≤ ring.length := by have := h.rng.1; omega
  have htop : top < ring.length := h.rng.2.1 (by omega)
  obtain ⟨t, ht⟩ : ∃ t, t = (top + l.length) % ring.length := ⟨_, rfl⟩
  have htn : t < ring.length := by rw [ht]; exact Nat.mod_lt _ (by omega)
  have hx : ring[t]? = some x := by
    have := h.rng.2.2 l.length (by simp)
    rw [ht, this]
    simp
  have hsm := h.small
  obtain ⟨b, c', hA, hle, hm, hb1, hb2⟩ := own_addr h.own (by omega)
  cases hA
  have hc := h.own.cellAt t (by omega)
  rw [ints, List.getElem?_map, hx] at hc
  simp only [Option.map_some] at hc
  have c0 := h.blk.cell 0
  have c1 := h.blk.cell 1
  have c2 := h.blk.cell 2
  simp only [List.getElem?_cons_succ, List.getElem?_cons_zero, hlen] at c0 c1 c2
  have hblk := h.blk
  have f1 := h.blk.frozen 1
  unfold maxLen at hm
  obtain ⟨n, hnn⟩ : ∃ n, n = ring.length := ⟨_, rfl⟩
  rw [← hnn] at htop hsm hle c0 hn htn ht
  have hn0 : n ≠ 0 := by omega
  have hw : (IntKind.i64.wrap (↑top + ↑l.length)).tmod ↑n = (t : Int) := by rw [ht]; exact rem_i64 top l.length n (by omega) (by omega)
  have htr : t < ring.length := by omega
  have HX := Lib.hid hx
  have HNN := Lib.hid hnn.symm
  clear ht hx hnn htr
  go_enter Try.func47, Try.ntmps47
  go_wp2_with (refine wpl_set_blk hblk 2 (.int .i64 l.length) (by kernel_rfl) (by simp) rfl rfl rfl rfl rfl rfl ?_; intro w3 hB3 hg3)
  simp only [List.set_cons_succ, List.set_cons_zero, hlen] at hB3
  have hk3 : Keeps (fun k => k = g) w w3 := (Keeps.of_grown hg3).mono (fun i hi => by injection hi)
  have hown3 := own_keeps h.own hk3 (fun g' hg' e => by have := own_ge h.own g' hg'; omega)
  have d3 := hown3.cellAt t (by rw [HNN.out]; omega)
  rw [ints, List.getElem?_map, HX.out] at d3
  simp only [Option.map_some] at d3
  have d0 := hB3.cell 0
  have d1 := hB3.cell 1
  have d2 := hB3.cell 2
  simp only [List.getElem?_cons_succ, List.getElem?_cons_zero] at d0 d1 d2
  rw [HNN.out] at d0
  clear hc c0 c1 c2 hblk f1
  go_quiet (fail)
  go_wp2
  go_ret2
  refine ⟨rfl, ⟨ring, top, _, c, ⟨hB3, hown3, ?_, h.small, h.small'⟩, hr⟩, hk3.drewN _⟩
  have := Deq.ring_pop h.rng
  rwa [List.dropLast_concat] at this
end Go.Proofs.Ytcoijmnnnfogdaa


namespace Go.Proofs.Ytcoijmnnnfogdaa
set_option linter.unusedVariables false
set_option linter.unusedSimpArgs false
set_option maxRecDepth 100000
open Go.RowKit

set_option maxHeartbeats 4000000 in
theorem push_room (g : Nat) (x : Int) (l : List Int) (r : Option Nat) (w : World) (ring : List Int) (top : Nat) (A : Option Addr) (c : Nat) (h : DqAt w g l ring top A c) (hr : (Value.slice A ring.length c).ownBlock = r) (hn : l.length < ring.length) :
    Calls Try.prog 38 #[.pointer (some ⟨g, 0, none⟩), .int .i64 x] w fun e w' => e = .returned (.tuple #[]) ∧ DqRep w' g (l ++ [x]) r ∧ Keeps (fun k => k = g ∨ some k = r) w w' := by
  subst hr
  have htop : top < ring.length := h.rng.2.1 (by omega)
  obtain ⟨t, ht⟩ : ∃ t, t = (top + l.length) % ring.length := ⟨_, rfl⟩
  have htn : t < ring.length := by rw [ht]; exact Nat.mod_lt _ (by omega)
  have hsm := h.small
  obtain ⟨b, c', hA, hle, hm, hb1, hb2⟩ := own_addr h.own (by omega)
  cases hA
  have c0 := h.blk.cell 0
  have c1 := h.blk.cell 1
  have c2 := h.blk.cell 2
  simp only [List.getElem?_cons_succ, List.getElem?_cons_zero] at c0 c1 c2
  have hblk := h.blk
  have hown := h.own
  unfold maxLen at hm
  obtain ⟨n, hnn⟩ : ∃ n, n = ring.length := ⟨_, rfl⟩
  rw [← hnn] at htop hsm hle c0 hn htn ht
  have hn0 : n ≠ 0 := by omega
  have hne : ((l.length : Int) == (n : Int)) = false := by rw [beq_eq_false_iff_ne]; omega
  have hne' : l.length ≠ n := by omega
  have hw : (IntKind.i64.wrap (↑top + ↑l.length)).tmod ↑n = (t : Int) := by rw [ht]; exact rem_i64 top l.length n (by omega) (by omega)
  have HT := Lib.hid ht
  have HNN := Lib.hid hnn.symm
  clear ht hnn
  go_enter Try.func38, Try.ntmps38
  go_wp2
  go_quiet (fail)
  go_wp2
  (refine still_last (by kernel_rfl) (by kernel_rfl) ?_; simp only [List.length_cons, List.length_nil, Nat.reduceAdd, Nat.reduceSub, List.take_succ_cons, List.take_zero, List.drop_succ_cons, List.drop_zero]; repeat still_step; try refine wpStill_nil ?_)
  refine wpl_set_own (w := (w.drewN nq).drewN 1) hown t (.int .i64 x) (by kernel_rfl) (by rw [HNN.out]; exact htn) rfl rfl rfl rfl rfl rfl ?_
  intro w2 hown2 hg2
  rw [← ints_set] at hown2
  have hgb : g ≠ b := by omega
  have hB2 := hblk.grown (w := (w.drewN nq).drewN 1) hg2 (fun e => hgb (by injection e))
  clear c0 c1 c2 hblk hown
  have d2 := hB2.cell 2
  simp only [List.getElem?_cons_succ, List.getElem?_cons_zero] at d2
  go_wp2_with (refine wpl_set_blk hB2 2 (.int .i64 (l.length + 1 : Nat)) (by kernel_rfl) (by simp) rfl rfl rfl rfl rfl rfl ?_; intro w3 hB3 hg3)
  go_end0
  simp only [List.set_cons_succ, List.set_cons_zero] at hB3
  have hk2 : Keeps (fun k => k = g ∨ some k = some b) w w2 := ((Keeps.of_grown hg2).undrewN.undrewN).mono (fun i hi => .inr hi)
  have hk3 : Keeps (fun k => k = g ∨ some k = some b) w2 w3 := (Keeps.of_grown hg3).mono (fun i hi => .inl (by injection hi))
  have hown3 := own_keeps hown2 (Keeps.of_grown hg3) (fun g' hg' e => by have := own_ge hown2 g' hg'; injection e; omega)
  have hring := Deq.ring_push h.rng (by rw [HNN.out]; exact hn) x
  rw [HNN.out, ← HT.out] at hring
  refine ⟨rfl, ⟨ring.set t x, top, some ⟨b, 0, none⟩, c, ⟨?_, ?_, hring, by simpa using h.small, by simpa using h.small'⟩, rfl⟩, hk2.trans hk3⟩
  · simpa using hB3
  · simpa using hown3
end Go.Proofs.Ytcoijmnnnfogdaa


namespace Go.Proofs.Ytcoijmnnnfogdaa
set_option linter.unusedVariables false
set_option linter.unusedSimpArgs false
set_option maxRecDepth 100000
open Go.RowKit

set_option maxHeartbeats 4000000 in
theorem push_full (g : Nat) (x : Int) (l : List Int) (w : World) (ring : List Int) (top : Nat) (A : Option Addr) (c : Nat) (h : DqAt w g l ring top A c) (hfull : l.length = ring.length) (hbig : l.length ≤ 8796093022299) :
    Calls Try.prog 38 #[.pointer (some ⟨g, 0, none⟩), .int .i64 x] w fun e w' => e = .returned (.tuple #[]) ∧ DqRep w' g (l ++ [x]) (some w.heap.size) ∧ Keeps (fun k => k = g) w w' := by
  have c0 := h.blk.cell 0
  have c1 := h.blk.cell 1
  have c2 := h.blk.cell 2
  simp only [List.getElem?_cons_succ, List.getElem?_cons_zero] at c0 c1 c2
  rw [← hfull] at c0
  have hblk := h.blk
  have hown := h.own
  obtain ⟨n, hnn⟩ : ∃ n, n = l.length := ⟨_, rfl⟩
  rw [← hnn] at c0 c2 hbig
  have HNN := Lib.hid hnn.symm
  have HFULL := Lib.hid hfull
  clear hnn hfull
  obtain ⟨m, hm0⟩ : ∃ m, m = 2 * n + 1 := ⟨_, rfl⟩
  have n63 : m ≤ 9223372036854775807 := by omega
  have n47 : 8 * m ≤ 281474976710656 := by omega
  have hnm : n < m := by omega
  have HM := Lib.hid hm0
  clear hm0
  go_enter Try.func38, Try.ntmps38
  go_wp2
  go_quiet (fail)
  go_wp2_with (at_make; refine wp_make _ 33 3 (.int .i64 0) 8 m Try.underlying33 info_i64 rfl (by have := HM.out; omega) (by have := HM.out; omega) n47 n63 rfl rfl rfl rfl ?_; intro w2 hown2 hb2 hs2; have hblk2 := hblk.below (w := w.drewN nq) hb2; have e2 := hblk2.cell 2; simp only [List.getElem?_cons_succ, List.getElem?_cons_zero] at e2; rw [HNN.out] at e2)
  have hbb2 : Below w.heap.size w w2 := ⟨hb2.os, hb2.tape, hb2.output, hb2.size, hb2.block⟩
  have hown2' : w2.ownsRow w.heap.size 3 1 (.slice (some ⟨w.heap.size, 0, none⟩) m m) m (ints .i64 (Deq.moved m l 0)) := by
    rw [Deq.moved_zero, ints, List.map_replicate]
    exact hown2
  clear hown2 hb2 hs2 c0 c1 c2 e2 hblk2
  have hrng := Lib.hid h.rng
  have hsm := h.small
  have hsm' := h.small'
  go_loopw [27] (fun i wr => ∃ k : Nat, k ≤ n ∧ i = .int .i64 k ∧ wr.ownsRow w.heap.size 3 1 (.slice (some ⟨w.heap.size, 0, none⟩) m m) m (ints .i64 (Deq.moved m l k)) ∧ Below w.heap.size w wr) (fun i _ => n - (intOf i).toNat)
  case atStart => exact ⟨0, Nat.zero_le _, rfl, hown2', hbb2⟩
  case round =>
    clear hown2' hbb2
    obtain ⟨k, hk, rfl, hownr, hb⟩ := hrel
    have hblkr := hblk.keeps (Keeps.of_below hb (fun _ => False)) (fun h => h)
    have hold := own_keeps hown (Keeps.of_below hb (fun _ => False)) (fun _ _ h => h)
    by_cases hlt : k < n
    · obtain ⟨b, c', hA, hle, hm, hb1, hb2⟩ := own_addr hold (by rw [← HFULL.out, HNN.out]; omega)
      cases hA
      obtain ⟨t, ht⟩ : ∃ t, t = (top + k) % n := ⟨_, rfl⟩
      have htn : t < n := by rw [ht]; exact Nat.mod_lt _ (by omega)
      have hx : ring[t]? = l[k]? := by
        have := hrng.out.2.2 k (by rw [HNN.out]; exact hlt)
        rw [← HFULL.out, HNN.out] at this
        rw [ht]; exact this
      have hlk : k < l.length := by rw [HNN.out]; exact hlt
      obtain ⟨y, hy⟩ : ∃ y, l[k]? = some y := ⟨_, List.getElem?_eq_getElem hlk⟩
      rw [hy] at hx
      have hset := Lib.hid (Deq.moved_set m l k y (by omega) hy)
      have htr : t < ring.length := by rw [← HFULL.out, HNN.out]; exact htn
      have hc := hold.cellAt t (by rw [← HFULL.out, HNN.out]; omega)
      rw [ints, List.getElem?_map, hx] at hc
      simp only [Option.map_some] at hc
      have htop : top ≤ n := by rw [← HFULL.out, HNN.out] at hsm'; exact hsm'
      rw [← HFULL.out, HNN.out] at hle
      have hn0 : n ≠ 0 := by omega
      have hkm : k < m := by omega
      have hw : (IntKind.i64.wrap (↑top + ↑k)).tmod ↑n = (t : Int) := by rw [ht]; exact rem_i64 top k n (by omega) (by omega)
      have c0 := hblkr.cell 0
      have c1 := hblkr.cell 1
      have c2 := hblkr.cell 2
      simp only [List.getElem?_cons_succ, List.getElem?_cons_zero] at c0 c1 c2
      rw [HNN.out] at c2
      rw [← HFULL.out, HNN.out] at c0
      clear ht hx hy hblk hown h hlk htr
      go_wp2
      (refine still_last (by kernel_rfl) (by kernel_rfl) ?_; simp only [List.length_cons, List.length_nil, Nat.reduceAdd, Nat.reduceSub, List.take_succ_cons, List.take_zero, List.drop_succ_cons, List.drop_zero]; repeat still_step; try refine wpStill_nil ?_)
      refine wpl_set_own (w := wr.drewN 1) hownr k (.int .i64 y) (by kernel_rfl) (by omega) rfl rfl rfl rfl rfl rfl ?_
      intro w3 hown3 hg3
      rw [← ints_set, hset.out] at hown3
      have hb3 := hb.trans (below_of_grown (grown_undrewN hg3) hb.size (Nat.le_refl _))
      go_wp2
      go_roundw
      case rel => exact ⟨k + 1, by omega, by go_num, hown3, hb3⟩
      case measure => simp [intOf]; omega
    · have hk' : k = n := by omega
      rw [hk'] at hownr ⊢
      have hring := Deq.ring_moved m l (by rw [HNN.out]; exact hnm)
      rw [HNN.out] at hring
      have hlm := Deq.moved_length m l n (by omega) (by rw [HNN.out]; exact Nat.le_refl _)
      obtain ⟨ring', hr'⟩ : ∃ ring', ring' = Deq.moved m l n := ⟨_, rfl⟩
      rw [← hr'] at hownr hring hlm
      have hw : (IntKind.i64.wrap (↑0 + ↑n)).tmod ↑m = (n : Int) := by
        have := rem_i64 0 n m (by omega) (by omega)
        rw [Nat.zero_add, Nat.mod_eq_of_lt hnm] at this
        exact this
      go_wp2_with (first
        | (refine wpl_set_blk hblkr 0 (.slice (some ⟨w.heap.size, 0, none⟩) m m) (by kernel_rfl) (by simp) rfl rfl rfl rfl rfl rfl ?_; intro w4 hB4 hg4; simp only [List.set_cons_succ, List.set_cons_zero] at hB4)
        | (refine wpl_set_blk hB4 1 (.int .i64 0) (by kernel_rfl) (by simp) rfl rfl rfl rfl rfl rfl ?_; intro w5 hB5 hg5; simp only [List.set_cons_succ, List.set_cons_zero] at hB5; have d0 := hB5.cell 0; have d1 := hB5.cell 1; have d2 := hB5.cell 2; simp only [List.getElem?_cons_succ, List.getElem?_cons_zero] at d0 d1 d2; rw [HNN.out] at d2))
      have hm0 : m ≠ 0 := by omega
      have hw0 : (0 + (n : Int)).tmod ↑m = (n : Int) := by
        rw [Int.zero_add]
        exact Int.tmod_eq_of_lt (by omega) (by omega)
      have hw1 : (n : Int).tmod ↑m = (n : Int) := Int.tmod_eq_of_lt (by omega) (by omega)
      have hw2 : (IntKind.i64.wrap ↑n).tmod ↑m = (n : Int) := by rw [IntWalk.i64_in _ (by omega)]; exact hw1
      have hk5 : Keeps (fun k => k = g) wr w5 := ((Keeps.of_grown hg4).mono (fun i hi => by injection hi)).trans ((Keeps.of_grown hg5).mono (fun i hi => by injection hi))
      have hgw := hblk.lt
      have hown5 := own_keeps hownr hk5 (fun g' hg' e => by have := own_ge hownr g' hg'; omega)
      go_wp2
      (refine still_last (by kernel_rfl) (by kernel_rfl) ?_; simp only [List.length_cons, List.length_nil, Nat.reduceAdd, Nat.reduceSub, List.take_succ_cons, List.take_zero, List.drop_succ_cons, List.drop_zero]; repeat still_step; try refine wpStill_nil ?_)
      refine wpl_set_own (w := w5.drewN 1) hown5 n (.int .i64 x) (by kernel_rfl) hnm rfl rfl rfl rfl rfl rfl ?_
      intro w6 hown6 hg6
      rw [← ints_set] at hown6
      have hgb : g ≠ w.heap.size := by omega
      have hB6 := hB5.grown (w := w5.drewN 1) hg6 (fun e => hgb (by injection e))
      clear d0 d1 d2 hown5 hB5 hownr hold hblkr hown
      have d2 := hB6.cell 2
      simp only [List.getElem?_cons_succ, List.getElem?_cons_zero] at d2
      rw [HNN.out] at d2
      go_wp2_with (refine wpl_set_blk hB6 2 (.int .i64 (n + 1 : Nat)) (by kernel_rfl) (by simp) rfl rfl rfl rfl rfl rfl ?_; intro w7 hB7 hg7)
      go_end0
      simp only [List.set_cons_succ, List.set_cons_zero] at hB7
      have k6 : Keeps (fun k => k = g ∨ some k = some w.heap.size) w5 w6 := ((Keeps.of_grown hg6).undrewN).mono (fun i hi => .inr hi)
      have k7 : Keeps (fun k => k = g ∨ some k = some w.heap.size) w6 w7 := (Keeps.of_grown hg7).mono (fun i hi => .inl (by injection hi))
      have k5 : Keeps (fun k => k = g ∨ some k = some w.heap.size) wr w5 := hk5.mono (fun i hi => .inl hi)
      have hk7 : Keeps (fun k => k = g) w w7 := (Keeps.of_below hb (fun k => k = g)).step (k5.trans (k6.trans k7)) (fun i hi h => by
        rcases h with h | h
        · exact h
        · injection h with h; omega)
      have hown7 := own_keeps hown6 (Keeps.of_grown hg7) (fun g' hg' e => by have := own_ge hown6 g' hg'; injection e; omega)
      have hpush := Deq.ring_push hring (by rw [hlm, HNN.out]; exact hnm) x
      rw [hlm, HNN.out, Nat.zero_add, Nat.mod_eq_of_lt hnm] at hpush
      have hl' : (ring'.set n x).length = m := by simpa using hlm
      have hlx : (l ++ [x]).length = n + 1 := by rw [List.length_append, HNN.out]; rfl
      refine ⟨rfl, ⟨ring'.set n x, 0, some ⟨w.heap.size, 0, none⟩, m, ⟨?_, ?_, hpush, ?_, ?_⟩, rfl⟩, hk7⟩
      · rw [hl', hlx]; exact hB7
      · rw [hl']; exact ⟨hown7.1, by
          rcases hown7.2 with h' | ⟨g1, cap, cur, e1, e2, e3⟩
          · exact .inl h'
          · exact .inr ⟨g1, cap, cur, e1, Nat.le_trans (by omega) e2, e3⟩⟩
      · rw [hl']; have := HM.out; omega
      · exact Nat.zero_le _

/-- a push, whichever -/
theorem push_any (g : Nat) (x : Int) (l : List Int) (r : Option Nat) (w : World) (h : DqRep w g l r) (hbig : l.length ≤ 8796093022299) :
    Calls Try.prog 38 #[.pointer (some ⟨g, 0, none⟩), .int .i64 x] w fun e w' => e = .returned (.tuple #[]) ∧ (∃ r', DqRep w' g (l ++ [x]) r' ∧ (r' = r ∨ r' = some w.heap.size)) ∧ Keeps (fun k => k = g ∨ some k = r) w w' := by
  obtain ⟨ring, top, A, c, h', hr⟩ := h
  by_cases hf : l.length = ring.length
  · refine (push_full g x l w ring top A c h' hf hbig).mono fun e w' ⟨he, hd, hk⟩ => ⟨he, ⟨_, hd, .inr rfl⟩, hk.mono (fun i hi => .inl hi)⟩
  · refine (push_room g x l r w ring top A c h' hr (by have := h'.rng.1; omega)).mono fun e w' ⟨he, hd, hk⟩ => ⟨he, ⟨_, hd, .inl rfl⟩, hk⟩
end Go.Proofs.Ytcoijmnnnfogdaa


namespace Go.Proofs.Ytcoijmnnnfogdaa
set_option linter.unusedVariables false
set_option linter.unusedSimpArgs false
set_option maxRecDepth 100000
open Go Go.RowKit

theorem part_get {α : Type} (l vs : List α) (off k : Nat) (h : off + k ≤ l.length) (hv : vs.length = k) (i : Nat) : (l.take off ++ vs ++ l.drop (off + k))[i]? = if i < off then l[i]? else if i < off + k then vs[i - off]? else l[i]? := by
  have l1 : (l.take off).length = off := by simp; omega
  have l2 : (l.take off ++ vs).length = off + k := by simp [hv]; omega
  by_cases h1 : i < off
  · rw [if_pos h1, List.getElem?_append_left (by omega), List.getElem?_append_left (by omega), List.getElem?_take_of_lt h1]
  · rw [if_neg h1]
    by_cases h2 : i < off + k
    · rw [if_pos h2, List.getElem?_append_left (by omega), List.getElem?_append_right (by omega), l1]
    · rw [if_neg h2, List.getElem?_append_right (by omega), l2, List.getElem?_drop]
      congr 1; omega

section
variable {P : Go.Program} {w w' : World} {base : Nat} {e : TypeId} {size g n c : Nat} {xs : List Value} {ops : Array Oper} {rest : List Oper} {o : Oper} {a : Act} {Q : Exit → Act → World → Prop}
theorem row_blk (h : w.ownsRow base e size (.slice (some ⟨g, 0, none⟩) n c) n xs) : ∃ cs, Blk w g e cs ∧ cs.length = c * size ∧ cs.take (n * size) = xs ∧ n ≤ c ∧ c ≤ maxLen ∧ base ≤ g := by
  rcases h.2 with ⟨h', _⟩ | ⟨g1, cap, cur, he, hb, hh, hle, hm, hs, ht⟩
  · cases h'
  · cases he
    exact ⟨cur.toList, hh, by simpa using hs, ht, hle, hm, hb⟩
theorem row_of_blk {cs : List Value} (h : Blk w g e cs) (hl : cs.length = c * size) (hb : base ≤ g) (hn : n ≤ c) (hm : c ≤ maxLen) : w.ownsRow base e size (.slice (some ⟨g, 0, none⟩) n c) n (cs.take (n * size)) :=
  ⟨by rw [List.length_take, hl]; exact Nat.min_eq_left (Nat.mul_le_mul_right _ hn), .inr ⟨g, c, cs.toArray, rfl, hb, h, hn, hm, by simpa using hl, by simp⟩⟩

theorem wpl_set_row (h : w.ownsRow base e size (.slice (some ⟨g, 0, none⟩) n c) n xs) (i : Nat) (u : Value) {ty : TypeId} (hi : (P.info? ty).map (·.size) = some 1) (hk : i < n * size) (hu : u.cells = #[u]) (h1 : u.oneCell' = true)
    (hgd : Region.wanted o (yielded ops a.tmps) = true) {x y : Operand} (ho : o.op = .store ty x y) (hx : a.eval x = .pointer (some ⟨g, i, none⟩)) (hy : a.eval y = u)
    (hK : ∀ w', w'.ownsRow base e size (.slice (some ⟨g, 0, none⟩) n c) n (xs.set i u) → w.grownBy w' (some g) → wpList P ops Q rest (a.put o.dst undef) w') : wpList P ops Q (o :: rest) a w := by
  obtain ⟨cs, hB, hl, rfl, hn, hm, hb⟩ := row_blk h
  have hcn := Nat.mul_le_mul_right size hn
  refine wpl_set_blk hB i u hi (by omega) hu h1 hgd ho hx hy fun w' hB' hg => hK w' ?_ hg
  have := row_of_blk (size := size) (c := c) (n := n) hB' (by simpa using hl) hb hn hm
  rw [List.take_set] at this
  exact this
/-- a store of some of its cells -/
theorem wpl_put_row (h : w.ownsRow base e size (.slice (some ⟨g, 0, none⟩) n c) n xs) (off k : Nat) (vs : List Value) {ty : TypeId} (hi : (P.info? ty).map (·.size) = some k) (hv : vs.length = k) (hk : off + k ≤ n * size) (h1 : ∀ v ∈ vs, v.oneCell' = true)
    (hgd : Region.wanted o (yielded ops a.tmps) = true) {x y : Operand} (ho : o.op = .store ty x y) (hx : a.eval x = .pointer (some ⟨g, off, none⟩)) (hy : a.eval y = .agg vs.toArray)
    (hK : ∀ w', w'.ownsRow base e size (.slice (some ⟨g, 0, none⟩) n c) n (xs.take off ++ vs ++ xs.drop (off + k)) → w.grownBy w' (some g) → wpList P ops Q rest (a.put o.dst undef) w') : wpList P ops Q (o :: rest) a w := by
  obtain ⟨cs, hB, hl, rfl, hn, hm, hb⟩ := row_blk h
  have hcn := Nat.mul_le_mul_right size hn
  refine wpl_store_blk hB ty off k vs hi hv (by omega) h1 hgd ho hx hy fun w' hB' hg => hK w' ?_ hg
  have := row_of_blk (size := size) (c := c) (n := n) hB' (by simp [hl, hv]; omega) hb hn hm
  have e : (cs.take off ++ vs ++ cs.drop (off + k)).take (n * size) = (cs.take (n * size)).take off ++ vs ++ (cs.take (n * size)).drop (off + k) := by
    apply List.ext_getElem?
    intro i
    have hl2 : (cs.take (n * size)).length = n * size := by rw [List.length_take]; omega
    rw [List.getElem?_take, part_get _ _ _ _ (by omega) hv, part_get _ _ _ _ (by omega) hv, List.getElem?_take]
    by_cases hi : i < n * size
    · rw [if_pos hi, if_pos hi]
    · rw [if_neg hi, if_neg hi, if_neg (by omega), if_neg (by omega)]
  rw [← e]
  exact this
end
end Go.Proofs.Ytcoijmnnnfogdaa


namespace Go.Proofs.Ytcoijmnnnfogdaa.Stl
set_option linter.unusedVariables false
set_option linter.unusedSimpArgs false
set_option maxRecDepth 100000
open Sp

/-! ### what Go reckons with -/
structure Part where
  kind : Nat
  leaf : Int
  left : Nat
  right : Nat
  up : Int
  onR : Bool
  done : Bool

def sz : T → Nat
  | .nil => 1
  | .one _ _ _ => 1
  | .two _ l r => 1 + sz l + sz r
theorem sz_pos (t : T) : 0 < sz t := by cases t <;> simp [sz] <;> omega

/-- the parts of a term that lies at n, its leaves from m on -/
def partsOf : T → (n m : Nat) → (up : Int) → (onR : Bool) → List Part
  | .nil, _, _, up, onR => [⟨0, -1, 0, 0, up, onR, false⟩]
  | .one _ _ _, _, m, up, onR => [⟨1, (m : Int), 0, 0, up, onR, false⟩]
  | .two par l r, n, m, up, onR => ⟨if par then 3 else 2, -1, n + 1, n + 1 + sz l, up, onR, false⟩ :: (partsOf l (n + 1) m n false ++ partsOf r (n + 1 + sz l) (m + l.size) n true)
theorem partsOf_length : ∀ (t : T) (n m : Nat) (up : Int) (onR : Bool), (partsOf t n m up onR).length = sz t
  | .nil, _, _, _, _ => rfl
  | .one _ _ _, _, _, _, _ => rfl
  | .two par l r, n, m, up, onR => by simp [partsOf, partsOf_length l, partsOf_length r, sz]; omega

/-- what is done is marked -/
def mark (ps : List Part) (n : Nat) : List Part := match ps[n]? with
  | some p => ps.set n { p with done := true }
  | none => ps

/-- the parts, the worker's own queue, and where he goes on; none: it goes wrong, or takes too long -/
def ended : Nat → List Part → List Nat → Nat → Option (List Part × List Nat × Int)
  | 0, _, _, _ => none
  | f + 1, ps, q, n =>
    match ps[n]? with
    | none => none
    | some p =>
      if p.up < 0 then some (mark ps n, q, -1) else
      match (mark ps n)[p.up.toNat]? with
      | none => none
      | some u =>
        if u.kind = 2 then (if p.onR then ended f (mark ps n) q p.up.toNat else some (mark ps n, q, (u.right : Int)))
        else match (mark ps n)[u.left]?, (mark ps n)[u.right]? with
          | some a, some b =>
            if a.done && b.done then ended f (mark ps n) q p.up.toNat
            else if p.onR then some (mark ps n, q, -1)
            else match q.getLast? with
              | some k => some (mark ps n, q.dropLast, (k : Int))
              | none => some (mark ps n, q, -1)
          | _, _ => none
def settle : Nat → List Part → List Nat → Int → Option (List Part × List Nat × Int)
  | 0, _, _, _ => none
  | f + 1, ps, q, a =>
    if a < 0 then some (ps, q, a) else
    match ps[a.toNat]? with
    | none => none
    | some p =>
      if p.kind = 1 then some (ps, q, a)
      else if p.kind = 3 then (if q.length < 1099511627776 then settle f ps (q ++ [p.right]) (p.left : Int) else none)
      else if p.kind = 2 then settle f ps q (p.left : Int)
      else match ended (f + 1) ps q a.toNat with
        | none => none
        | some (ps', q', a') => settle f ps' q' a'

theorem ended_more : ∀ (f : Nat) (ps : List Part) (q : List Nat) (n : Nat) (r), ended f ps q n = some r → ∀ g, f ≤ g → ended g ps q n = some r
  | 0, ps, q, n, r, h, g, hg => by simp [ended] at h
  | f + 1, ps, q, n, r, h, 0, hg => by omega
  | f + 1, ps, q, n, r, h, g + 1, hg => by
    have ih := fun q n r h => ended_more f (mark ps n) q n r h g (by omega)
    unfold ended at h ⊢
    split
    · rename_i e; rw [e] at h; exact h
    · rename_i p e
      rw [e] at h
      dsimp only at h
      split
      · rename_i h1; rw [if_pos h1] at h; exact h
      · rename_i h1
        rw [if_neg h1] at h
        split
        · rename_i e2; rw [e2] at h; exact h
        · rename_i u e2
          rw [e2] at h
          dsimp only at h
          split
          · rename_i h2
            rw [if_pos h2] at h
            split
            · rename_i h3; rw [if_pos h3] at h; exact ended_more f _ _ _ _ h g (by omega)
            · rename_i h3; rw [if_neg h3] at h; exact h
          · rename_i h2
            rw [if_neg h2] at h
            split
            · rename_i a b e3 e4
              rw [e3, e4] at h
              dsimp only at h
              split
              · rename_i h3; rw [if_pos h3] at h; exact ended_more f _ _ _ _ h g (by omega)
              · rename_i h3; rw [if_neg h3] at h; exact h
            · rename_i hno
              split at h
              · rename_i e3 e4; exact absurd e4 (by intro e4; exact hno _ _ e3 e4)
              · exact h
theorem settle_more : ∀ (f : Nat) (ps : List Part) (q : List Nat) (a : Int) (r), settle f ps q a = some r → ∀ g, f ≤ g → settle g ps q a = some r
  | 0, ps, q, a, r, h, g, hg => by simp [settle] at h
  | f + 1, ps, q, a, r, h, 0, hg => by omega
  | f + 1, ps, q, a, r, h, g + 1, hg => by
    unfold settle at h ⊢
    split
    · rename_i h1; rw [if_pos h1] at h; exact h
    · rename_i h1
      rw [if_neg h1] at h
      split
      · rename_i e; rw [e] at h; exact h
      · rename_i p e
        rw [e] at h
        dsimp only at h
        split
        · rename_i h2; rw [if_pos h2] at h; exact h
        · rename_i h2
          rw [if_neg h2] at h
          split
          · rename_i h3
            rw [if_pos h3] at h
            split
            · rename_i h4; rw [if_pos h4] at h; exact settle_more f _ _ _ _ h g (by omega)
            · rename_i h4; rw [if_neg h4] at h; cases h
          · rename_i h3
            rw [if_neg h3] at h
            split
            · rename_i h4; rw [if_pos h4] at h; exact settle_more f _ _ _ _ h g (by omega)
            · rename_i h4
              rw [if_neg h4] at h
              rcases he : ended (f + 1) ps q a.toNat with _ | ⟨ps', q', a'⟩
              · rw [he] at h; simp at h
              · rw [he] at h
                rw [ended_more _ _ _ _ _ he (g + 1) (by omega)]
                exact settle_more f _ _ _ _ h g (by omega)
end Go.Proofs.Ytcoijmnnnfogdaa.Stl


namespace Go.Proofs.Ytcoijmnnnfogdaa.Stl
set_option linter.unusedVariables false
set_option linter.unusedSimpArgs false
set_option maxRecDepth 100000
open Sp

/-- how far a term is done -/
inductive S where
  | fresh
  | done
  | at (w : Nat)
  | seqL (s : S)
  | seqR (s : S)
  | parQ (s : S)
  | parB (a b : S)
deriving DecidableEq

def S.isD : S → Bool
  | .done => true
  | _ => false
def S.sl : S → S
  | .done => .done
  | .seqL s => s
  | .seqR _ => .done
  | .parQ s => s
  | .parB a _ => a
  | _ => .fresh
def S.sr : S → S
  | .done => .done
  | .seqR s => s
  | .parB _ b => b
  | _ => .fresh
def hd (t : T) (s : S) (n m : Nat) (up : Int) (onR : Bool) : Part := match t with
  | .nil => ⟨0, -1, 0, 0, up, onR, s.isD⟩
  | .one _ _ _ => ⟨1, (m : Int), 0, 0, up, onR, s.isD⟩
  | .two par l _ => ⟨if par then 3 else 2, -1, n + 1, n + 1 + sz l, up, onR, s.isD⟩
/-- the parts of a term, so far done -/
def img : T → S → (n m : Nat) → (up : Int) → (onR : Bool) → List Part
  | .nil, s, n, m, up, onR => [hd .nil s n m up onR]
  | .one c b l, s, n, m, up, onR => [hd (.one c b l) s n m up onR]
  | .two par l r, s, n, m, up, onR => hd (.two par l r) s n m up onR :: (img l s.sl (n + 1) m n false ++ img r s.sr (n + 1 + sz l) (m + l.size) n true)
def tl : T → S → (n m : Nat) → List Part
  | .nil, _, _, _ => []
  | .one _ _ _, _, _, _ => []
  | .two _ l r, s, n, m => img l s.sl (n + 1) m n false ++ img r s.sr (n + 1 + sz l) (m + l.size) n true
theorem img_cons (t : T) (s : S) (n m : Nat) (up : Int) (onR : Bool) : img t s n m up onR = hd t s n m up onR :: tl t s n m := by cases t <;> rfl
theorem img_fresh : ∀ (t : T) (n m : Nat) (up : Int) (onR : Bool), img t .fresh n m up onR = partsOf t n m up onR
  | .nil, _, _, _, _ => rfl
  | .one _ _ _, _, _, _, _ => rfl
  | .two par l r, n, m, up, onR => by
    show _ :: (img l .fresh _ _ _ _ ++ img r .fresh _ _ _ _) = _
    rw [img_fresh l, img_fresh r]
    rfl
theorem img_length : ∀ (t : T) (s : S) (n m : Nat) (up : Int) (onR : Bool), (img t s n m up onR).length = sz t
  | .nil, _, _, _, _, _ => rfl
  | .one _ _ _, _, _, _, _, _ => rfl
  | .two par l r, s, n, m, up, onR => by simp [img, img_length l, img_length r, sz]; omega
/-- all done but itself -/
def imgU (t : T) (n m : Nat) (up : Int) (onR : Bool) : List Part := hd t .fresh n m up onR :: tl t .done n m

section
variable {pre post : List Part} {x : Part} {n : Nat}
theorem get_at (h : pre.length = n) : (pre ++ x :: post)[n]? = some x := by subst h; simp
theorem mark_at (h : pre.length = n) : mark (pre ++ x :: post) n = pre ++ { x with done := true } :: post := by
  unfold mark
  rw [get_at h]
  subst h
  simp
end
theorem hd_mark (t : T) (s : S) (n m : Nat) (up : Int) (onR : Bool) : { hd t s n m up onR with done := true } = hd t .done n m up onR := by cases t <;> rfl
theorem hd_up (t : T) (s : S) (n m : Nat) (up : Int) (onR : Bool) : (hd t s n m up onR).up = up := by cases t <;> rfl
theorem hd_onR (t : T) (s : S) (n m : Nat) (up : Int) (onR : Bool) : (hd t s n m up onR).onR = onR := by cases t <;> rfl
theorem hd_done (t : T) (s : S) (n m : Nat) (up : Int) (onR : Bool) : (hd t s n m up onR).done = s.isD := by cases t <;> rfl

/-! ### runs -/
abbrev Out := List Part × List Nat × Int
def Runs (ps : List Part) (q : List Nat) (a : Int) (r : Out) : Prop := ∃ f, settle f ps q a = some r
def EndRuns (ps : List Part) (q : List Nat) (n : Nat) (r : Out) : Prop := ∃ f ps' q' a', ended f ps q n = some (ps', q', a') ∧ Runs ps' q' a' r

theorem Runs.idle (ps : List Part) (q : List Nat) (a : Int) (h : a < 0) : Runs ps q a (ps, q, a) := ⟨1, by simp [settle, h]⟩
theorem Runs.leaf {ps : List Part} {q : List Nat} {n : Nat} {p : Part} (h : ps[n]? = some p) (hk : p.kind = 1) : Runs ps q n (ps, q, n) :=
  ⟨1, by simp [settle, h, hk]⟩
theorem Runs.par {ps : List Part} {q : List Nat} {n : Nat} {p : Part} {r : Out} (h : ps[n]? = some p) (hk : p.kind = 3) (hL : q.length < 1099511627776) (hr : Runs ps (q ++ [p.right]) p.left r) : Runs ps q n r := by
  obtain ⟨f, hf⟩ := hr
  exact ⟨f + 1, by unfold settle; rw [if_neg (by omega), Int.toNat_natCast, h]; simp [hk, hf, hL]⟩
theorem Runs.seq {ps : List Part} {q : List Nat} {n : Nat} {p : Part} {r : Out} (h : ps[n]? = some p) (hk : p.kind = 2) (hr : Runs ps q p.left r) : Runs ps q n r := by
  obtain ⟨f, hf⟩ := hr
  exact ⟨f + 1, by unfold settle; rw [if_neg (by omega), Int.toNat_natCast, h]; simp [hk, hf]⟩
theorem Runs.none_ {ps : List Part} {q : List Nat} {n : Nat} {p : Part} {r : Out} (h : ps[n]? = some p) (hk : p.kind = 0) (hr : EndRuns ps q n r) : Runs ps q n r := by
  obtain ⟨f, ps', q', a', he, g, hg⟩ := hr
  refine ⟨f + g + 1, ?_⟩
  unfold settle
  rw [if_neg (by omega), Int.toNat_natCast, h]
  simp only [hk, if_neg (show ¬ (0 = 1) by omega), if_neg (show ¬ (0 = 3) by omega), if_neg (show ¬ (0 = 2) by omega)]
  rw [ended_more _ _ _ _ _ he _ (by omega)]
  exact settle_more _ _ _ _ _ hg _ (by omega)

/-- a left one of a row has ended -/
theorem EndRuns.seqL {ps : List Part} {q : List Nat} {n k : Nat} {p u : Part} {r : Out} (h : ps[n]? = some p) (hu : p.up = (k : Int)) (hk : (mark ps n)[k]? = some u) (h2 : u.kind = 2) (hr : p.onR = false) (h' : Runs (mark ps n) q u.right r) : EndRuns ps q n r :=
  ⟨1, _, _, _, by simp [ended, h, hu, hk, h2, hr], h'⟩
theorem EndRuns.seqR {ps : List Part} {q : List Nat} {n k : Nat} {p u : Part} {r : Out} (h : ps[n]? = some p) (hu : p.up = (k : Int)) (hk : (mark ps n)[k]? = some u) (h2 : u.kind = 2) (hr : p.onR = true) (h' : EndRuns (mark ps n) q k r) : EndRuns ps q n r := by
  obtain ⟨f, ps', q', a', he, hr'⟩ := h'
  exact ⟨f + 1, ps', q', a', by unfold ended; simp [h, hu, hk, h2, hr, he]; omega, hr'⟩
theorem EndRuns.both {ps : List Part} {q : List Nat} {n k : Nat} {p u a b : Part} {r : Out} (h : ps[n]? = some p) (hu : p.up = (k : Int)) (hk : (mark ps n)[k]? = some u) (h2 : u.kind = 3) (ha : (mark ps n)[u.left]? = some a) (hb : (mark ps n)[u.right]? = some b) (da : a.done = true) (db : b.done = true) (h' : EndRuns (mark ps n) q k r) : EndRuns ps q n r := by
  obtain ⟨f, ps', q', a', he, hr'⟩ := h'
  exact ⟨f + 1, ps', q', a', by unfold ended; simp [h, hu, hk, h2, ha, hb, da, db, he]; omega, hr'⟩
theorem EndRuns.onR {ps : List Part} {q : List Nat} {n k : Nat} {p u a b : Part} (h : ps[n]? = some p) (hu : p.up = (k : Int)) (hk : (mark ps n)[k]? = some u) (h2 : u.kind = 3) (ha : (mark ps n)[u.left]? = some a) (hb : (mark ps n)[u.right]? = some b) (da : a.done = false) (hr : p.onR = true) : EndRuns ps q n (mark ps n, q, -1) :=
  ⟨1, mark ps n, q, -1, by simp [ended, h, hu, hk, h2, ha, hb, da, hr], Runs.idle _ _ _ (by decide)⟩
theorem EndRuns.pop {ps : List Part} {q : List Nat} {n k j : Nat} {p u a b : Part} {r : Out} (h : ps[n]? = some p) (hu : p.up = (k : Int)) (hk : (mark ps n)[k]? = some u) (h2 : u.kind = 3) (ha : (mark ps n)[u.left]? = some a) (hb : (mark ps n)[u.right]? = some b) (db : b.done = false) (hr : p.onR = false) (h' : Runs (mark ps n) q j r) : EndRuns ps (q ++ [j]) n r :=
  ⟨1, mark ps n, q, (j : Int), by simp [ended, h, hu, hk, h2, ha, hb, db, hr], h'⟩
theorem EndRuns.dry {ps : List Part} {n k : Nat} {p u a b : Part} (h : ps[n]? = some p) (hu : p.up = (k : Int)) (hk : (mark ps n)[k]? = some u) (h2 : u.kind = 3) (ha : (mark ps n)[u.left]? = some a) (hb : (mark ps n)[u.right]? = some b) (db : b.done = false) (hr : p.onR = false) : EndRuns ps [] n (mark ps n, [], -1) :=
  ⟨1, mark ps n, [], -1, by simp [ended, h, hu, hk, h2, ha, hb, db, hr], Runs.idle _ _ _ (by decide)⟩
theorem EndRuns.root {ps : List Part} {q : List Nat} {n : Nat} {p : Part} (h : ps[n]? = some p) (hu : p.up < 0) : EndRuns ps q n (mark ps n, q, -1) :=
  ⟨1, mark ps n, q, -1, by simp [ended, h, hu], Runs.idle _ _ _ (by decide)⟩

/-! ### the tree goes on -/
def start (w : Nat) : T → S
  | .nil => .done
  | .one _ _ _ => .at w
  | .two false l r => match start w l with
    | .done => (match start w r with | .done => .done | s => .seqR s)
    | s => .seqL s
  | .two true l r => match start w l with
    | .done => (match start w r with | .done => .done | s => .parB .done s)
    | s => .parQ s
def S.main : S → Option Nat
  | .at w => some w
  | .seqL s => s.main
  | .seqR s => s.main
  | .parQ s => s.main
  | .parB a b => if a = .done then b.main else none
  | _ => none
def S.ws : S → List Nat
  | .at w => [w]
  | .seqL s => s.ws
  | .seqR s => s.ws
  | .parQ s => s.ws
  | .parB a b => a.ws ++ b.ws
  | _ => []
def Act : T → S → Prop
  | .one _ _ _, .at _ => True
  | .two false l _, .seqL s => Act l s
  | .two false _ r, .seqR s => Act r s
  | .two true l _, .parQ s => Act l s ∧ s.main ≠ none
  | .two true l r, .parB a b => (a = .done ∨ Act l a) ∧ (b = .done ∨ Act r b) ∧ ¬ (a = .done ∧ b = .done)
  | _, _ => False
def loc : T → S → Nat → Nat → Nat
  | .one _ _ _, .at _, n, _ => n
  | .two _ l _, .seqL s, n, w => loc l s (n + 1) w
  | .two _ l r, .seqR s, n, w => loc r s (n + 1 + sz l) w
  | .two _ l _, .parQ s, n, w => loc l s (n + 1) w
  | .two _ l r, .parB a b, n, w => if w ∈ a.ws then loc l a (n + 1) w else loc r b (n + 1 + sz l) w
  | _, _, n, _ => n
def seg : T → S → Nat → Nat → List Nat
  | .two _ l _, .seqL s, n, w => seg l s (n + 1) w
  | .two _ l r, .seqR s, n, w => seg r s (n + 1 + sz l) w
  | .two _ l _, .parQ s, n, w => (n + 1 + sz l) :: seg l s (n + 1) w
  | .two _ l r, .parB a b, n, w => if w ∈ a.ws then seg l a (n + 1) w else seg r b (n + 1 + sz l) w
  | _, _, _, _ => []

theorem Act.not_done {t : T} {s : S} (h : Act t s) : s ≠ .done := by
  rintro rfl
  cases t with
  | nil => exact h
  | one _ _ _ => exact h
  | two par l r => cases par <;> exact h
theorem Act.isD {t : T} {s : S} (h : Act t s) : s.isD = false := by
  cases s with
  | done => exact absurd rfl h.not_done
  | _ => rfl

theorem start_seq (w : Nat) (l r : T) : start w (.two false l r) = if start w l = .done then (if start w r = .done then .done else .seqR (start w r)) else .seqL (start w l) := by
  show (match start w l with | .done => (match start w r with | .done => S.done | s => S.seqR s) | s => S.seqL s) = _
  rcases start w l <;> rcases start w r <;> rfl
theorem start_par (w : Nat) (l r : T) : start w (.two true l r) = if start w l = .done then (if start w r = .done then .done else .parB .done (start w r)) else .parQ (start w l) := by
  show (match start w l with | .done => (match start w r with | .done => S.done | s => S.parB .done s) | s => S.parQ s) = _
  rcases start w l <;> rcases start w r <;> rfl

/-- what is begun by one is his alone -/
theorem start_ok (w : Nat) : ∀ t : T, start w t = .done ∨ (Act t (start w t) ∧ (start w t).main = some w ∧ (start w t).ws = [w])
  | .nil => .inl rfl
  | .one _ _ _ => .inr ⟨trivial, rfl, rfl⟩
  | .two false l r => by
    rw [start_seq]
    rcases start_ok w l with hl | ⟨h1, h2, h3⟩
    · rw [if_pos hl]
      rcases start_ok w r with hr | ⟨h1, h2, h3⟩
      · rw [if_pos hr]; exact .inl rfl
      · rw [if_neg h1.not_done]; exact .inr ⟨h1, h2, h3⟩
    · rw [if_neg h1.not_done]; exact .inr ⟨h1, h2, h3⟩
  | .two true l r => by
    rw [start_par]
    rcases start_ok w l with hl | ⟨h1, h2, h3⟩
    · rw [if_pos hl]
      rcases start_ok w r with hr | ⟨h1, h2, h3⟩
      · rw [if_pos hr]; exact .inl rfl
      · rw [if_neg h1.not_done]; exact .inr ⟨⟨.inl rfl, .inr h1, fun h => h1.not_done h.2⟩, h2, h3⟩
    · rw [if_neg h1.not_done]; exact .inr ⟨⟨h1, by rw [h2]; simp⟩, h2, h3⟩

theorem in_two (pre post : List Part) (par : Bool) (l r : T) (s : S) (n m : Nat) (up : Int) (onR : Bool) :
    pre ++ img (.two par l r) s n m up onR ++ post = (pre ++ [hd (.two par l r) s n m up onR]) ++ img l s.sl (n + 1) m n false ++ (img r s.sr (n + 1 + sz l) (m + l.size) n true ++ post) := by
  rw [img]; simp
theorem in_two' (pre post : List Part) (par : Bool) (l r : T) (s : S) (n m : Nat) (up : Int) (onR : Bool) :
    pre ++ img (.two par l r) s n m up onR ++ post = (pre ++ hd (.two par l r) s n m up onR :: img l s.sl (n + 1) m n false) ++ img r s.sr (n + 1 + sz l) (m + l.size) n true ++ post := by
  rw [img]; simp

theorem end_at {pre post : List Part} {t : T} {n m : Nat} {up : Int} {onR : Bool} (h : pre.length = n) : (pre ++ imgU t n m up onR ++ post)[n]? = some (hd t .fresh n m up onR) ∧ mark (pre ++ imgU t n m up onR ++ post) n = pre ++ img t .done n m up onR ++ post := by
  have e : pre ++ imgU t n m up onR ++ post = pre ++ hd t .fresh n m up onR :: (tl t .done n m ++ post) := by simp [imgU]
  rw [e, get_at h, mark_at h, hd_mark, img_cons]
  simp
theorem imgU_two (par : Bool) (l r : T) (n m : Nat) (up : Int) (onR : Bool) : imgU (.two par l r) n m up onR = hd (.two par l r) .fresh n m up onR :: (img l .done (n + 1) m n false ++ img r .done (n + 1 + sz l) (m + l.size) n true) := rfl
theorem hd_two (par : Bool) (l r : T) (s s' : S) (h : s.isD = s'.isD) (n m : Nat) (up : Int) (onR : Bool) : hd (.two par l r) s n m up onR = hd (.two par l r) s' n m up onR := by
  simp [hd, h]
theorem img_head {pre post : List Part} {t : T} {s : S} {n m : Nat} {up : Int} {onR : Bool} (h : pre.length = n) : (pre ++ img t s n m up onR ++ post)[n]? = some (hd t s n m up onR) := by
  rw [img_cons, show pre ++ hd t s n m up onR :: tl t s n m ++ post = pre ++ hd t s n m up onR :: (tl t s n m ++ post) by simp, get_at h]

/-- a term is begun -/
theorem start_runs (w : Nat) : ∀ (t : T) (n m : Nat) (up : Int) (onR : Bool) (pre post : List Part) (q : List Nat), pre.length = n → q.length + sz t ≤ 1099511627776 →
    (start w t ≠ .done → Runs (pre ++ img t .fresh n m up onR ++ post) q n (pre ++ img t (start w t) n m up onR ++ post, q ++ seg t (start w t) n w, (loc t (start w t) n w : Int))) ∧
    (start w t = .done → ∀ r, EndRuns (pre ++ imgU t n m up onR ++ post) q n r → Runs (pre ++ img t .fresh n m up onR ++ post) q n r)
  | .nil, n, m, up, onR, pre, post, q, h, hL => ⟨fun h => absurd rfl h, fun _ r hr => Runs.none_ (img_head h) rfl hr⟩
  | .one c b lb, n, m, up, onR, pre, post, q, h, hL => ⟨fun _ => by
      have := Runs.leaf (q := q) (img_head (pre := pre) (post := post) (t := .one c b lb) (s := .fresh) (m := m) (up := up) (onR := onR) h) rfl
      simpa [start, seg, loc, img, hd, S.isD] using this, fun h => by cases h⟩
  | .two false l r, n, m, up, onR, pre, post, q, h, hL => by
    rw [sz] at hL
    have hl : (pre ++ [hd (.two false l r) .fresh n m up onR]).length = n + 1 := by simp [h]
    have hr : (pre ++ hd (.two false l r) .fresh n m up onR :: img l .done (n + 1) m n false).length = n + 1 + sz l := by simp [h, img_length]; omega
    have IL := start_runs w l (n + 1) m n false _ (img r .fresh (n + 1 + sz l) (m + l.size) n true ++ post) q hl (by omega)
    have IR := start_runs w r (n + 1 + sz l) (m + l.size) n true _ post q hr (by omega)
    have go : ∀ o, Runs (pre ++ [hd (.two false l r) .fresh n m up onR] ++ img l .fresh (n + 1) m n false ++ (img r .fresh (n + 1 + sz l) (m + l.size) n true ++ post)) q (n + 1 : Nat) o → Runs (pre ++ img (.two false l r) .fresh n m up onR ++ post) q n o := fun o ho => by
      refine Runs.seq (img_head h) rfl ?_
      rw [in_two]
      exact ho
    have step : start w l = .done → ∀ o, Runs (pre ++ hd (.two false l r) .fresh n m up onR :: img l .done (n + 1) m n false ++ img r .fresh (n + 1 + sz l) (m + l.size) n true ++ post) q (n + 1 + sz l : Nat) o → Runs (pre ++ img (.two false l r) .fresh n m up onR ++ post) q n o := fun e o ho => by
      refine go o (IL.2 e o ?_)
      obtain ⟨e1, e2⟩ := end_at (post := img r .fresh (n + 1 + sz l) (m + l.size) n true ++ post) (t := l) (m := m) (up := (n : Int)) (onR := false) hl
      refine EndRuns.seqL (k := n) (u := hd (.two false l r) .fresh n m up onR) e1 (hd_up _ _ _ _ _ _) ?_ rfl (hd_onR _ _ _ _ _ _) ?_
      · rw [e2]; simp [← h]
      · rw [e2]; simpa [hd] using ho
    rw [start_seq]
    by_cases el : start w l = .done
    · rw [if_pos el]
      by_cases er : start w r = .done
      · rw [if_pos er]
        refine ⟨fun h => absurd rfl h, fun _ o ho => step el o (IR.2 er o ?_)⟩
        obtain ⟨e1, e2⟩ := end_at (post := post) (t := r) (m := m + l.size) (up := (n : Int)) (onR := true) hr
        refine EndRuns.seqR (k := n) (u := hd (.two false l r) .fresh n m up onR) e1 (hd_up _ _ _ _ _ _) ?_ rfl (hd_onR _ _ _ _ _ _) ?_
        · rw [e2]; simp [← h]
        · rw [e2]; rw [imgU_two] at ho; simpa using ho
      · rw [if_neg er]
        refine ⟨fun _ => step el _ ?_, fun h => by cases h⟩
        have := IR.1 er
        rw [in_two']
        exact this
    · rw [if_neg el]
      refine ⟨fun _ => go _ ?_, fun h => by cases h⟩
      have := IL.1 el
      rw [in_two]
      exact this
  | .two true l r, n, m, up, onR, pre, post, q, h, hL => by
    rw [sz] at hL
    have hl : (pre ++ [hd (.two true l r) .fresh n m up onR]).length = n + 1 := by simp [h]
    have hr : (pre ++ hd (.two true l r) .fresh n m up onR :: img l .done (n + 1) m n false).length = n + 1 + sz l := by simp [h, img_length]; omega
    have IL := start_runs w l (n + 1) m n false _ (img r .fresh (n + 1 + sz l) (m + l.size) n true ++ post) (q ++ [n + 1 + sz l]) hl (by rw [List.length_append, List.length_singleton]; omega)
    have IR := start_runs w r (n + 1 + sz l) (m + l.size) n true _ post q hr (by omega)
    have go : ∀ o, Runs (pre ++ [hd (.two true l r) .fresh n m up onR] ++ img l .fresh (n + 1) m n false ++ (img r .fresh (n + 1 + sz l) (m + l.size) n true ++ post)) (q ++ [n + 1 + sz l]) (n + 1 : Nat) o → Runs (pre ++ img (.two true l r) .fresh n m up onR ++ post) q n o := fun o ho => by
      refine Runs.par (img_head h) rfl (by omega) ?_
      rw [in_two]
      exact ho
    have step : start w l = .done → ∀ o, Runs (pre ++ hd (.two true l r) .fresh n m up onR :: img l .done (n + 1) m n false ++ img r .fresh (n + 1 + sz l) (m + l.size) n true ++ post) q (n + 1 + sz l : Nat) o → Runs (pre ++ img (.two true l r) .fresh n m up onR ++ post) q n o := fun e o ho => by
      refine go o (IL.2 e o ?_)
      obtain ⟨e1, e2⟩ := end_at (post := img r .fresh (n + 1 + sz l) (m + l.size) n true ++ post) (t := l) (m := m) (up := (n : Int)) (onR := false) hl
      refine EndRuns.pop (k := n) (u := hd (.two true l r) .fresh n m up onR) (a := hd l .done (n + 1) m n false) (b := hd r .fresh (n + 1 + sz l) (m + l.size) n true) e1 (hd_up _ _ _ _ _ _) ?_ rfl ?_ ?_ (hd_done _ _ _ _ _ _) (hd_onR _ _ _ _ _ _) ?_
      · rw [e2]; simp [← h]
      · rw [e2]; exact img_head hl
      · rw [e2]
        have := img_head (post := post) (t := r) (s := .fresh) (m := m + l.size) (up := (n : Int)) (onR := true) hr
        show _[n + 1 + sz l]? = _
        simpa using this
      · rw [e2]; simpa using ho
    rw [start_par]
    by_cases el : start w l = .done
    · rw [if_pos el]
      by_cases er : start w r = .done
      · rw [if_pos er]
        refine ⟨fun h => absurd rfl h, fun _ o ho => step el o (IR.2 er o ?_)⟩
        obtain ⟨e1, e2⟩ := end_at (post := post) (t := r) (m := m + l.size) (up := (n : Int)) (onR := true) hr
        refine EndRuns.both (k := n) (u := hd (.two true l r) .fresh n m up onR) (a := hd l .done (n + 1) m n false) (b := hd r .done (n + 1 + sz l) (m + l.size) n true) e1 (hd_up _ _ _ _ _ _) ?_ rfl ?_ ?_ (hd_done _ _ _ _ _ _) (hd_done _ _ _ _ _ _) ?_
        · rw [e2]; simp [← h]
        · rw [e2]
          have := img_head (post := img r .done (n + 1 + sz l) (m + l.size) n true ++ post) (t := l) (s := .done) (m := m) (up := (n : Int)) (onR := false) hl
          show _[n + 1]? = _
          simpa using this
        · rw [e2]; exact img_head hr
        · rw [e2]; rw [imgU_two] at ho; simpa using ho
      · rw [if_neg er]
        refine ⟨fun _ => step el _ ?_, fun h => by cases h⟩
        have := IR.1 er
        rw [in_two']
        simpa [seg, loc, S.ws, S.sl, S.sr, hd, S.isD] using this
    · rw [if_neg el]
      refine ⟨fun _ => go _ ?_, fun h => by cases h⟩
      have := IL.1 el
      rw [in_two]
      simpa [seg, loc, S.sl, S.sr, hd, S.isD] using this
end Go.Proofs.Ytcoijmnnnfogdaa.Stl


namespace Go.Proofs.Ytcoijmnnnfogdaa.Stl
set_option linter.unusedVariables false
set_option linter.unusedSimpArgs false
set_option maxRecDepth 100000
open Sp

def fin (w : Nat) : T → S → S
  | .one _ _ _, .at _ => .done
  | .two _ l r, .seqL s => if fin w l s = .done then (if start w r = .done then .done else .seqR (start w r)) else .seqL (fin w l s)
  | .two _ _ r, .seqR s => if fin w r s = .done then .done else .seqR (fin w r s)
  | .two _ l r, .parQ s => if fin w l s = .done then (if start w r = .done then .done else .parB .done (start w r)) else .parQ (fin w l s)
  | .two _ l r, .parB a b => if w ∈ a.ws then (if fin w l a = .done then (if b = .done then .done else .parB .done b) else .parB (fin w l a) b)
      else (if fin w r b = .done then (if a = .done then .done else .parB a .done) else .parB a (fin w r b))
  | _, s => s

theorem Act.seqL {l r : T} {s : S} (h : Act (.two false l r) (.seqL s)) : Act l s := h
theorem Act.seqR {l r : T} {s : S} (h : Act (.two false l r) (.seqR s)) : Act r s := h

/-- who has it all is alone in it -/
theorem main_only : ∀ (t : T) (s : S) (v : Nat), Act t s → s.main = some v → s.ws = [v]
  | .nil, s, v, h, _ => h.elim
  | .one _ _ _, s, v, h, hm => by
    cases s with
    | «at» w => simp only [S.main, Option.some.injEq] at hm; rw [hm]; rfl
    | _ => exact h.elim
  | .two false l r, s, v, h, hm => by
    cases s with
    | seqL s => exact main_only l s v h hm
    | seqR s => exact main_only r s v h hm
    | _ => exact h.elim
  | .two true l r, s, v, h, hm => by
    cases s with
    | parQ s => exact main_only l s v h.1 hm
    | parB a b =>
      obtain ⟨h1, h2, h3⟩ := h
      by_cases ha : a = .done
      · subst ha
        simp only [S.main, if_true] at hm
        rcases h2 with rfl | h2
        · exact absurd ⟨rfl, rfl⟩ h3
        · exact main_only r b v h2 hm
      · simp [S.main, ha] at hm
    | _ => exact h.elim

theorem act_ws : ∀ (t : T) (s : S), Act t s → s.ws ≠ []
  | .nil, s, h => h.elim
  | .one _ _ _, s, h => by
    cases s with
    | «at» w => simp [S.ws]
    | _ => exact h.elim
  | .two false l r, s, h => by
    cases s with
    | seqL s => exact act_ws l s h
    | seqR s => exact act_ws r s h
    | _ => exact h.elim
  | .two true l r, s, h => by
    cases s with
    | parQ s => exact act_ws l s h.1
    | parB a b =>
      obtain ⟨h1, h2, h3⟩ := h
      rcases h1 with rfl | h1
      · rcases h2 with rfl | h2
        · exact absurd ⟨rfl, rfl⟩ h3
        · have := act_ws r b h2; simpa [S.ws] using this
      · have := act_ws l a h1
        simp only [S.ws, ne_eq, List.append_eq_nil_iff]
        exact fun h => this h.1
    | _ => exact h.elim

structure FinOK (w : Nat) (t : T) (s : S) : Prop where
  act : fin w t s ≠ .done → Act t (fin w t s)
  sub : ∀ v ∈ (fin w t s).ws, v ∈ s.ws
  nodup : (fin w t s).ws.Nodup
  others : ∀ v ∈ s.ws, v ≠ w → v ∈ (fin w t s).ws
  same : ∀ n, ∀ v ∈ s.ws, v ≠ w → loc t (fin w t s) n v = loc t s n v ∧ seg t (fin w t s) n v = seg t s n v
  main : s.main = some w → fin w t s ≠ .done → (fin w t s).main = some w

theorem nodup_two {a b : List Nat} (h : (a ++ b).Nodup) : a.Nodup ∧ b.Nodup ∧ ∀ x ∈ a, x ∉ b := by
  rw [List.nodup_append] at h
  exact ⟨h.1, h.2.1, fun x hx hy => h.2.2 x hx x hy rfl⟩

theorem fin_ok (w : Nat) : ∀ (t : T) (s : S), Act t s → w ∈ s.ws → s.ws.Nodup → FinOK w t s
  | .nil, s, h, _, _ => h.elim
  | .one c b lb, s, h, hw, hd => by
    cases s with
    | «at» v =>
      have e : fin w (.one c b lb) (.at v) = .done := rfl
      have hv : w = v := by simpa [S.ws] using hw
      exact ⟨fun h => absurd e h, by rw [e]; simp [S.ws], by rw [e]; simp [S.ws], fun u hu hne => by simp [S.ws] at hu; omega, fun n u hu hne => by simp [S.ws] at hu; omega, fun _ h => absurd e h⟩
    | _ => exact h.elim
  | .two false l r, s, h, hw, hd => by
    cases s with
    | seqL s =>
      obtain ⟨f1, f2, f3, f4, f5, f6⟩ := fin_ok w l s h hw hd
      by_cases e : fin w l s = .done
      · have honly : ∀ v ∈ s.ws, v = w := fun v hv => Classical.byContradiction fun hne => by
          have := f4 v hv hne
          rw [e] at this
          cases this
        by_cases er : start w r = .done
        · have E : fin w (.two false l r) (.seqL s) = .done := by simp [fin, e, er]
          exact ⟨fun h => absurd E h, by rw [E]; simp [S.ws], by rw [E]; simp [S.ws], fun u hu hne => absurd (honly u hu) hne, fun n u hu hne => absurd (honly u hu) hne, fun _ h => absurd E h⟩
        · have E : fin w (.two false l r) (.seqL s) = .seqR (start w r) := by simp [fin, e, er]
          obtain ⟨g1, g2, g3⟩ := (start_ok w r).resolve_left er
          refine ⟨fun _ => by rw [E]; exact g1, ?_, ?_, fun u hu hne => absurd (honly u hu) hne, fun n u hu hne => absurd (honly u hu) hne, fun _ _ => by rw [E]; exact g2⟩
          · rw [E]; show ∀ v ∈ (start w r).ws, _; rw [g3]; intro v hv; simp at hv; rw [hv]; exact hw
          · rw [E]; show (start w r).ws.Nodup; rw [g3]; simp
      · have E : fin w (.two false l r) (.seqL s) = .seqL (fin w l s) := by simp [fin, e]
        refine ⟨fun _ => by rw [E]; exact f1 e, by rw [E]; exact f2, by rw [E]; exact f3, by rw [E]; exact f4, by rw [E]; exact fun n => f5 (n + 1), fun hm _ => by rw [E]; exact f6 hm e⟩
    | seqR s =>
      obtain ⟨f1, f2, f3, f4, f5, f6⟩ := fin_ok w r s h hw hd
      by_cases e : fin w r s = .done
      · have honly : ∀ v ∈ s.ws, v = w := fun v hv => Classical.byContradiction fun hne => by
          have := f4 v hv hne
          rw [e] at this
          cases this
        have E : fin w (.two false l r) (.seqR s) = .done := by simp [fin, e]
        exact ⟨fun h => absurd E h, by rw [E]; simp [S.ws], by rw [E]; simp [S.ws], fun u hu hne => absurd (honly u hu) hne, fun n u hu hne => absurd (honly u hu) hne, fun _ h => absurd E h⟩
      · have E : fin w (.two false l r) (.seqR s) = .seqR (fin w r s) := by simp [fin, e]
        refine ⟨fun _ => by rw [E]; exact f1 e, by rw [E]; exact f2, by rw [E]; exact f3, by rw [E]; exact f4, by rw [E]; exact fun n => f5 _, fun hm _ => by rw [E]; exact f6 hm e⟩
    | _ => exact h.elim
  | .two true l r, s, h, hw, hd => by
    cases s with
    | parQ s =>
      obtain ⟨f1, f2, f3, f4, f5, f6⟩ := fin_ok w l s h.1 hw hd
      have hmain : s.main = some w := by
        rcases hm : s.main with _ | v
        · exact absurd hm h.2
        · have := main_only l s v h.1 hm
          rw [S.ws, this] at hw
          rw [List.mem_singleton.1 hw]
      by_cases e : fin w l s = .done
      · have honly : ∀ v ∈ s.ws, v = w := fun v hv => Classical.byContradiction fun hne => by
          have := f4 v hv hne
          rw [e] at this
          cases this
        by_cases er : start w r = .done
        · have E : fin w (.two true l r) (.parQ s) = .done := by simp [fin, e, er]
          exact ⟨fun h => absurd E h, by rw [E]; simp [S.ws], by rw [E]; simp [S.ws], fun u hu hne => absurd (honly u hu) hne, fun n u hu hne => absurd (honly u hu) hne, fun _ h => absurd E h⟩
        · have E : fin w (.two true l r) (.parQ s) = .parB .done (start w r) := by simp [fin, e, er]
          obtain ⟨g1, g2, g3⟩ := (start_ok w r).resolve_left er
          refine ⟨fun _ => by rw [E]; exact ⟨.inl rfl, .inr g1, fun h => er h.2⟩, ?_, ?_, fun u hu hne => absurd (honly u hu) hne, fun n u hu hne => absurd (honly u hu) hne, fun _ _ => by rw [E]; exact g2⟩
          · rw [E]; show ∀ v ∈ [] ++ (start w r).ws, _; rw [g3]; intro v hv; simp at hv; rw [hv]; exact hw
          · rw [E]; show ([] ++ (start w r).ws).Nodup; rw [g3]; simp
      · have E : fin w (.two true l r) (.parQ s) = .parQ (fin w l s) := by simp [fin, e]
        refine ⟨fun _ => by rw [E]; exact ⟨f1 e, by rw [f6 hmain e]; simp⟩, by rw [E]; exact f2, by rw [E]; exact f3, by rw [E]; exact f4, by rw [E]; exact fun n u hu hne => ⟨(f5 (n + 1) u hu hne).1, by show (_ :: _) = _ :: _; rw [(f5 (n + 1) u hu hne).2]⟩, fun hm _ => by rw [E]; exact f6 hm e⟩
    | parB a b =>
      obtain ⟨h1, h2, h3⟩ := h
      obtain ⟨da, db, dab⟩ := nodup_two hd
      have hcl : ∀ (a' b' : S) (n v : Nat), loc (.two true l r) (.parB a' b') n v = if v ∈ a'.ws then loc l a' (n + 1) v else loc r b' (n + 1 + sz l) v := fun _ _ _ _ => rfl
      have hcs : ∀ (a' b' : S) (n v : Nat), seg (.two true l r) (.parB a' b') n v = if v ∈ a'.ws then seg l a' (n + 1) v else seg r b' (n + 1 + sz l) v := fun _ _ _ _ => rfl
      by_cases hwa : w ∈ a.ws
      · have ha : Act l a := h1.resolve_left (fun e => by rw [e] at hwa; cases hwa)
        obtain ⟨f1, f2, f3, f4, f5, f6⟩ := fin_ok w l a ha hwa da
        have hmn : (S.parB a b).main = none := by simp [S.main, ha.not_done]
        by_cases e : fin w l a = .done
        · have honly : ∀ v ∈ a.ws, v = w := fun v hv => Classical.byContradiction fun hne => by
            have := f4 v hv hne
            rw [e] at this
            cases this
          by_cases eb : b = .done
          · have E : fin w (.two true l r) (.parB a b) = .done := by simp [fin, hwa, e, eb]
            have hall : ∀ v ∈ (S.parB a b).ws, v = w := fun v hv => by
              rcases List.mem_append.1 hv with hv | hv
              · exact honly v hv
              · rw [eb] at hv; cases hv
            exact ⟨fun h => absurd E h, by rw [E]; simp [S.ws], by rw [E]; simp [S.ws], fun u hu hne => absurd (hall u hu) hne, fun n u hu hne => absurd (hall u hu) hne, fun _ h => absurd E h⟩
          · have E : fin w (.two true l r) (.parB a b) = .parB .done b := by simp [fin, hwa, e, eb]
            refine ⟨fun _ => by rw [E]; exact ⟨.inl rfl, h2, fun h => eb h.2⟩, ?_, ?_, ?_, ?_, fun h => by rw [hmn] at h; cases h⟩
            · rw [E]; intro v hv; exact List.mem_append_right _ (by simpa [S.ws] using hv)
            · rw [E]; simpa [S.ws] using db
            · rw [E]; intro v hv hne
              rcases List.mem_append.1 hv with hv | hv
              · exact absurd (honly v hv) hne
              · simpa [S.ws] using hv
            · rw [E]; intro n v hv hne
              have hva : v ∉ a.ws := fun h => hne (honly v h)
              rw [hcl, hcl, hcs, hcs, if_neg hva, if_neg hva]
              simp [S.ws]
        · have E : fin w (.two true l r) (.parB a b) = .parB (fin w l a) b := by simp [fin, hwa, e]
          refine ⟨fun _ => by rw [E]; exact ⟨.inr (f1 e), h2, fun h => e h.1⟩, ?_, ?_, ?_, ?_, fun h => by rw [hmn] at h; cases h⟩
          · rw [E]; intro v hv
            rcases List.mem_append.1 hv with hv | hv
            · exact List.mem_append_left _ (f2 v hv)
            · exact List.mem_append_right _ hv
          · rw [E]; exact List.nodup_append.2 ⟨f3, db, fun x hx y hy exy => dab x (f2 x hx) (by rw [exy]; exact hy)⟩
          · rw [E]; intro v hv hne
            rcases List.mem_append.1 hv with hv | hv
            · exact List.mem_append_left _ (f4 v hv hne)
            · exact List.mem_append_right _ hv
          · rw [E]; intro n v hv hne
            rw [hcl, hcl, hcs, hcs]
            by_cases hva : v ∈ a.ws
            · rw [if_pos hva, if_pos (f4 v hva hne), if_pos hva, if_pos (f4 v hva hne)]
              exact f5 (n + 1) v hva hne
            · rw [if_neg hva, if_neg (fun h => hva (f2 v h)), if_neg hva, if_neg (fun h => hva (f2 v h))]
              exact ⟨rfl, rfl⟩
      · have hwb : w ∈ b.ws := (List.mem_append.1 hw).resolve_left hwa
        have hb : Act r b := h2.resolve_left (fun e => by rw [e] at hwb; cases hwb)
        obtain ⟨f1, f2, f3, f4, f5, f6⟩ := fin_ok w r b hb hwb db
        by_cases e : fin w r b = .done
        · have honly : ∀ v ∈ b.ws, v = w := fun v hv => Classical.byContradiction fun hne => by
            have := f4 v hv hne
            rw [e] at this
            cases this
          by_cases ea : a = .done
          · have E : fin w (.two true l r) (.parB a b) = .done := by simp [fin, e, ea, S.ws]
            have hall : ∀ v ∈ (S.parB a b).ws, v = w := fun v hv => by
              rcases List.mem_append.1 hv with hv | hv
              · rw [ea] at hv; cases hv
              · exact honly v hv
            exact ⟨fun h => absurd E h, by rw [E]; simp [S.ws], by rw [E]; simp [S.ws], fun u hu hne => absurd (hall u hu) hne, fun n u hu hne => absurd (hall u hu) hne, fun _ h => absurd E h⟩
          · have E : fin w (.two true l r) (.parB a b) = .parB a .done := by simp [fin, hwa, e, ea]
            refine ⟨fun _ => by rw [E]; exact ⟨h1, .inl rfl, fun h => ea h.1⟩, ?_, ?_, ?_, ?_, fun h => by simp [S.main, ea] at h⟩
            · rw [E]; intro v hv; exact List.mem_append_left _ (by simpa [S.ws] using hv)
            · rw [E]; simpa [S.ws] using da
            · rw [E]; intro v hv hne
              rcases List.mem_append.1 hv with hv | hv
              · simpa [S.ws] using hv
              · exact absurd (honly v hv) hne
            · rw [E]; intro n v hv hne
              have hva : v ∈ a.ws := (List.mem_append.1 hv).resolve_right fun h => hne (honly v h)
              rw [hcl, hcl, hcs, hcs, if_pos hva, if_pos hva, if_pos hva, if_pos hva]
              exact ⟨rfl, rfl⟩
        · have E : fin w (.two true l r) (.parB a b) = .parB a (fin w r b) := by simp [fin, hwa, e]
          refine ⟨fun _ => by rw [E]; exact ⟨h1, .inr (f1 e), fun h => e h.2⟩, ?_, ?_, ?_, ?_, ?_⟩
          · rw [E]; intro v hv
            rcases List.mem_append.1 hv with hv | hv
            · exact List.mem_append_left _ hv
            · exact List.mem_append_right _ (f2 v hv)
          · rw [E]; exact List.nodup_append.2 ⟨da, f3, fun x hx y hy exy => dab x hx (f2 x (by rw [exy]; exact hy))⟩
          · rw [E]; intro v hv hne
            rcases List.mem_append.1 hv with hv | hv
            · exact List.mem_append_left _ hv
            · exact List.mem_append_right _ (f4 v hv hne)
          · rw [E]; intro n v hv hne
            rw [hcl, hcl, hcs, hcs]
            by_cases hva : v ∈ a.ws
            · rw [if_pos hva, if_pos hva, if_pos hva, if_pos hva]; exact ⟨rfl, rfl⟩
            · rw [if_neg hva, if_neg hva, if_neg hva, if_neg hva]
              exact f5 _ v ((List.mem_append.1 hv).resolve_left hva) hne
          · intro hm _
            rw [E]
            by_cases ea : a = .done
            · subst ea
              simp only [S.main, if_true] at hm ⊢
              exact f6 hm e
            · simp [S.main, ea] at hm
    | _ => exact h.elim
end Go.Proofs.Ytcoijmnnnfogdaa.Stl


namespace Go.Proofs.Ytcoijmnnnfogdaa.Stl
set_option linter.unusedVariables false
set_option linter.unusedSimpArgs false
set_option maxRecDepth 100000
open Sp

section
variable {pre post : List Part} {n m : Nat} {l r : T} {x : Part}
/-- both kids' parts -/
abbrev duo (pre post : List Part) (x : Part) (l r : T) (a b : S) (n m : Nat) : List Part := pre ++ x :: img l a (n + 1) m n false ++ img r b (n + 1 + sz l) (m + l.size) n true ++ post
theorem duo_l (a b : S) : duo pre post x l r a b n m = (pre ++ [x]) ++ img l a (n + 1) m n false ++ (img r b (n + 1 + sz l) (m + l.size) n true ++ post) := by simp [duo]
theorem len_l (h : pre.length = n) : (pre ++ [x]).length = n + 1 := by simp [h]
theorem len_r (h : pre.length = n) (a : S) : (pre ++ x :: img l a (n + 1) m n false).length = n + 1 + sz l := by simp [h, img_length]; omega
theorem duo_at (h : pre.length = n) (a b : S) : (duo pre post x l r a b n m)[n]? = some x ∧ (duo pre post x l r a b n m)[n + 1]? = some (hd l a (n + 1) m n false) ∧ (duo pre post x l r a b n m)[n + 1 + sz l]? = some (hd r b (n + 1 + sz l) (m + l.size) n true) := by
  refine ⟨?_, ?_, img_head (len_r h a)⟩
  · simp [duo, ← h]
  · rw [duo_l]; exact img_head (len_l h)
theorem endL (h : pre.length = n) (b : S) : ((pre ++ [x]) ++ imgU l (n + 1) m n false ++ (img r b (n + 1 + sz l) (m + l.size) n true ++ post))[n + 1]? = some (hd l .fresh (n + 1) m n false) ∧
    mark ((pre ++ [x]) ++ imgU l (n + 1) m n false ++ (img r b (n + 1 + sz l) (m + l.size) n true ++ post)) (n + 1) = duo pre post x l r .done b n m := by
  obtain ⟨e1, e2⟩ := end_at (post := img r b (n + 1 + sz l) (m + l.size) n true ++ post) (t := l) (m := m) (up := (n : Int)) (onR := false) (len_l (x := x) h)
  exact ⟨e1, by rw [e2, duo_l]⟩
theorem endR (h : pre.length = n) (a : S) : ((pre ++ x :: img l a (n + 1) m n false) ++ imgU r (n + 1 + sz l) (m + l.size) n true ++ post)[n + 1 + sz l]? = some (hd r .fresh (n + 1 + sz l) (m + l.size) n true) ∧
    mark ((pre ++ x :: img l a (n + 1) m n false) ++ imgU r (n + 1 + sz l) (m + l.size) n true ++ post) (n + 1 + sz l) = duo pre post x l r a .done n m :=
  end_at (post := post) (t := r) (m := m + l.size) (up := (n : Int)) (onR := true) (len_r (x := x) h a)

variable {q : List Nat} {o : Out}
theorem stepSeqL (h : pre.length = n) (h2 : x.kind = 2) (hr : x.right = n + 1 + sz l) {b : S} (ho : Runs (duo pre post x l r .done b n m) q (n + 1 + sz l : Nat) o) :
    EndRuns ((pre ++ [x]) ++ imgU l (n + 1) m n false ++ (img r b (n + 1 + sz l) (m + l.size) n true ++ post)) q (n + 1) o := by
  obtain ⟨e1, e2⟩ := endL (x := x) (l := l) (r := r) (m := m) (post := post) h b
  exact EndRuns.seqL (k := n) (u := x) e1 (hd_up _ _ _ _ _ _) (by rw [e2]; exact (duo_at h _ _).1) h2 (hd_onR _ _ _ _ _ _) (by rw [e2, hr]; exact ho)
theorem stepSeqR (h : pre.length = n) (h2 : x.kind = 2) {a : S} (ho : EndRuns (duo pre post x l r a .done n m) q n o) :
    EndRuns ((pre ++ x :: img l a (n + 1) m n false) ++ imgU r (n + 1 + sz l) (m + l.size) n true ++ post) q (n + 1 + sz l) o := by
  obtain ⟨e1, e2⟩ := endR (x := x) (l := l) (r := r) (m := m) (post := post) h a
  exact EndRuns.seqR (k := n) (u := x) e1 (hd_up _ _ _ _ _ _) (by rw [e2]; exact (duo_at h _ _).1) h2 (hd_onR _ _ _ _ _ _) (by rw [e2]; exact ho)
theorem stepPop (h : pre.length = n) (h3 : x.kind = 3) (hl : x.left = n + 1) (hr : x.right = n + 1 + sz l) {b : S} (hb : b.isD = false) (ho : Runs (duo pre post x l r .done b n m) q (n + 1 + sz l : Nat) o) :
    EndRuns ((pre ++ [x]) ++ imgU l (n + 1) m n false ++ (img r b (n + 1 + sz l) (m + l.size) n true ++ post)) (q ++ [n + 1 + sz l]) (n + 1) o := by
  obtain ⟨e1, e2⟩ := endL (x := x) (l := l) (r := r) (m := m) (post := post) h b
  obtain ⟨a1, a2, a3⟩ := duo_at (x := x) (l := l) (r := r) (m := m) (post := post) h .done b
  exact EndRuns.pop (k := n) (u := x) e1 (hd_up _ _ _ _ _ _) (by rw [e2]; exact a1) h3 (by rw [e2, hl]; exact a2) (by rw [e2, hr]; exact a3) ((hd_done _ _ _ _ _ _).trans hb) (hd_onR _ _ _ _ _ _) (by rw [e2]; exact ho)
theorem stepDry (h : pre.length = n) (h3 : x.kind = 3) (hl : x.left = n + 1) (hr : x.right = n + 1 + sz l) {b : S} (hb : b.isD = false) :
    EndRuns ((pre ++ [x]) ++ imgU l (n + 1) m n false ++ (img r b (n + 1 + sz l) (m + l.size) n true ++ post)) [] (n + 1) (duo pre post x l r .done b n m, [], -1) := by
  obtain ⟨e1, e2⟩ := endL (x := x) (l := l) (r := r) (m := m) (post := post) h b
  obtain ⟨a1, a2, a3⟩ := duo_at (x := x) (l := l) (r := r) (m := m) (post := post) h .done b
  have := EndRuns.dry (k := n) (u := x) e1 (hd_up _ _ _ _ _ _) (by rw [e2]; exact a1) h3 (by rw [e2, hl]; exact a2) (by rw [e2, hr]; exact a3) ((hd_done _ _ _ _ _ _).trans hb) (hd_onR _ _ _ _ _ _)
  rwa [e2] at this
theorem stepBothL (h : pre.length = n) (h3 : x.kind = 3) (hl : x.left = n + 1) (hr : x.right = n + 1 + sz l) (ho : EndRuns (duo pre post x l r .done .done n m) q n o) :
    EndRuns ((pre ++ [x]) ++ imgU l (n + 1) m n false ++ (img r .done (n + 1 + sz l) (m + l.size) n true ++ post)) q (n + 1) o := by
  obtain ⟨e1, e2⟩ := endL (x := x) (l := l) (r := r) (m := m) (post := post) h .done
  obtain ⟨a1, a2, a3⟩ := duo_at (x := x) (l := l) (r := r) (m := m) (post := post) h .done .done
  exact EndRuns.both (k := n) (u := x) e1 (hd_up _ _ _ _ _ _) (by rw [e2]; exact a1) h3 (by rw [e2, hl]; exact a2) (by rw [e2, hr]; exact a3) (hd_done _ _ _ _ _ _) (hd_done _ _ _ _ _ _) (by rw [e2]; exact ho)
theorem stepBothR (h : pre.length = n) (h3 : x.kind = 3) (hl : x.left = n + 1) (hr : x.right = n + 1 + sz l) (ho : EndRuns (duo pre post x l r .done .done n m) q n o) :
    EndRuns ((pre ++ x :: img l .done (n + 1) m n false) ++ imgU r (n + 1 + sz l) (m + l.size) n true ++ post) q (n + 1 + sz l) o := by
  obtain ⟨e1, e2⟩ := endR (x := x) (l := l) (r := r) (m := m) (post := post) h .done
  obtain ⟨a1, a2, a3⟩ := duo_at (x := x) (l := l) (r := r) (m := m) (post := post) h .done .done
  exact EndRuns.both (k := n) (u := x) e1 (hd_up _ _ _ _ _ _) (by rw [e2]; exact a1) h3 (by rw [e2, hl]; exact a2) (by rw [e2, hr]; exact a3) (hd_done _ _ _ _ _ _) (hd_done _ _ _ _ _ _) (by rw [e2]; exact ho)
theorem stepWait (h : pre.length = n) (h3 : x.kind = 3) (hl : x.left = n + 1) (hr : x.right = n + 1 + sz l) {a : S} (ha : a.isD = false) :
    EndRuns ((pre ++ x :: img l a (n + 1) m n false) ++ imgU r (n + 1 + sz l) (m + l.size) n true ++ post) q (n + 1 + sz l) (duo pre post x l r a .done n m, q, -1) := by
  obtain ⟨e1, e2⟩ := endR (x := x) (l := l) (r := r) (m := m) (post := post) h a
  obtain ⟨a1, a2, a3⟩ := duo_at (x := x) (l := l) (r := r) (m := m) (post := post) h a .done
  have := EndRuns.onR (q := q) (k := n) (u := x) e1 (hd_up _ _ _ _ _ _) (by rw [e2]; exact a1) h3 (by rw [e2, hl]; exact a2) (by rw [e2, hr]; exact a3) ((hd_done _ _ _ _ _ _).trans ha) (hd_onR _ _ _ _ _ _)
  rwa [e2] at this
end

/-- what lies there of two, not all done -/
theorem img_duo (pre post : List Part) (par : Bool) (l r : T) (s : S) (n m : Nat) (up : Int) (onR : Bool) (hs : s.isD = false) : pre ++ img (.two par l r) s n m up onR ++ post = duo pre post (hd (.two par l r) .fresh n m up onR) l r s.sl s.sr n m := by
  rw [img, hd_two par l r s .fresh hs]; simp [duo]
theorem imgU_duo (pre post : List Part) (par : Bool) (l r : T) (n m : Nat) (up : Int) (onR : Bool) : pre ++ imgU (.two par l r) n m up onR ++ post = duo pre post (hd (.two par l r) .fresh n m up onR) l r .done .done n m := by
  rw [imgU_two]; simp [duo]

theorem fin_runs (w : Nat) : ∀ (t : T) (s : S) (n m : Nat) (up : Int) (onR : Bool) (pre post : List Part) (q0 : List Nat), pre.length = n → Act t s → w ∈ s.ws → s.ws.Nodup → (s.main = some w ∨ q0 = []) → q0.length + sz t ≤ 1099511627776 →
    (fin w t s ≠ .done → EndRuns (pre ++ img t s n m up onR ++ post) (q0 ++ seg t s n w) (loc t s n w) (pre ++ img t (fin w t s) n m up onR ++ post, (if w ∈ (fin w t s).ws then q0 ++ seg t (fin w t s) n w else []), (if w ∈ (fin w t s).ws then (loc t (fin w t s) n w : Int) else -1))) ∧
    (fin w t s = .done → ∀ o, EndRuns (pre ++ imgU t n m up onR ++ post) q0 n o → EndRuns (pre ++ img t s n m up onR ++ post) (q0 ++ seg t s n w) (loc t s n w) o)
  | .nil, s, _, _, _, _, _, _, _, _, h, _, _, _, _ => h.elim
  | .one c b lb, s, n, m, up, onR, pre, post, q0, hn, h, hw, hd_, hm, hL => by
    cases s with
    | «at» v => exact ⟨fun h => absurd rfl h, fun _ o ho => by simpa [seg, loc, img, imgU, tl, hd, S.isD] using ho⟩
    | _ => exact h.elim
  | .two false l r, s, n, m, up, onR, pre, post, q0, hn, h, hw, hd_, hm, hL => by
    rw [sz] at hL
    obtain ⟨x, hx⟩ : ∃ x, x = hd (.two false l r) .fresh n m up onR := ⟨_, rfl⟩
    have x2 : x.kind = 2 := by rw [hx]; rfl
    have xr : x.right = n + 1 + sz l := by rw [hx]; rfl
    have IR := start_runs w r (n + 1 + sz l) (m + l.size) n true (pre ++ x :: img l .done (n + 1) m n false) post q0 (len_r hn .done) (by omega)
    cases s with
    | seqL s =>
      have IL := fin_runs w l s (n + 1) m n false (pre ++ [x]) (img r .fresh (n + 1 + sz l) (m + l.size) n true ++ post) q0 (len_l hn) h hw hd_ hm (by omega)
      have hs : ∀ s' : S, pre ++ img (.two false l r) (.seqL s') n m up onR ++ post = (pre ++ [x]) ++ img l s' (n + 1) m n false ++ (img r .fresh (n + 1 + sz l) (m + l.size) n true ++ post) := fun s' => by
        rw [img_duo _ _ _ _ _ _ _ _ _ _ rfl, ← hx, duo_l]; rfl
      by_cases e : fin w l s = .done
      · by_cases er : start w r = .done
        · have E : fin w (.two false l r) (.seqL s) = .done := by simp [fin, e, er]
          rw [E]
          refine ⟨fun h => absurd rfl h, fun _ o ho => ?_⟩
          rw [hs]
          refine IL.2 e o (stepSeqL hn x2 xr (IR.2 er o (stepSeqR hn x2 ?_)))
          rw [imgU_duo, ← hx] at ho
          exact ho
        · have E : fin w (.two false l r) (.seqL s) = .seqR (start w r) := by simp [fin, e, er]
          obtain ⟨g1, g2, g3⟩ := (start_ok w r).resolve_left er
          rw [E]
          refine ⟨fun _ => ?_, fun h => by cases h⟩
          rw [hs]
          refine IL.2 e _ (stepSeqL hn x2 xr ?_)
          have := IR.1 er
          rw [img_duo _ _ _ _ _ _ _ _ _ _ rfl, ← hx]
          have hin : w ∈ (S.seqR (start w r)).ws := by show w ∈ (start w r).ws; rw [g3]; simp
          rw [if_pos hin, if_pos hin]
          exact this
      · have E : fin w (.two false l r) (.seqL s) = .seqL (fin w l s) := by simp [fin, e]
        rw [E]
        refine ⟨fun _ => ?_, fun h => by cases h⟩
        rw [hs, hs]
        exact IL.1 e
    | seqR s =>
      have IL := fin_runs w r s (n + 1 + sz l) (m + l.size) n true (pre ++ x :: img l .done (n + 1) m n false) post q0 (len_r hn .done) h hw hd_ hm (by omega)
      have hs : ∀ s' : S, pre ++ img (.two false l r) (.seqR s') n m up onR ++ post = (pre ++ x :: img l .done (n + 1) m n false) ++ img r s' (n + 1 + sz l) (m + l.size) n true ++ post := fun s' => by
        rw [img_duo _ _ _ _ _ _ _ _ _ _ rfl, ← hx]; rfl
      by_cases e : fin w r s = .done
      · have E : fin w (.two false l r) (.seqR s) = .done := by simp [fin, e]
        rw [E]
        refine ⟨fun h => absurd rfl h, fun _ o ho => ?_⟩
        rw [hs]
        refine IL.2 e o (stepSeqR hn x2 ?_)
        rw [imgU_duo, ← hx] at ho
        exact ho
      · have E : fin w (.two false l r) (.seqR s) = .seqR (fin w r s) := by simp [fin, e]
        rw [E]
        refine ⟨fun _ => ?_, fun h => by cases h⟩
        rw [hs, hs]
        exact IL.1 e
    | _ => exact h.elim
  | .two true l r, s, n, m, up, onR, pre, post, q0, hn, h, hw, hd_, hm, hL => by
    rw [sz] at hL
    obtain ⟨x, hx⟩ : ∃ x, x = hd (.two true l r) .fresh n m up onR := ⟨_, rfl⟩
    have x3 : x.kind = 3 := by rw [hx]; rfl
    have xl : x.left = n + 1 := by rw [hx]; rfl
    have xr : x.right = n + 1 + sz l := by rw [hx]; rfl
    have IR := start_runs w r (n + 1 + sz l) (m + l.size) n true (pre ++ x :: img l .done (n + 1) m n false) post q0 (len_r hn .done) (by omega)
    cases s with
    | parQ s =>
      have hmain : s.main = some w := by
        rcases hm' : s.main with _ | v
        · exact absurd hm' h.2
        · have := main_only l s v h.1 hm'
          rw [S.ws, this] at hw
          rw [List.mem_singleton.1 hw]
      have FO := fin_ok w l s h.1 hw hd_
      have IL := fin_runs w l s (n + 1) m n false (pre ++ [x]) (img r .fresh (n + 1 + sz l) (m + l.size) n true ++ post) (q0 ++ [n + 1 + sz l]) (len_l hn) h.1 hw hd_ (.inl hmain) (by rw [List.length_append, List.length_singleton]; omega)
      have hs : ∀ s' : S, pre ++ img (.two true l r) (.parQ s') n m up onR ++ post = (pre ++ [x]) ++ img l s' (n + 1) m n false ++ (img r .fresh (n + 1 + sz l) (m + l.size) n true ++ post) := fun s' => by
        rw [img_duo _ _ _ _ _ _ _ _ _ _ rfl, ← hx, duo_l]; rfl
      have hq : q0 ++ seg (.two true l r) (.parQ s) n w = (q0 ++ [n + 1 + sz l]) ++ seg l s (n + 1) w := by
        show q0 ++ (_ :: _) = _; simp
      rw [hq]
      by_cases e : fin w l s = .done
      · by_cases er : start w r = .done
        · have E : fin w (.two true l r) (.parQ s) = .done := by simp [fin, e, er]
          rw [E]
          refine ⟨fun h => absurd rfl h, fun _ o ho => ?_⟩
          rw [hs]
          refine IL.2 e o (stepPop hn x3 xl xr rfl (IR.2 er o (stepBothR hn x3 xl xr ?_)))
          rw [imgU_duo, ← hx] at ho
          exact ho
        · have E : fin w (.two true l r) (.parQ s) = .parB .done (start w r) := by simp [fin, e, er]
          obtain ⟨g1, g2, g3⟩ := (start_ok w r).resolve_left er
          rw [E]
          refine ⟨fun _ => ?_, fun h => by cases h⟩
          rw [hs]
          refine IL.2 e _ (stepPop hn x3 xl xr rfl ?_)
          have := IR.1 er
          rw [img_duo _ _ _ _ _ _ _ _ _ _ rfl, ← hx]
          have hin : w ∈ (S.parB .done (start w r)).ws := by show w ∈ [] ++ (start w r).ws; rw [g3]; simp
          rw [if_pos hin, if_pos hin]
          exact this
      · have E : fin w (.two true l r) (.parQ s) = .parQ (fin w l s) := by simp [fin, e]
        rw [E]
        refine ⟨fun _ => ?_, fun h => by cases h⟩
        have := IL.1 e
        have hin : w ∈ (fin w l s).ws := by
          rw [main_only l _ w (FO.act e) (FO.main hmain e)]; simp
        rw [if_pos hin, if_pos hin] at this
        rw [hs, hs, if_pos (show w ∈ (S.parQ (fin w l s)).ws from hin), if_pos (show w ∈ (S.parQ (fin w l s)).ws from hin)]
        have hq' : q0 ++ seg (.two true l r) (.parQ (fin w l s)) n w = (q0 ++ [n + 1 + sz l]) ++ seg l (fin w l s) (n + 1) w := by
          show q0 ++ (_ :: _) = _; simp
        rw [hq']
        exact this
    | parB a b =>
      obtain ⟨h1, h2, h3⟩ := h
      obtain ⟨da, db, dab⟩ := nodup_two hd_
      have hs : ∀ a' b' : S, pre ++ img (.two true l r) (.parB a' b') n m up onR ++ post = duo pre post x l r a' b' n m := fun a' b' => by
        rw [img_duo _ _ _ _ _ _ _ _ _ _ rfl, ← hx]; rfl
      have hcl : ∀ (a' b' : S), loc (.two true l r) (.parB a' b') n w = if w ∈ a'.ws then loc l a' (n + 1) w else loc r b' (n + 1 + sz l) w := fun _ _ => rfl
      have hcs : ∀ (a' b' : S), seg (.two true l r) (.parB a' b') n w = if w ∈ a'.ws then seg l a' (n + 1) w else seg r b' (n + 1 + sz l) w := fun _ _ => rfl
      by_cases hwa : w ∈ a.ws
      · have ha : Act l a := h1.resolve_left (fun e => by rw [e] at hwa; cases hwa)
        have hwb : w ∉ b.ws := dab w hwa
        have hq0 : q0 = [] := hm.resolve_left fun e => by simp [S.main, ha.not_done] at e
        subst hq0
        have IL := fin_runs w l a (n + 1) m n false (pre ++ [x]) (img r b (n + 1 + sz l) (m + l.size) n true ++ post) [] (len_l hn) ha hwa da (.inr rfl) (by simp at hL ⊢; omega)
        rw [hcl, hcs, if_pos hwa, if_pos hwa, hs]
        by_cases e : fin w l a = .done
        · by_cases eb : b = .done
          · have E : fin w (.two true l r) (.parB a b) = .done := by simp [fin, hwa, e, eb]
            rw [E]
            refine ⟨fun h => absurd rfl h, fun _ o ho => ?_⟩
            rw [duo_l]
            refine IL.2 e o ?_
            subst eb
            rw [imgU_duo, ← hx] at ho
            exact stepBothL hn x3 xl xr ho
          · have E : fin w (.two true l r) (.parB a b) = .parB .done b := by simp [fin, hwa, e, eb]
            rw [E]
            refine ⟨fun _ => ?_, fun h => by cases h⟩
            have hin : w ∉ (S.parB .done b).ws := by simpa [S.ws] using hwb
            rw [if_neg hin, if_neg hin, hs, duo_l]
            exact IL.2 e _ (stepDry hn x3 xl xr ((h2.resolve_left eb).isD))
        · have E : fin w (.two true l r) (.parB a b) = .parB (fin w l a) b := by simp [fin, hwa, e]
          rw [E]
          refine ⟨fun _ => ?_, fun h => by cases h⟩
          have := IL.1 e
          rw [hs, duo_l, duo_l]
          by_cases hin : w ∈ (fin w l a).ws
          · have hin' : w ∈ (S.parB (fin w l a) b).ws := List.mem_append_left _ hin
            rw [if_pos hin, if_pos hin] at this
            rw [if_pos hin', if_pos hin', hcl, hcs, if_pos hin, if_pos hin]
            exact this
          · have hin' : w ∉ (S.parB (fin w l a) b).ws := fun h => (List.mem_append.1 h).elim hin hwb
            rw [if_neg hin, if_neg hin] at this
            rw [if_neg hin', if_neg hin']
            exact this
      · have hwb : w ∈ b.ws := (List.mem_append.1 hw).resolve_left hwa
        have hb : Act r b := h2.resolve_left (fun e => by rw [e] at hwb; cases hwb)
        have hmb : b.main = some w ∨ q0 = [] := by
          rcases hm with hm | hm
          · left
            by_cases ea : a = .done
            · subst ea; simpa [S.main] using hm
            · simp [S.main, ea] at hm
          · exact .inr hm
        have IL := fin_runs w r b (n + 1 + sz l) (m + l.size) n true (pre ++ x :: img l a (n + 1) m n false) post q0 (len_r hn a) hb hwb db hmb (by omega)
        rw [hcl, hcs, if_neg hwa, if_neg hwa, hs]
        by_cases e : fin w r b = .done
        · by_cases ea : a = .done
          · have E : fin w (.two true l r) (.parB a b) = .done := by simp [fin, e, ea, S.ws]
            rw [E]
            refine ⟨fun h => absurd rfl h, fun _ o ho => IL.2 e o ?_⟩
            subst ea
            rw [imgU_duo, ← hx] at ho
            exact stepBothR hn x3 xl xr ho
          · have E : fin w (.two true l r) (.parB a b) = .parB a .done := by simp [fin, hwa, e, ea]
            have hq0 : q0 = [] := hm.resolve_left fun e => by simp [S.main, ea] at e
            rw [E]
            refine ⟨fun _ => ?_, fun h => by cases h⟩
            have hin : w ∉ (S.parB a .done).ws := by simpa [S.ws] using hwa
            rw [if_neg hin, if_neg hin, hs]
            have := IL.2 e _ (stepWait (q := q0) hn x3 xl xr ((h1.resolve_left ea).isD))
            rw [hq0] at this ⊢
            exact this
        · have E : fin w (.two true l r) (.parB a b) = .parB a (fin w r b) := by simp [fin, hwa, e]
          rw [E]
          refine ⟨fun _ => ?_, fun h => by cases h⟩
          have := IL.1 e
          rw [hs]
          by_cases hin : w ∈ (fin w r b).ws
          · have hin' : w ∈ (S.parB a (fin w r b)).ws := List.mem_append_right _ hin
            rw [if_pos hin, if_pos hin] at this
            rw [if_pos hin', if_pos hin', hcl, hcs, if_neg hwa, if_neg hwa]
            exact this
          · have hin' : w ∉ (S.parB a (fin w r b)).ws := fun h => (List.mem_append.1 h).elim hwa hin
            rw [if_neg hin, if_neg hin] at this
            rw [if_neg hin', if_neg hin']
            exact this
    | _ => exact h.elim
end Go.Proofs.Ytcoijmnnnfogdaa.Stl
