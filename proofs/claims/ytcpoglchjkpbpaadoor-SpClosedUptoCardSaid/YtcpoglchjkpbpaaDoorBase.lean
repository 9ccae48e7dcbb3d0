/-
  What a slice holds, said of a world; how an argument is opened to it; how a law's end is closed. No program is named here.
-/
import Derived.WalkKit
import Derived.ProofKit
import Derived.SizedLaws
import Derived.Deep.Slices
import Derived.Lib.Hide
import Derived.BigQuiet
import Derived.Deep.QuietTactic
import Derived.Deep.RegionHeld3
import Derived.Deep.AppendLies
import Derived.Maps.AppendAt
import Derived.WalkSpells
namespace Go.Proofs.YtcpoglchjkpbpaaDoor
set_option linter.unusedVariables false
set_option linter.unusedSimpArgs false
set_option maxRecDepth 100000
open Go.ChangeShapes Go.WideShapes Go.ChangeAt Go.RowKit

/-- The cells of a slice's elements lie at its address, below block B. -/
def Cells (w : World) (B : Nat) (A : Option Addr) (vs : List Value) : Prop :=
  ∃ b o, (vs ≠ [] → A = some ⟨b, o, none⟩ ∧ b < B) ∧ ∀ j u, vs[j]? = some u → w.cell? ⟨b, o + j, none⟩ = some u

/-- A slice value of n elements, each of sz cells, that reads as the cells vs. -/
def SlV (w : World) (sz : Nat) (v : Value) (n : Nat) (vs : List Value) : Prop :=
  ∃ A c, v = .slice A n c ∧ n ≤ c ∧ c ≤ maxLen ∧ vs.length = n * sz ∧ Cells w w.heap.size A vs

/-- a slice's length, for a loop's measure -/
def slLen : Value → Nat | .slice _ n _ => n | _ => 0

def ints (k : IntKind) (xs : List Int) : List Value := xs.map (Value.int k)

def Wfs (k : IntKind) (xs : List Int) : Prop := ∀ x ∈ xs, (Lit.int k x).wf = true

def SlI (k : IntKind) (w : World) (v : Value) (xs : List Int) : Prop := SlV w 1 v xs.length (ints k xs) ∧ Wfs k xs

theorem ints_length (k : IntKind) (xs : List Int) : (ints k xs).length = xs.length := by simp [ints]
theorem ints_get (k : IntKind) (xs : List Int) (j : Nat) (h : j < xs.length) : (ints k xs)[j]? = some (.int k (xs.getD j 0)) := by
  simp [ints, List.getD, List.getElem?_eq_getElem h]

theorem Cells.nil (w : World) (B : Nat) (A : Option Addr) : Cells w B A [] := ⟨0, 0, fun h => absurd rfl h, fun j u h => by simp at h⟩

theorem Cells.keep {w w' : World} {B B' : Nat} {A : Option Addr} {vs : List Value} (h : Cells w B A vs) (hB : B ≤ B') (hk : ∀ p : Addr, p.block < B → w'.cell? p = w.cell? p) : Cells w' B' A vs := by
  obtain ⟨b, o, h1, h2⟩ := h
  refine ⟨b, o, fun hne => ⟨(h1 hne).1, Nat.lt_of_lt_of_le (h1 hne).2 hB⟩, fun j u hu => ?_⟩
  have hne : vs ≠ [] := by intro h0; subst h0; simp at hu
  exact (hk _ (h1 hne).2).trans (h2 j u hu)

theorem Cells.below {w w' : World} {B : Nat} {A : Option Addr} {vs : List Value} (h : Cells w B A vs) (hb : Below B w w') (hB : B ≤ w'.heap.size) : Cells w' w'.heap.size A vs :=
  h.keep hB fun _ hp => hb.cell hp

theorem SlV.below {w w' : World} {sz n : Nat} {v : Value} {vs : List Value} (h : SlV w sz v n vs) (hb : Below w.heap.size w w') : SlV w' sz v n vs := by
  obtain ⟨A, c, h1, h2, h3, h4, h5⟩ := h
  exact ⟨A, c, h1, h2, h3, h4, h5.below hb hb.size⟩

theorem SlI.below {w w' : World} {k : IntKind} {v : Value} {xs : List Int} (h : SlI k w v xs) (hb : Below w.heap.size w w') : SlI k w' v xs := ⟨h.1.below hb, h.2⟩

theorem SlV.alloc {w : World} {sz n : Nat} {v : Value} {vs : List Value} (h : SlV w sz v n vs) (o : Obj) : SlV (w.alloc o) sz v n vs := h.below ((Below.refl _ _).alloc (Nat.le_refl _) o)
theorem SlI.alloc {w : World} {k : IntKind} {v : Value} {xs : List Int} (h : SlI k w v xs) (o : Obj) : SlI k (w.alloc o) v xs := ⟨h.1.alloc o, h.2⟩

theorem SlV.step {w w' : World} {sz n : Nat} {v : Value} {vs : List Value} (hb : Below w.heap.size w w') (h : SlV w sz v n vs) : SlV w' sz v n vs := h.below hb
theorem SlI.step {w w' : World} {k : IntKind} {v : Value} {xs : List Int} (hb : Below w.heap.size w w') (h : SlI k w v xs) : SlI k w' v xs := h.below hb

theorem below_next {w w1 w2 : World} (hb : Below w1.heap.size w1 w2) (h : Below w.heap.size w w1) : Below w.heap.size w w2 := h.trans (hb.mono h.size)
theorem below_alloc {w w1 : World} (h : Below w.heap.size w w1) (o : Obj) : Below w.heap.size w (w1.alloc o) := h.alloc h.size o
theorem below_drew {w w1 : World} (h : Below w.heap.size w w1) : Below w.heap.size w w1.drew := h.drew

theorem SlV.nil (w : World) (sz : Nat) : SlV w sz (.slice none 0 0) 0 [] := ⟨none, 0, rfl, Nat.le_refl _, Nat.zero_le _, by simp, Cells.nil _ _ _⟩
theorem SlI.nil (k : IntKind) (w : World) : SlI k w (.slice none 0 0) [] := ⟨SlV.nil w 1, fun x h => by simp at h⟩

theorem Cells.of_own {w : World} {base : Nat} {e : TypeId} {size n c : Nat} {A : Option Addr} {xs : List Value} (h : w.ownsRow base e size (.slice A n c) n xs) : Cells w w.heap.size A xs := by
  rcases h.2 with ⟨h1, h2⟩ | ⟨g, cap, cur, hv, _, hg, _, _, _, _⟩
  · have : xs = [] := List.eq_nil_of_length_eq_zero (by rw [h.1, h2]; simp)
    subst this
    exact Cells.nil _ _ _
  · have hA : A = some ⟨g, 0, none⟩ := by injection hv
    subst hA
    refine ⟨g, 0, fun _ => ⟨rfl, (Array.getElem?_eq_some_iff.1 hg).1⟩, fun j u hu => ?_⟩
    have := h.cells (g := g) rfl j u hu
    rw [Nat.zero_add]
    rwa [show ((⟨g, 0, none⟩ : Addr).add j) = ⟨g, j, none⟩ from by unfold Addr.add; split <;> simp_all] at this

theorem SlV.of_own {w : World} {base : Nat} {e : TypeId} {size n : Nat} {v : Value} {xs : List Value} (h : w.ownsRow base e size v n xs) : SlV w size v n xs := by
  have h' := h
  rcases h'.2 with ⟨rfl, rfl⟩ | ⟨g, cap, cur, rfl, _, _, hle, hm, _, _⟩
  · exact ⟨none, 0, rfl, Nat.le_refl _, Nat.zero_le _, h'.1, Cells.of_own h⟩
  · exact ⟨_, cap, rfl, hle, hm, h'.1, Cells.of_own h⟩

theorem SlI.of_own {w : World} {base : Nat} {e : TypeId} {k : IntKind} {v : Value} {xs : List Int} (h : w.ownsRow base e 1 v xs.length (ints k xs)) (hw : Wfs k xs) : SlI k w v xs := ⟨SlV.of_own h, hw⟩

theorem below_drewN {B : Nat} {a w : World} (h : Below B a w) (n : Nat) : Below B a (w.drewN n) := ⟨h.os, h.tape, h.output, h.size, h.block⟩

theorem run_max_two {P : Program} (w : World) (ts : Array TypeId) (t : TypeId) (k k' : IntKind) (x y : Int) : (Builtin.max_ ts t #[.int k x, .int k' y]).run P w = .ok (.int k (max x y)) w := by
  have : (if y > x then y else x) = max x y := by split <;> omega
  rw [← this]
  rfl
theorem run_min_two {P : Program} (w : World) (ts : Array TypeId) (t : TypeId) (k k' : IntKind) (x y : Int) : (Builtin.min_ ts t #[.int k x, .int k' y]).run P w = .ok (.int k (min x y)) w := by
  have : (if y < x then y else x) = min x y := by split <;> omega
  rw [← this]
  rfl
attribute [go_sem ↓] run_max_two run_min_two

/-- one element's cell -/
theorem Cells.int {w : World} {B : Nat} {A : Option Addr} {xs : List Int} {k : IntKind} (h : Cells w B A (ints k xs)) {j : Nat} (hj : j < xs.length) :
    ∃ b o, A = some ⟨b, o, none⟩ ∧ b < B ∧ ∀ i, i < xs.length → w.cell? ⟨b, o + i, none⟩ = some (.int k (xs.getD i 0)) := by
  obtain ⟨b, o, h1, h2⟩ := h
  have hne : ints k xs ≠ [] := by
    intro h0
    have : xs.length = 0 := by simpa [ints] using congrArg List.length h0
    omega
  obtain ⟨h3, h4⟩ := h1 hne
  exact ⟨b, o, h3, h4, fun i hi => h2 i _ (ints_get k xs i hi)⟩

/-- one element, under a name of its own -/
theorem Cells.one {w : World} {B : Nat} {A : Option Addr} {xs : List Int} {k : IntKind} (h : Cells w B A (ints k xs)) {j : Nat} (hj : j < xs.length) :
    ∃ b o x, A = some ⟨b, o, none⟩ ∧ b < B ∧ Hid (xs[j]? = some x) ∧ w.cell? ⟨b, o + j, none⟩ = some (.int k x) := by
  obtain ⟨b, o, h1, h2, h3⟩ := h.int hj
  exact ⟨b, o, xs[j], h1, h2, List.getElem?_eq_getElem hj, by rw [h3 j hj]; simp [List.getD, List.getElem?_eq_getElem hj]⟩

theorem Wfs.get {k : IntKind} {xs : List Int} (h : Wfs k xs) {j : Nat} (hj : j < xs.length) : (Lit.int k (xs.getD j 0)).wf = true := by
  have e : xs.getD j 0 = xs[j] := by simp [List.getD, List.getElem?_eq_getElem hj]
  rw [e]
  exact h _ (List.getElem_mem hj)

theorem wf_u64 {x : Int} : (Lit.int .u64 x).wf = true ↔ 0 ≤ x ∧ x ≤ 18446744073709551615 := by
  simp [Lit.wf, IntKind.min, IntKind.max, IntKind.signed, IntKind.bits]
theorem wf_i64 {x : Int} : (Lit.int .i64 x).wf = true ↔ -9223372036854775808 ≤ x ∧ x ≤ 9223372036854775807 := by
  simp [Lit.wf, IntKind.min, IntKind.max, IntKind.signed, IntKind.bits]

theorem wrap_u64 (n : Int) : IntKind.u64.wrap n = n % 18446744073709551616 := by
  simp [IntKind.wrap, IntKind.bits, IntKind.signed]
theorem ints_set (k : IntKind) (xs : List Int) (i : Nat) (x : Int) : ints k (xs.set i x) = (ints k xs).set i (.int k x) := by simp [ints, List.map_set]
theorem Wfs.set {k : IntKind} {xs : List Int} (h : Wfs k xs) (i : Nat) {x : Int} (hx : (Lit.int k x).wf = true) : Wfs k (xs.set i x) := by
  intro y hy
  rcases List.mem_or_eq_of_mem_set hy with hy | rfl
  · exact h y hy
  · exact hx
theorem Wfs.append {k : IntKind} {xs ys : List Int} (h : Wfs k xs) (h' : Wfs k ys) : Wfs k (xs ++ ys) := by
  intro y hy
  rcases List.mem_append.1 hy with hy | hy
  · exact h y hy
  · exact h' y hy
theorem Wfs.replicate {k : IntKind} {x : Int} (hx : (Lit.int k x).wf = true) (n : Nat) : Wfs k (List.replicate n x) := by
  intro y hy
  rw [(List.mem_replicate.1 hy).2]
  exact hx

theorem ret_int {k : IntKind} {a b : Int} (h : a = b) : Ending.returned (.int k a) = .returned (.int k b) := by rw [h]
theorem ret_bool {a b : Bool} (h : a = b) : Ending.returned (.bool a) = .returned (.bool b) := by rw [h]

theorem Cells.take {w : World} {B : Nat} {A : Option Addr} {vs : List Value} (h : Cells w B A vs) (k : Nat) : Cells w B A (vs.take k) := by
  obtain ⟨b, o, h1, h2⟩ := h
  refine ⟨b, o, fun hne => h1 (fun h0 => hne (by rw [h0]; simp)), fun j u hu => h2 j u ?_⟩
  rw [List.getElem?_take] at hu
  split at hu
  · exact hu
  · cases hu

/-- the first k elements -/
theorem SlI.take {k : IntKind} {w : World} {A : Option Addr} {n c : Nat} {xs ys : List Int} (h : SlI k w (.slice A n c) xs) (j : Nat) (hy : ys = xs.take j) (hj : j ≤ xs.length) : SlI k w (.slice A ys.length c) ys := by
  obtain ⟨⟨A', c', he, h1, h2, h3, h4⟩, h5⟩ := h
  injection he with e1 e2 e3
  subst e1 e3
  have hl : ys.length ≤ xs.length := by rw [hy]; simp; omega
  refine ⟨⟨A, c, rfl, by omega, h2, by simp [ints], ?_⟩, fun x hx => h5 x ?_⟩
  · have : ints k ys = (ints k xs).take j := by rw [hy]; simp [ints, List.map_take]
    rw [this]
    exact h4.take j
  · rw [hy] at hx
    exact List.mem_of_mem_take hx

/-- 'make([]T, n)' -/
theorem wp_make {P : Program} (w : World) {ops : Array Oper} {rest : List Oper} {o : Oper} {a : Act} {Q : Exit → Act → World → Prop}
    (t e : TypeId) (z : Value) (bytes : Nat) (n : Nat) (ht : P.underlying t = some (.slice e)) (hinfo : (P.info? e).map (fun i => (i.zero, i.size, i.bytes)) = some (some z, 1, bytes)) (hz : z.cells = #[z])
    {L C : Int} (hL : L = (n : Int)) (hC : C = (n : Int)) (b2 : bytes * n ≤ 281474976710656) (b3 : n ≤ 9223372036854775807)
    {l c : Operand} {kl kc : IntKind} (hg : o.guard = none) (hop : o.op = Op.makeSlice t l c) (hl : a.eval l = .int kl L) (hc : a.eval c = .int kc C)
    (hK : ∀ w', w'.ownsRow w.heap.size e 1 (.slice (some ⟨w.heap.size, 0, none⟩) n n) n (List.replicate n z) → Below w.heap.size w w' → w'.heap.size = w.heap.size + 1 → wpList P ops Q rest (a.put o.dst (.slice (some ⟨w.heap.size, 0, none⟩) n n)) w') :
    wpList P ops Q (o :: rest) a w := by
  obtain ⟨i, hi, hz0, hz1, hz2⟩ := info_parts hinfo
  refine wpList_plain hg fun K hK' => ?_
  subst hL
  subst hC
  have h63' : (n : Int) ≤ 9223372036854775807 := by omega
  have hb' : (i.bytes : Int) * (n : Int) ≤ 281474976710656 := by
    have h : ((i.bytes * n : Nat) : Int) ≤ 281474976710656 := by rw [hz2]; omega
    rwa [Int.natCast_mul] at h
  have hr := run_make (P := P) w t e i z ht hi hz0 kl kc n n (by omega) (Int.le_refl _) hb' h63'
  simp only [Int.toNat_natCast, hz1, hz, Nat.mul_one] at hr
  unfold Oper.wp
  simp [execOp, hop, hl, hc, hr, Result.andThen]
  refine hK' _ _ (hK _ ?_ ((Below.refl _ _).alloc (Nat.le_refl _) _) (by simp))
  have := World.ownsRow_lit (e := e) (size := 1) (base := w.heap.size) w (madeCells #[z] n) n (Nat.le_refl _) (by unfold maxLen; omega) (by simp [madeCells])
  rwa [toList_madeCells_one] at this

theorem Cells.new (w : World) (vs : List Value) (e : TypeId) : Cells (w.alloc (.cells vs.toArray e)) (w.heap.size + 1) (some ⟨w.heap.size, 0, none⟩) vs := by
  refine ⟨w.heap.size, 0, fun _ => ⟨rfl, by omega⟩, fun j u hu => ?_⟩
  rw [cell_of_row _ _ _ _ _ _ (heap_alloc_new w (.cells vs.toArray e))]
  simpa using hu

theorem run_append_nil_src {P : Program} (w : World) (base : Nat) (t ty e : TypeId) (i : TypeInfo) (size : Nat) (ht : P.underlying t = some (.slice e)) (hi : P.info? e = some i)
    (v : Value) (n : Nat) (xs : List Value) (hown : w.ownsRow base e size v n xs) (c : Nat) : (Builtin.append_ #[t, t] ty #[v, .slice none 0 c]).run P w = .ok v w := by
  rcases hown.2 with ⟨rfl, rfl⟩ | ⟨g, cap, cur, rfl, _, _, hnc, _⟩
  · simp [Builtin.append_, run_underlying ht, sizeOf, typeInfo, hi, Builtin.lenOf, Builtin.firstCells]
  · simp [Builtin.append_, run_underlying ht, sizeOf, typeInfo, hi, Builtin.lenOf, Builtin.firstCells, hnc, storeCells]

/-- 'append(v, src...)', v nil or the call's own, src whatever -/
theorem run_append {P : Program} (w : World) (base : Nat) (t ty e : TypeId) (z : Value) (size bytes : Nat) (ht : P.underlying t = some (.slice e)) (hinfo : (P.info? e).map (fun i => (i.zero, i.size, i.bytes)) = some (some z, size, bytes)) (hz : z.cells.size = size) (hsz : 0 < size)
    (v : Value) (n : Nat) (xs : List Value) (hown : w.ownsRow base e size v n xs) (B : Nat) (A : Option Addr) (m c : Nat) (news : List Value) (hlen : news.length = m * size) (hcs : Cells w B A news) (h1 : ∀ u ∈ news, u.oneCell' = true)
    (h63 : n + m ≤ maxLen) (hbytes : (n + m) * bytes ≤ 140737488355328) (hbase : base ≤ w.heap.size) :
    ∃ v' w', (Builtin.append_ #[t, t] ty #[v, .slice A m c]).run P w = .ok v' w' ∧ w'.ownsRow base e size v' (n + m) (xs ++ news) ∧ w.grownBy w' v.ownBlock ∧ (v'.ownBlock = v.ownBlock ∨ v'.ownBlock = some w.heap.size) := by
  obtain ⟨i, hi, hz0, hz1, hz2⟩ := info_parts hinfo
  by_cases hm : m = 0
  · subst hm
    have hn : news = [] := List.eq_nil_of_length_eq_zero (by simpa using hlen)
    subst hn
    rcases A with _ | ad
    · exact ⟨v, w, run_append_nil_src w base t ty e i size ht hi v n xs hown c, by simpa using hown, World.grownBy.refl w _, .inl rfl⟩
    · obtain ⟨v', w', hrun, h2, h3, _, h5⟩ := run_append_own_at (P := P) w base t ty e i z size bytes ht hi hz0 hz1 hz2 hz hsz v n xs hown ad 0 c [] hlen (by simp) h1 h63 hbytes hbase
      exact ⟨v', w', hrun, h2, h3, h5⟩
  · obtain ⟨b, o, hA, hcell⟩ := hcs
    have hne : news ≠ [] := by
      intro h0
      rw [h0] at hlen
      have : 0 < m * size := Nat.mul_pos (by omega) hsz
      simp at hlen
      omega
    obtain ⟨rfl, _⟩ := hA hne
    obtain ⟨v', w', hrun, h2, h3, _, h5⟩ := run_append_own_at (P := P) w base t ty e i z size bytes ht hi hz0 hz1 hz2 hz hsz v n xs hown ⟨b, o, none⟩ m c news hlen (fun j u hu => by rw [Addr.add_lit]; exact hcell j u hu) h1 h63 hbytes hbase
    exact ⟨v', w', hrun, h2, h3, h5⟩

theorem own_ge {w : World} {base : Nat} {e : TypeId} {size : Nat} {v : Value} {n : Nat} {xs : List Value} (h : w.ownsRow base e size v n xs) : ∀ k, v.ownBlock = some k → base ≤ k := fun k hk => (h.lt k hk).1

theorem own_slice {w : World} {base : Nat} {e : TypeId} {size : Nat} {v : Value} {n : Nat} {xs : List Value} (h : w.ownsRow base e size v n xs) : ∃ A c, v = .slice A n c ∧ n ≤ c ∧ c ≤ maxLen := by
  rcases h.2 with ⟨rfl, rfl⟩ | ⟨g, cap, cur, rfl, _, _, hle, hm, _, _⟩
  · exact ⟨none, 0, rfl, Nat.le_refl _, Nat.zero_le _⟩
  · exact ⟨_, cap, rfl, hle, hm⟩
theorem own_addr {w : World} {base : Nat} {e : TypeId} {size : Nat} {v : Value} {n : Nat} {xs : List Value} (h : w.ownsRow base e size v n xs) (hn : 0 < n) : ∃ g c, v = .slice (some ⟨g, 0, none⟩) n c ∧ n ≤ c ∧ c ≤ maxLen ∧ base ≤ g ∧ g < w.heap.size := by
  rcases h.2 with ⟨rfl, rfl⟩ | ⟨g, cap, cur, rfl, hb, hg, hle, hm, _, _⟩
  · omega
  · exact ⟨g, cap, rfl, hle, hm, hb, (Array.getElem?_eq_some_iff.1 hg).1⟩

theorem own_len {w : World} {base : Nat} {e : TypeId} {size : Nat} {v : Value} {n : Nat} {xs : List Value} (h : w.ownsRow base e size v n xs) : slLen v = n := by
  obtain ⟨A, c, rfl, _, _⟩ := own_slice h
  rfl

theorem wp_append {P : Program} (w : World) {ops : Array Oper} {rest : List Oper} {o : Oper} {a : Act} {Q : Exit → Act → World → Prop} (s x : Operand)
    (base t e : TypeId) (z : Value) (size bytes : Nat) (ht : P.underlying t = some (.slice e)) (hinfo : (P.info? e).map (fun i => (i.zero, i.size, i.bytes)) = some (some z, size, bytes)) (hz : z.cells.size = size) (hsz : 0 < size)
    {v : Value} {n : Nat} {xs : List Value} (hown : w.ownsRow base e size v n xs) {B : Nat} {A : Option Addr} {m c : Nat} {news : List Value} (hcs : Cells w B A news) (hlen : news.length = m * size) (h1 : ∀ u ∈ news, u.oneCell' = true)
    (h63 : n + m ≤ maxLen) (hbytes : (n + m) * bytes ≤ 140737488355328) (hbase : base ≤ w.heap.size)
    (hgd : o.guard = none) (ho : o.op = .call { callee := .builtin .append, args := #[s, x], argTypes := #[t, t] }) (hs : a.eval s = v) (hx : a.eval x = .slice A m c)
    (h : ∀ v' w', w'.ownsRow base e size v' (n + m) (xs ++ news) → w.grownBy w' v.ownBlock → (v'.ownBlock = v.ownBlock ∨ v'.ownBlock = some w.heap.size) → Below base w w' → wpList P ops Q rest (a.put o.dst v') w') : wpList P ops Q (o :: rest) a w := by
  refine wpList_plain hgd fun _ hK => ?_
  obtain ⟨v', w', hrun, h2, h3, h4⟩ := run_append (P := P) w base t o.type e z size bytes ht hinfo hz hsz v n xs hown B A m c news hlen hcs h1 h63 hbytes hbase
  unfold Oper.wp execOp
  simp only [ho, resolve, invoke, builtin, Sem.run_bind, Sem.run_pure, Result.andThen_ok, List.map_toArray, List.map_cons, List.map_nil, hs, hx, hrun]
  exact hK _ _ (h v' w' h2 h3 h4 ((Below.refl _ _).grown h3 hbase (own_ge hown)))

/-- 'append(v, x)': the one element lies in a block of its own -/
theorem wp_push {P : Program} (w : World) {ops : Array Oper} {rest : List Oper} {o : Oper} {a : Act} {Q : Exit → Act → World → Prop} (s x : Operand)
    (base t e : TypeId) (z : Value) (size bytes : Nat) (ht : P.underlying t = some (.slice e)) (hinfo : (P.info? e).map (fun i => (i.zero, i.size, i.bytes)) = some (some z, size, bytes)) (hz : z.cells.size = size) (hsz : 0 < size)
    {v : Value} {n : Nat} {xs : List Value} (hown : w.ownsRow base e size v n xs) {c : Nat} (news : List Value) (hlen : news.length = 1 * size) (h1 : ∀ u ∈ news, u.oneCell' = true)
    (h63 : n + 1 ≤ maxLen) (hbytes : (n + 1) * bytes ≤ 140737488355328) (hbase : base ≤ w.heap.size)
    (hgd : o.guard = none) (ho : o.op = .call { callee := .builtin .append, args := #[s, x], argTypes := #[t, t] }) (hs : a.eval s = v) (hx : a.eval x = .slice (some ⟨w.heap.size, 0, none⟩) 1 c)
    (h : ∀ v' w', w'.ownsRow base e size v' (n + 1) (xs ++ news) → w.grownBy w' v.ownBlock → (v'.ownBlock = v.ownBlock ∨ v'.ownBlock = some (w.heap.size + 1)) → Below base w w' → wpList P ops Q rest (a.put o.dst v') w') : wpList P ops Q (o :: rest) a (w.alloc (.cells news.toArray e)) := by
  refine wp_append _ s x base t e z size bytes ht hinfo hz hsz (hown.alloc _) (Cells.new w news e) hlen h1 h63 hbytes (Nat.le_trans hbase (by simp)) hgd ho hs hx fun v' w' h2 h3 h4 h5 => ?_
  have hg : w.grownBy w' v.ownBlock :=
    ⟨h3.os, h3.tape, h3.output, Nat.le_trans (by simp) h3.size, fun k hk hne => (h3.block k (by simp; omega) hne).trans (Below.heap_alloc w _ k hk)⟩
  exact h v' w' h2 hg (by simpa using h4) (((Below.refl _ _).alloc hbase _).trans h5)

theorem flat_length {α : Type} (f : α → List Value) (n : Nat) (hf : ∀ a, (f a).length = n) (l : List α) : (l.flatMap f).length = l.length * n := by
  induction l with
  | nil => simp
  | cons a l ih => rw [List.flatMap_cons, List.length_append, hf, ih, List.length_cons, Nat.add_mul]; omega

theorem flat_get {α : Type} (f : α → List Value) (n : Nat) (hf : ∀ a, (f a).length = n) (l : List α) (k j : Nat) (x : α) (hx : l[k]? = some x) (hj : j < n) : (l.flatMap f)[k * n + j]? = (f x)[j]? := by
  induction l generalizing k with
  | nil => simp at hx
  | cons a l ih =>
    rw [List.flatMap_cons]
    rcases k with _ | k
    · simp at hx
      subst hx
      rw [Nat.zero_mul, Nat.zero_add, List.getElem?_append_left (by rw [hf]; exact hj)]
    · have e : (k + 1) * n + j = (f a).length + (k * n + j) := by rw [hf, Nat.add_mul]; omega
      rw [e, List.getElem?_append_right (by omega), Nat.add_sub_cancel_left]
      exact ih k (by simpa using hx)

/-- the address of a slice whose cells are known, and its cells one by one -/
theorem Cells.at_ {w : World} {B : Nat} {A : Option Addr} {vs : List Value} (h : Cells w B A vs) (hne : vs ≠ []) : ∃ b o, A = some ⟨b, o, none⟩ ∧ b < B ∧ ∀ j u, vs[j]? = some u → w.cell? ⟨b, o + j, none⟩ = some u := by
  obtain ⟨b, o, h1, h2⟩ := h
  exact ⟨b, o, (h1 hne).1, (h1 hne).2, h2⟩

theorem own_base {w : World} {base base' : Nat} {e : TypeId} {size : Nat} {v : Value} {n : Nat} {xs : List Value} (h : w.ownsRow base e size v n xs) (hb : base' ≤ base) : w.ownsRow base' e size v n xs := by
  refine ⟨h.1, ?_⟩
  rcases h.2 with h' | ⟨g, cap, cur, h1, h2, h3⟩
  · exact .inl h'
  · exact .inr ⟨g, cap, cur, h1, by omega, h3⟩

/-- an argument that is a slice of integers -/
theorem open_sl {H : Type} {enc : TypeId × Value → H} {P : Program} {w : World} {t e : TypeId} {k : IntKind} {v : Value} {d : DataW H} {ps : List MemPlace} (ht : P.underlying t = some (.slice e)) (he : P.underlying e = some (.int k)) (hc : P.cellsOf e = 1)
    (hv : ∃ a len cap, v = .slice a len cap)
    (h : DataW.Trod enc P w 0 (fun _ => true) true t v d ps) (hlt : ∀ x ∈ ps, x.block < w.heap.size) :
    ∃ xs : List Int, SlI k w v xs ∧ ((d = .nil ∧ xs = []) ∨ ∃ sp : List (DataW H), d = .slice (lits k xs) sp) := by
  obtain ⟨a0, len, cap, rfl⟩ := hv
  obtain ⟨fuel, hf⟩ := h
  rcases open_ints ht he hc hf with ⟨hcs, hx⟩ | ⟨a, len', cap', zs, hcs, _, hl, hm, hz, hx, hcell, hwz⟩
  · simp [Value.cells] at hcs
    obtain ⟨rfl, rfl, rfl⟩ := hcs
    simp only [Prod.mk.injEq] at hx
    exact ⟨[], SlI.nil _ _, .inl ⟨hx.1, rfl⟩⟩
  · simp [Value.cells] at hcs
    obtain ⟨rfl, rfl, rfl⟩ := hcs
    simp only [Prod.mk.injEq] at hx
    simp only [if_true] at hz
    have htl : (zs.take len).length = len := by simp; omega
    refine ⟨zs.take len, ⟨⟨some a, cap, by rw [htl], by omega, hm, by simp [ints], ?_⟩, fun x hx => hwz x (List.mem_of_mem_take hx)⟩, .inr ⟨_, hx.1⟩⟩
    by_cases h0 : zs.take len = []
    · rw [h0]
      exact Cells.nil _ _ _
    · have hl0 : 0 < len := by
        rcases Nat.eq_zero_or_pos len with h | h
        · subst h; simp at h0
        · exact h
      obtain ⟨b, off, spot⟩ := a
      have hspot : spot = none := by simpa [Addr.add] using World.cell?_spot (hcell 0 (by omega))
      subst hspot
      refine ⟨b, off, fun _ => ⟨rfl, hlt (.cell b off) (by rw [hx.2]; exact MemPlace.mem_row.2 ⟨0, by omega, by simp⟩)⟩, fun j u hu => ?_⟩
      have hj : j < len := by
        have := (List.getElem?_eq_some_iff.1 hu).1
        simp [ints] at this
        omega
      have := hcell j (by omega)
      rw [add_plain] at this
      rw [this, ← hu]
      simp [ints, List.getD, hj, List.getElem?_eq_getElem (show j < zs.length by omega)]

/-- all arguments read behind the call as before it -/
theorem trodAll_keep {H : Type} {enc : TypeId × Value → H} {P : Program} (hl : laidOutB P = true) {W W' : World} (hb : Below W.heap.size W W') :
    ∀ (ts : List TypeId) (vs : List Value) (ds : List (DataW H)) (ps : List MemPlace), (∀ t ∈ ts, P.readableRec t = true ∧ t < P.types.size) → (∀ x ∈ ps, x.block < W.heap.size) →
      DataW.TrodAll enc P W 0 (fun _ => true) true ts vs ds ps → DataW.TrodAll enc P W' 0 (fun b => decide (b < W.heap.size)) true ts vs ds ps
  | [], [], [], _, _, _, h => h
  | t :: ts, v :: vs, d :: ds, ps, hts, hlt, h => by
    obtain ⟨p, q, h1, h2, rfl⟩ := h
    exact ⟨p, q, Below.trod hl (hts t (by simp)).1 (hts t (by simp)).2 h1 hb (fun x hx => hlt x (by simp [hx])),
      trodAll_keep hl hb ts vs ds q (fun t' h' => hts t' (by simp [h'])) (fun x hx => hlt x (by simp [hx])) h2, rfl⟩
  | [], _ :: _, _, _, _, _, h => h.elim
  | [], [], _ :: _, _, _, _, h => h.elim
  | _ :: _, [], _, _, _, _, h => h.elim
  | _ :: _, _ :: _, [], _, _, _, h => h.elim

/-- THE END OF A LAW: it returned true, and nothing that was there has turned. -/
theorem post_true {H : Type} {enc : TypeId × Value → H} {P : Program} {f : Func} {s : ChangeSpec} {W W' : World} {args : Array Value} {ds gs : List (DataW H)} {before : List MemPlace} {tb : TypeId}
    (hl : laidOutB P = true) (hres : f.resultTypes = #[tb]) (htb : P.underlying tb = some .bool) (hts : ∀ t ∈ f.params.toList, P.readableRec t = true ∧ t < P.types.size) (hvars : s.vars = [])
    (hfn : s.fn H ds = { results := [.lit (.bool true)], args := ds })
    (hW : DataW.Whole enc P f.params.toList s.vars false W args.toList ds gs before) (hb : Below W.heap.size W W') :
    s.post enc P f false true false false W args (.bool true) W' := by
  have hW' := hW
  obtain ⟨p, q, hA, hV, rfl, _, _⟩ := hW
  have hgs : gs = [] ∧ q = [] := by
    rw [hvars] at hV
    cases gs with
    | nil => exact ⟨rfl, hV⟩
    | cons g gs => exact hV.elim
  obtain ⟨rfl, rfl⟩ := hgs
  have e : s.fn H (ds ++ []) = { results := [.lit (.bool true)], args := ds } := by rw [List.append_nil]; exact hfn
  refine ⟨ds, [], _, [], p, [], hW', ?_, ?_, ?_, hb.frame _, fun h => by cases h⟩
  · rw [e, hres]
    exact trodAll_mk1 (shut_bool htb true)
  · rw [e]
    exact trodAll_keep hl hb _ _ _ _ hts (fun x hx => by simpa using hW'.lt x (by simp [hx])) hA
  · rw [e, hvars]
    rfl

end Go.Proofs.YtcpoglchjkpbpaaDoor
