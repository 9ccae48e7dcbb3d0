/-
  Clocks tell it all; to be ahead is an order: the two laws, walked.
-/
import Derived.Test.YtoddhfabeiimkaaHbP1
import Derived.Deep.DeepCutAuto
import Derived.Test.YtoddhfabeiimkaaChecked
import Derived.Laws.StructEq
import Derived.Test.YtoddhfabeiimkaaShelf
import Derived.Sort.OwnSortedInts
import Derived.Lib.SlKeysI

namespace Go.Proofs.Ytoddhfabeiimkaa
set_option linter.unusedVariables false
set_option linter.unusedSimpArgs false
set_option maxRecDepth 100000
open Go Go.RowKit

theorem keeps_below {w w' : World} (h : Below w.heap.size w w') : Keeps (fun _ => False) w w' := Keeps.of_below h _
def FSl (sz n : Nat) (vs : List Value) : Fact (fun w w' => Below w.heap.size w w') := ⟨fun v w => SlV w sz v n vs, fun _ _ _ h k => h.below k⟩
/-- 'append(v, vs...)' as one operation -/
theorem oper_append {P : Program} {w : World} {o : Oper} {a : Act} {K : Act → World → Prop} {Q : Exit → Act → World → Prop} (s x : Operand)
    (base t e : TypeId) (z : Value) (size bytes : Nat) (ht : P.underlying t = some (.slice e)) (hinfo : (P.info? e).map (fun i => (i.zero, i.size, i.bytes)) = some (some z, size, bytes)) (hz : z.cells.size = size) (hsz : 0 < size)
    {v : Value} {n : Nat} {xs : List Value} (hown : w.ownsRow base e size v n xs) {vs : Value} {m : Nat} {news : List Value} (hsl : SlV w size vs m news) (h1 : ∀ u ∈ news, u.oneCell' = true)
    (h63 : n + m ≤ maxLen) (hbytes : (n + m) * bytes ≤ 140737488355328) (hbase : base ≤ w.heap.size) (ho : o.op = .call { callee := .builtin .append, args := #[s, x], argTypes := #[t, t] }) (hs : a.eval s = v) (hx : a.eval x = vs)
    (h : ∀ v' w', w'.ownsRow base e size v' (n + m) (xs ++ news) → w.grownBy w' v.ownBlock → (v'.ownBlock = v.ownBlock ∨ v'.ownBlock = some w.heap.size) → Below base w w' → K (a.put o.dst v') w') : o.wp P a w K Q := by
  obtain ⟨A, c, rfl, hle, hm, hlen, hc⟩ := hsl
  obtain ⟨v', w', hrun, h2, h3, h4⟩ := run_append (P := P) w base t o.type e z size bytes ht hinfo hz hsz v n xs hown w.heap.size A m c news hlen hc h1 h63 hbytes hbase
  unfold Oper.wp execOp
  simp only [ho, resolve, invoke, builtin, Sem.run_bind, Sem.run_pure, Result.andThen_ok, List.map_toArray, List.map_cons, List.map_nil, hs, hx, hrun]
  exact h v' w' h2 h3 h4 ((Below.refl _ _).grown h3 hbase (own_ge hown))

/-- a row of the call's own, that stays as it is -/
def FRow (B : Nat) (e : TypeId) (sz n : Nat) (vs : List Value) : Fact (fun w w' => Below w.heap.size w w') := ⟨fun v w => w.ownsRow B e sz v n vs, fun _ _ _ h k => own_keeps h (keeps_below k) (fun _ _ => id)⟩

/-- the first k elements -/
theorem SlV.takeV {w : World} {sz n c : Nat} {A : Option Addr} {vs : List Value} (h : SlV w sz (.slice A n c) n vs) (k : Nat) (hk : k ≤ n) : SlV w sz (.slice A k c) k (vs.take (k * sz)) := by
  obtain ⟨A', c', he, h1, h2, h3, h4⟩ := h
  injection he with e1 e2 e3
  subst e1 e3
  have := Nat.mul_le_mul_right sz hk
  exact ⟨A, c, rfl, by omega, h2, by rw [List.length_take, h3]; omega, h4.take _⟩
end Go.Proofs.Ytoddhfabeiimkaa


namespace Go.Proofs.Ytoddhfabeiimkaa
set_option linter.unusedVariables false
set_option linter.unusedSimpArgs false
set_option maxRecDepth 100000
open Go.RowKit

def evc (e : Hb.Ev) : List Value := [.int .i64 e.kind, .int .i64 e.act, .int .i64 e.other, .int .i64 e.cell, .bool e.write, .int .i64 e.label]
def evcs (l : List Hb.Ev) : List Value := l.flatMap evc
theorem ev_cells {w : World} {B : Nat} {A : Option Addr} {l : List Hb.Ev} (h : Cells w B A (evcs l)) {k : Nat} {o : Hb.Ev} (ho : l[k]? = some o) :
    ∃ b off, A = some ⟨b, off, none⟩ ∧ b < B ∧ w.cell? ⟨b, off + k * 6, none⟩ = some (.int .i64 o.kind) ∧ w.cell? ⟨b, off + k * 6 + 1, none⟩ = some (.int .i64 o.act) ∧ w.cell? ⟨b, off + k * 6 + 2, none⟩ = some (.int .i64 o.other) ∧ w.cell? ⟨b, off + k * 6 + 3, none⟩ = some (.int .i64 o.cell) ∧ w.cell? ⟨b, off + k * 6 + 4, none⟩ = some (.bool o.write) ∧ w.cell? ⟨b, off + k * 6 + 5, none⟩ = some (.int .i64 o.label) := by
  have g : ∀ j, j < 6 → (evcs l)[k * 6 + j]? = (evc o)[j]? := fun j hj => flat_get evc 6 (fun _ => rfl) l k j o ho hj
  obtain ⟨b, off, hA, hb, hc⟩ := h.at_ (by
    intro h0
    have := g 0 (by decide)
    rw [h0] at this
    simp [evc] at this)
  refine ⟨b, off, hA, hb, hc _ _ (g 0 (by decide)), ?_, ?_, ?_, ?_, ?_⟩
  · rw [Nat.add_assoc]; exact hc _ _ (g 1 (by decide))
  · rw [Nat.add_assoc]; exact hc _ _ (g 2 (by decide))
  · rw [Nat.add_assoc]; exact hc _ _ (g 3 (by decide))
  · rw [Nat.add_assoc]; exact hc _ _ (g 4 (by decide))
  · rw [Nat.add_assoc]; exact hc _ _ (g 5 (by decide))

theorem known_any (n : Int) (b : Bool) (hb : decide (Hb.known n) = b) (w : World) : Calls Try.prog 23 #[.int .i64 n] w fun e w' => e = .returned (.bool b) ∧ w' = w := by
  by_cases h0 : 0 ≤ n
  · have g0 : decide (0 ≤ n) = true := by simpa using h0
    by_cases h1 : n < 200
    · have g1 : decide (n < 200) = true := by simpa using h1
      obtain rfl : b = true := by rw [← hb]; simp [Hb.known, h0, h1]
      clear hb h0 h1
      go_enter Try.func23, Try.ntmps23
      go_wp2
      go_ret
      exact ⟨rfl, rfl⟩
    · have g1 : decide (n < 200) = false := by simpa using h1
      obtain rfl : b = false := by rw [← hb]; simp [Hb.known, h1]
      clear hb h0 h1
      go_enter Try.func23, Try.ntmps23
      go_wp2
      go_ret
      exact ⟨rfl, rfl⟩
  · have g0 : decide (0 ≤ n) = false := by simpa using h0
    obtain rfl : b = false := by rw [← hb]; simp [Hb.known, h0]
    clear hb h0
    go_enter Try.func23, Try.ntmps23
    go_wp2
    go_ret
    exact ⟨rfl, rfl⟩

/-- a slice of words that lies in none of these blocks -/
def FarV (T : Nat → Prop) (v : Value) (xs : List Int) : Prop := xs ≠ [] → ∀ p, vptr v = some p → ¬ T p.block
theorem FarV.nil (T : Nat → Prop) (v : Value) : FarV T v [] := fun h => absurd rfl h
theorem SlI.far {S : Nat → Prop} {w w' : World} {v : Value} {xs : List Int} (h : SlI .u64 w v xs) (k : Keeps S w w') (hf : FarV S v xs) : SlI .u64 w' v xs := by
  obtain ⟨⟨A, c, rfl, h1, h2, h3, b, o, h4, h5⟩, h6⟩ := h
  refine ⟨⟨A, c, rfl, h1, h2, h3, b, o, fun hn => ⟨(h4 hn).1, Nat.lt_of_lt_of_le (h4 hn).2 k.size⟩, fun j u hu => ?_⟩, h6⟩
  have hn : ints .u64 xs ≠ [] := fun e => by rw [e] at hu; simp at hu
  obtain ⟨hA, hb⟩ := h4 hn
  exact (World.cell?_of_block (a := ⟨b, o + j, none⟩) (k.block b hb (hf (fun e => hn (by rw [e]; rfl)) _ (by rw [hA]; rfl)))).trans (h5 j u hu)
theorem FarV.new {T : Nat → Prop} {B : Nat} {v : Value} {xs : List Int} (h : VNew B v) (hT : ∀ k, T k → k < B) : FarV T v xs := fun _ p hp hk => by
  have h1 := hT _ hk
  have h2 := h p hp
  omega
theorem FarV.step {T T' : Nat → Prop} {w : World} {v : Value} {xs : List Int} (h : FarV T v xs) (hu : SlI .u64 w v xs) (hT : ∀ k, T' k → T k ∨ w.heap.size ≤ k) : FarV T' v xs := fun hn p hp hk => by
  obtain ⟨⟨A, c, rfl, h1, h2, h3, b, o, h4, h5⟩, h6⟩ := hu
  obtain ⟨hA, hb⟩ := h4 (fun e => hn (by simpa [ints] using e))
  have hp' : A = some p := hp
  rcases hT _ hk with hk | hk
  · exact h hn p hp hk
  · rw [hp'] at hA
    injection hA with hA
    rw [hA] at hk
    simp at hk
    omega
/-- clocks, row by row -/
def CkR (w : World) (vs : List Value) (cs : List (List Int)) : Prop := ∀ (i : Nat) (u : Value) (c : List Int), vs[i]? = some u → cs[i]? = some c → SlI .u64 w u c
theorem CkR.below {w w' : World} {vs : List Value} {cs : List (List Int)} (h : CkR w vs cs) (hb : Below w.heap.size w w') : CkR w' vs cs := fun i u c h1 h2 => (h i u c h1 h2).below hb
end Go.Proofs.Ytoddhfabeiimkaa


namespace Go.Proofs.Ytoddhfabeiimkaa
set_option linter.unusedVariables false
set_option linter.unusedSimpArgs false
set_option maxRecDepth 100000
open Go.ChangeShapes Go.WideShapes Go.ChangeAt Go.RowKit Go.Deep

section
variable {H : Type} {enc : TypeId × Value → H} {P : Program} {w : World}

/-- an argument that is a slice of structs of n integers -/
theorem open_els {α : Type} [Inhabited α] (F : α → List Value) {t e : TypeId} {n : Nat} {v : Value} {d : DataW H} {ps : List MemPlace} (ht : P.underlying t = some (.slice e)) (hn0 : 0 < n) (hC : P.cellsOf e = n) (hF : ∀ a, (F a).length = n) (hE : ∀ fuel cs x, DataW.trod enc P w 0 (fun _ => true) true fuel e cs = some x → ∃ a, cs = F a)
    (hv : ∃ a len cap, v = .slice a len cap) (h : DataW.Trod enc P w 0 (fun _ => true) true t v d ps) (hlt : ∀ x ∈ ps, x.block < w.heap.size) :
    ∃ rs : List α, SlV w n v rs.length (rs.flatMap F) ∧ ((d = .nil ∧ rs = []) ∨ ∃ (el sp : List (DataW H)), d = .slice el sp ∧ el.length = rs.length) := by
  obtain ⟨a0, len, cap, rfl⟩ := hv
  obtain ⟨fuel, hfu⟩ := h
  rcases open_slice ht hfu with ⟨hcs, hx⟩ | ⟨a, len', cap', m, k, D, Pl, hcs, _, hl, hm, hmm, hx, hi⟩
  · simp [Value.cells] at hcs
    obtain ⟨rfl, rfl, rfl⟩ := hcs
    simp only [Prod.mk.injEq] at hx
    exact ⟨[], SlV.nil _ _, .inl ⟨hx.1, rfl⟩⟩
  · simp [Value.cells] at hcs
    obtain ⟨rfl, rfl, rfl⟩ := hcs
    simp only [Prod.mk.injEq] at hx
    simp only [if_true] at hmm
    rw [hC] at hi hx
    have each : ∀ i, i < len → ∃ r : α, w.cells? 0 (a.add (i * n)) n = some (F r) := by
      intro i hil
      obtain ⟨cs', hc, htr⟩ := hi i (by omega)
      obtain ⟨r, hcr⟩ := hE _ _ _ htr
      exact ⟨r, by rw [hc, hcr]⟩
    obtain ⟨f, hff⟩ := choose_lt each
    have hflat : (((List.range len).map f).flatMap F).length = len * n := by
      have : ∀ l : List α, (l.flatMap F).length = l.length * n := by
        intro l
        induction l with
        | nil => simp
        | cons r l ih => rw [List.flatMap_cons, List.length_append, ih, List.length_cons, Nat.add_mul, hF]; omega
      rw [this]
      simp
    refine ⟨(List.range len).map f, ⟨some a, cap, by simp, by simpa using hl, hm, by simpa using hflat, ?_⟩, .inr ⟨_, _, hx.1, by simp⟩⟩
    by_cases h0 : len = 0
    · subst h0
      exact Cells.nil _ _ _
    · obtain ⟨b, off, spot⟩ := a
      have hcell : ∀ i, i < len → ∀ j u, (F (f i))[j]? = some u → w.cell? ((⟨b, off, spot⟩ : Addr).add (i * n + j)) = some u := by
        intro i hil j u hu
        have hj : j < n := by
          have := (List.getElem?_eq_some_iff.1 hu).1
          rw [hF] at this
          exact this
        obtain ⟨_, _, hat⟩ := World.cells?_some (hff i hil)
        have := hat j hj
        rw [Go.Deep.add_add] at this
        rw [this, hu]
      have hspot : spot = none := by
        obtain ⟨u, hu⟩ : ∃ u, (F (f 0))[0]? = some u := ⟨_, List.getElem?_eq_getElem (by rw [hF]; exact hn0)⟩
        have := hcell 0 (by omega) 0 u hu
        simpa [Addr.add] using World.cell?_spot this
      subst hspot
      refine ⟨b, off, fun _ => ⟨rfl, hlt (.cell b off) (by
        rw [hx.2]
        refine List.mem_append_left _ (MemPlace.mem_row.2 ⟨0, ?_, by simp⟩)
        exact Nat.mul_pos (by omega) hn0)⟩, fun j u hu => ?_⟩
      have hjl : j < len * n := by
        have := (List.getElem?_eq_some_iff.1 hu).1
        omega
      have hq : j / n < len := Nat.div_lt_of_lt_mul (by rw [Nat.mul_comm]; exact hjl)
      have hr : j % n < n := Nat.mod_lt _ hn0
      have hj : j = j / n * n + j % n := by have := Nat.div_add_mod j n; rw [Nat.mul_comm] at this; omega
      have hget : ((List.range len).map f)[j / n]? = some (f (j / n)) := by simp [hq]
      rw [hj, flat_get F n hF _ _ _ _ hget hr] at hu
      have := hcell _ hq _ _ hu
      rw [← hj, Addr.add_lit] at this
      exact this
end

instance : Inhabited Hb.Ev := ⟨⟨0, 0, 0, 0, false, 0⟩⟩
theorem struct_ev {H : Type} {enc : TypeId × Value → H} {w : World} (fuel : Nat) (cs : List Value) (x : DataW H × List MemPlace) (h : DataW.trod enc Try.prog w 0 (fun _ => true) true fuel 42 cs = some x) : ∃ e : Hb.Ev, cs = evc e := by
  have hT : Try.prog.underlying 42 = some (.struct (fieldsOf Try.prog 42)) := by kernel_rfl
  have hA : Try.prog.underlying 40 = some (.struct (fieldsOf Try.prog 40)) := by kernel_rfl
  obtain ⟨xs, m, rfl, rfl, hl, hxl, hfs⟩ := DataW.trod_struct hT h
  have e0 : (fieldsOf Try.prog 42)[0]?.map (fun f => (f.type, f.offset)) = some (3, 0) := by kernel_rfl
  have e1 : (fieldsOf Try.prog 42)[1]?.map (fun f => (f.type, f.offset)) = some (3, 1) := by kernel_rfl
  have e2 : (fieldsOf Try.prog 42)[2]?.map (fun f => (f.type, f.offset)) = some (3, 2) := by kernel_rfl
  have e3 : (fieldsOf Try.prog 42)[3]?.map (fun f => (f.type, f.offset)) = some (40, 3) := by kernel_rfl
  have hsz : (fieldsOf Try.prog 42).size = 4 := by kernel_rfl
  obtain ⟨f0, g0, q0⟩ := Option.map_eq_some_iff.1 e0
  obtain ⟨f1, g1, q1⟩ := Option.map_eq_some_iff.1 e1
  obtain ⟨f2, g2, q2⟩ := Option.map_eq_some_iff.1 e2
  obtain ⟨f3, g3, q3⟩ := Option.map_eq_some_iff.1 e3
  injection q0 with q0 q0'
  injection q1 with q1 q1'
  injection q2 with q2 q2'
  injection q3 with q3 q3'
  have h0 := hfs 0 f0 g0
  have h1 := hfs 1 f1 g1
  have h2 := hfs 2 f2 g2
  have h3 := hfs 3 f3 g3
  have c0 : Try.prog.cellsOf 3 = 1 := by kernel_rfl
  have c1 : Try.prog.cellsOf 40 = 3 := by kernel_rfl
  have cT : Try.prog.cellsOf 42 = 6 := by kernel_rfl
  have cB : Try.prog.cellsOf 4 = 1 := by kernel_rfl
  rw [q0, q0', c0] at h0
  rw [q1, q1', c0] at h1
  rw [q2, q2', c0] at h2
  rw [q3, q3', c1] at h3
  rw [cT] at hl
  rw [hsz] at hxl
  match xs, hxl, cs, hl with
  | [x0, x1, x2, x3], _, [v0, v1, v2, v3, v4, v5], _ =>
    simp only [List.drop_succ_cons, List.drop_zero, List.take_succ_cons, List.take_zero, List.getElem?_cons_zero, List.getElem?_cons_succ] at h0 h1 h2 h3
    obtain ⟨k0, hk0, -, -⟩ := DataW.trod_int Try.underlying3 h0
    obtain ⟨k1, hk1, -, -⟩ := DataW.trod_int Try.underlying3 h1
    obtain ⟨k2, hk2, -, -⟩ := DataW.trod_int Try.underlying3 h2
    obtain ⟨ys, m1, rfl, -, hl1, hyl, hys⟩ := DataW.trod_struct hA h3
    have d0 : (fieldsOf Try.prog 40)[0]?.map (fun f => (f.type, f.offset)) = some (3, 0) := by kernel_rfl
    have d1 : (fieldsOf Try.prog 40)[1]?.map (fun f => (f.type, f.offset)) = some (4, 1) := by kernel_rfl
    have d2 : (fieldsOf Try.prog 40)[2]?.map (fun f => (f.type, f.offset)) = some (3, 2) := by kernel_rfl
    have hsy : (fieldsOf Try.prog 40).size = 3 := by kernel_rfl
    obtain ⟨u0, w0, p0⟩ := Option.map_eq_some_iff.1 d0
    obtain ⟨u1, w1, p1⟩ := Option.map_eq_some_iff.1 d1
    obtain ⟨u2, w2, p2⟩ := Option.map_eq_some_iff.1 d2
    injection p0 with p0 p0'
    injection p1 with p1 p1'
    injection p2 with p2 p2'
    have y0 := hys 0 u0 w0
    have y1 := hys 1 u1 w1
    have y2 := hys 2 u2 w2
    rw [p0, p0', c0] at y0
    rw [p1, p1', cB] at y1
    rw [p2, p2', c0] at y2
    rw [hsy] at hyl
    match ys, hyl with
    | [z0, z1, z2], _ =>
      simp only [List.drop_succ_cons, List.drop_zero, List.take_succ_cons, List.take_zero, List.getElem?_cons_zero, List.getElem?_cons_succ] at y0 y1 y2
      obtain ⟨c, hc, -, -⟩ := DataW.trod_int Try.underlying3 y0
      obtain ⟨b, hb, -⟩ := DataW.trod_bool Try.underlying4 y1
      obtain ⟨l, hl', -, -⟩ := DataW.trod_int Try.underlying3 y2
      simp only [List.cons.injEq, and_true] at hk0 hk1 hk2 hc hb hl'
      subst hk0 hk1 hk2 hc hb hl'
      exact ⟨⟨k0, k1, k2, c, b, l⟩, rfl⟩
theorem cells_ev : Try.prog.cellsOf 42 = 6 := by kernel_rfl
theorem bytes_ev : Try.prog.bytesOf 42 = 48 := by kernel_rfl
theorem open_evs {H : Type} {enc : TypeId × Value → H} {w : World} {v : Value} {d : DataW H} {ps : List MemPlace} (hv : ∃ a len cap, v = .slice a len cap) (h : DataW.Trod enc Try.prog w 0 (fun _ => true) true 37 v d ps) (hlt : ∀ x ∈ ps, x.block < w.heap.size) :
    ∃ l : List Hb.Ev, SlV w 6 v l.length (evcs l) ∧ ((d = .nil ∧ l = []) ∨ ∃ (el sp : List (DataW H)), d = .slice el sp ∧ el.length = l.length) :=
  open_els evc Try.underlying37 (by decide) cells_ev (fun _ => rfl) struct_ev hv h hlt
end Go.Proofs.Ytoddhfabeiimkaa


namespace Go.Proofs.Ytoddhfabeiimkaa
set_option linter.unusedVariables false
set_option linter.unusedSimpArgs false
set_option maxRecDepth 100000
open Go Go.RowKit

/-- 'append(v, x)', the block's number told apart -/
theorem wp_push_at {P : Program} (w : World) {ops : Array Oper} {rest : List Oper} {o : Oper} {a : Act} {Q : Exit → Act → World → Prop} (s x : Operand) (q : Nat) (hq : w.heap.size = q)
    (base t e : TypeId) (z : Value) (size bytes : Nat) (ht : P.underlying t = some (.slice e)) (hinfo : (P.info? e).map (fun i => (i.zero, i.size, i.bytes)) = some (some z, size, bytes)) (hz : z.cells.size = size) (hsz : 0 < size)
    {v : Value} {n : Nat} {xs : List Value} (hown : w.ownsRow base e size v n xs) {c : Nat} (news : List Value) (hlen : news.length = 1 * size) (h1 : ∀ u ∈ news, u.oneCell' = true)
    (h63 : n + 1 ≤ maxLen) (hbytes : (n + 1) * bytes ≤ 140737488355328) (hbase : base ≤ w.heap.size)
    (hgd : o.guard = none) (ho : o.op = .call { callee := .builtin .append, args := #[s, x], argTypes := #[t, t] }) (hs : a.eval s = v) (hx : a.eval x = .slice (some ⟨q, 0, none⟩) 1 c)
    (h : ∀ v' w', w'.ownsRow base e size v' (n + 1) (xs ++ news) → w.grownBy w' v.ownBlock → (v'.ownBlock = v.ownBlock ∨ v'.ownBlock = some (w.heap.size + 1)) → Below base w w' → wpList P ops Q rest (a.put o.dst v') w') : wpList P ops Q (o :: rest) a (w.alloc (.cells news.toArray e)) := by
  subst hq
  exact wp_push w s x base t e z size bytes ht hinfo hz hsz hown news hlen h1 h63 hbytes hbase hgd ho hs hx h

/-- two rows of the call's own, and what was laid beside them since w0 -/
structure Two (w0 : World) (T : Nat → Prop) (B : Nat) (e1 : TypeId) (s1 : Nat) (e2 : TypeId) (s2 : Nat) (L : List (Nat × TypeId × List Value)) (w : World) (v1 : Value) (n1 : Nat) (xs1 : List Value) (v2 : Value) (n2 : Nat) (xs2 : List Value) : Prop where
  r1 : w.ownsRow B e1 s1 v1 n1 xs1
  r2 : w.ownsRow B e2 s2 v2 n2 xs2
  k : Keeps T w0 w
  base : B ≤ w.heap.size
  t1 : ∀ i, v1.ownBlock = some i → i < w0.heap.size → T i
  t2 : ∀ i, v2.ownBlock = some i → i < w0.heap.size → T i
  ap : ∀ i, v1.ownBlock = some i → v2.ownBlock ≠ some i
  src : ∀ p ∈ L, Blk w p.1 p.2.1 p.2.2 ∧ v1.ownBlock ≠ some p.1 ∧ v2.ownBlock ≠ some p.1

section
variable {w0 w : World} {T : Nat → Prop} {B s1 s2 n1 n2 : Nat} {e1 e2 : TypeId} {L : List (Nat × TypeId × List Value)} {v1 v2 : Value} {xs1 xs2 : List Value}

theorem Two.start (h1 : w0.ownsRow B e1 s1 v1 n1 xs1) (h2 : w0.ownsRow B e2 s2 v2 n2 xs2) (hb : B ≤ w0.heap.size) (hap : ∀ i, v1.ownBlock = some i → v2.ownBlock ≠ some i) :
    Two w0 (fun k => v1.ownBlock = some k ∨ v2.ownBlock = some k) B e1 s1 e2 s2 [] w0 v1 n1 xs1 v2 n2 xs2 :=
  ⟨h1, h2, Keeps.refl _ _, hb, fun i h _ => .inl h, fun i h _ => .inr h, hap, fun p h => by cases h⟩
theorem Two.drew (h : Two w0 T B e1 s1 e2 s2 L w v1 n1 xs1 v2 n2 xs2) : Two w0 T B e1 s1 e2 s2 L w.drew v1 n1 xs1 v2 n2 xs2 :=
  ⟨h.r1.drew, h.r2.drew, h.k.drewN 1, h.base, h.t1, h.t2, h.ap, fun p hp => ⟨(h.src p hp).1, (h.src p hp).2⟩⟩
theorem Two.alloc (h : Two w0 T B e1 s1 e2 s2 L w v1 n1 xs1 v2 n2 xs2) (cs : List Value) (t : TypeId) : Two w0 T B e1 s1 e2 s2 ((w.heap.size, t, cs) :: L) (w.alloc (.cells cs.toArray t)) v1 n1 xs1 v2 n2 xs2 := by
  refine ⟨h.r1.alloc _, h.r2.alloc _, h.k.alloc _, by have := h.base; simp; omega, h.t1, h.t2, h.ap, fun p hp => ?_⟩
  rcases List.mem_cons.1 hp with rfl | hp
  · exact ⟨Blk.new w t cs, fun e => by have := (h.r1.lt _ e).2; simp at this, fun e => by have := (h.r2.lt _ e).2; simp at this⟩
  · exact ⟨(h.src p hp).1.alloc _, (h.src p hp).2⟩
theorem Two.swap (h : Two w0 T B e1 s1 e2 s2 L w v1 n1 xs1 v2 n2 xs2) : Two w0 T B e2 s2 e1 s1 L w v2 n2 xs2 v1 n1 xs1 :=
  ⟨h.r2, h.r1, h.k, h.base, h.t2, h.t1, fun i h2 h1 => h.ap i h1 h2, fun p hp => ⟨(h.src p hp).1, (h.src p hp).2.2, (h.src p hp).2.1⟩⟩
theorem Two.cells (h : Two w0 T B e1 s1 e2 s2 L w v1 n1 xs1 v2 n2 xs2) {g : Nat} {t : TypeId} {cs : List Value} (hm : (g, t, cs) ∈ L) : Cells w (g + 1) (some ⟨g, 0, none⟩) cs :=
  ⟨g, 0, fun _ => ⟨rfl, Nat.lt_succ_self g⟩, fun j u hu => by rw [Nat.zero_add, (h.src _ hm).1.cell]; exact hu⟩

/-- an append to the first of them -/
theorem Two.grow (h : Two w0 T B e1 s1 e2 s2 L w v1 n1 xs1 v2 n2 xs2) {w' : World} {v' : Value} {n' : Nat} {xs' : List Value} (h1 : w'.ownsRow B e1 s1 v' n' xs') (hg : w.grownBy w' v1.ownBlock) (hv : v'.ownBlock = v1.ownBlock ∨ v'.ownBlock = some w.heap.size) :
    Two w0 T B e1 s1 e2 s2 L w' v' n' xs' v2 n2 xs2 := by
  have kk := Keeps.of_grown hg
  refine ⟨h1, own_keeps h.r2 kk (fun g e1 e2 => h.ap g e2.symm e1), h.k.step kk (fun i hi e => h.t1 i e.symm hi), Nat.le_trans h.base hg.size, fun i hi hl => ?_, h.t2, fun i hi => ?_, fun p hp => ⟨?_, ?_, (h.src p hp).2.2⟩⟩
  · rcases hv with e | e
    · exact h.t1 i (e ▸ hi) hl
    · rw [e] at hi
      injection hi with hi
      have := h.k.size
      omega
  · rcases hv with e | e
    · exact h.ap i (e ▸ hi)
    · rw [e] at hi
      injection hi with hi
      intro e2
      have := (h.r2.lt i e2).2
      omega
  · exact (h.src p hp).1.keeps kk (fun e => (h.src p hp).2.1 e.symm)
  · rcases hv with e | e
    · rw [e]; exact (h.src p hp).2.1
    · rw [e]
      intro e3
      injection e3 with e3
      have := (h.src p hp).1.lt
      omega

theorem two_append1 {P : Program} {ops : Array Oper} {o : Oper} {a : Act} {K : Act → World → Prop} {Q : Exit → Act → World → Prop} {E : Prop} {s x : Operand} {t : TypeId} (h : Two w0 T B e1 s1 e2 s2 L w v1 n1 xs1 v2 n2 xs2)
    {z : Value} {bytes : Nat} (ht : P.underlying t = some (.slice e1)) (hinfo : (P.info? e1).map (fun i => (i.zero, i.size, i.bytes)) = some (some z, s1, bytes)) (hz : z.cells.size = s1) (hsz : 0 < s1)
    {g : Nat} {news : List Value} {c : Nat} {tt : TypeId} (hm : (g, tt, news) ∈ L) (hlen : news.length = 1 * s1) (h1 : ∀ u ∈ news, u.oneCell' = true)
    (h63 : n1 + 1 ≤ maxLen) (hbytes : (n1 + 1) * bytes ≤ 140737488355328)
    (hgd : Region.wanted o (yielded ops a.tmps) = true) (ho : o.op = .call { callee := .builtin .append, args := #[s, x], argTypes := #[t, t] }) (hs : a.eval s = v1) (hx : a.eval x = .slice (some ⟨g, 0, none⟩) 1 c)
    (hK : ∀ v' w', Two w0 T B e1 s1 e2 s2 L w' v' (n1 + 1) (xs1 ++ news) v2 n2 xs2 → K (a.put o.dst v') w') :
    if Region.wanted o (yielded ops a.tmps) = true then Oper.wp P o a w K Q else E :=
  step_append s x B t e1 z s1 bytes ht hinfo hz hsz h.r1 (h.cells hm) hlen h1 h63 hbytes h.base hgd ho hs hx fun v' w' q1 q2 q3 _ => hK v' w' (h.grow q1 q2 q3)

theorem two_append2 {P : Program} {ops : Array Oper} {o : Oper} {a : Act} {K : Act → World → Prop} {Q : Exit → Act → World → Prop} {E : Prop} {s x : Operand} {t : TypeId} (h : Two w0 T B e1 s1 e2 s2 L w v1 n1 xs1 v2 n2 xs2)
    {z : Value} {bytes : Nat} (ht : P.underlying t = some (.slice e2)) (hinfo : (P.info? e2).map (fun i => (i.zero, i.size, i.bytes)) = some (some z, s2, bytes)) (hz : z.cells.size = s2) (hsz : 0 < s2)
    {g : Nat} {news : List Value} {c : Nat} {tt : TypeId} (hm : (g, tt, news) ∈ L) (hlen : news.length = 1 * s2) (h1 : ∀ u ∈ news, u.oneCell' = true)
    (h63 : n2 + 1 ≤ maxLen) (hbytes : (n2 + 1) * bytes ≤ 140737488355328)
    (hgd : Region.wanted o (yielded ops a.tmps) = true) (ho : o.op = .call { callee := .builtin .append, args := #[s, x], argTypes := #[t, t] }) (hs : a.eval s = v2) (hx : a.eval x = .slice (some ⟨g, 0, none⟩) 1 c)
    (hK : ∀ v' w', Two w0 T B e1 s1 e2 s2 L w' v1 n1 xs1 v' (n2 + 1) (xs2 ++ news) → K (a.put o.dst v') w') :
    if Region.wanted o (yielded ops a.tmps) = true then Oper.wp P o a w K Q else E :=
  two_append1 h.swap ht hinfo hz hsz hm hlen h1 h63 hbytes hgd ho hs hx fun v' w' q => hK v' w' q.swap

theorem twl_append1 {P : Program} {ops : Array Oper} {rest : List Oper} {o : Oper} {a : Act} {Q : Exit → Act → World → Prop} {s x : Operand} {t : TypeId} (h : Two w0 T B e1 s1 e2 s2 L w v1 n1 xs1 v2 n2 xs2)
    {z : Value} {bytes : Nat} (ht : P.underlying t = some (.slice e1)) (hinfo : (P.info? e1).map (fun i => (i.zero, i.size, i.bytes)) = some (some z, s1, bytes)) (hz : z.cells.size = s1) (hsz : 0 < s1)
    {g : Nat} {news : List Value} {c : Nat} {tt : TypeId} (hm : (g, tt, news) ∈ L) (hlen : news.length = 1 * s1) (h1 : ∀ u ∈ news, u.oneCell' = true)
    (h63 : n1 + 1 ≤ maxLen) (hbytes : (n1 + 1) * bytes ≤ 140737488355328)
    (hgd : o.guard = none) (ho : o.op = .call { callee := .builtin .append, args := #[s, x], argTypes := #[t, t] }) (hs : a.eval s = v1) (hx : a.eval x = .slice (some ⟨g, 0, none⟩) 1 c)
    (hK : ∀ v' w', Two w0 T B e1 s1 e2 s2 L w' v' (n1 + 1) (xs1 ++ news) v2 n2 xs2 → wpList P ops Q rest (a.put o.dst v') w') : wpList P ops Q (o :: rest) a w :=
  wp_append w s x B t e1 z s1 bytes ht hinfo hz hsz h.r1 (h.cells hm) hlen h1 h63 hbytes h.base hgd ho hs hx fun v' w' q1 q2 q3 _ => hK v' w' (h.grow q1 q2 q3)

theorem twl_append2 {P : Program} {ops : Array Oper} {rest : List Oper} {o : Oper} {a : Act} {Q : Exit → Act → World → Prop} {s x : Operand} {t : TypeId} (h : Two w0 T B e1 s1 e2 s2 L w v1 n1 xs1 v2 n2 xs2)
    {z : Value} {bytes : Nat} (ht : P.underlying t = some (.slice e2)) (hinfo : (P.info? e2).map (fun i => (i.zero, i.size, i.bytes)) = some (some z, s2, bytes)) (hz : z.cells.size = s2) (hsz : 0 < s2)
    {g : Nat} {news : List Value} {c : Nat} {tt : TypeId} (hm : (g, tt, news) ∈ L) (hlen : news.length = 1 * s2) (h1 : ∀ u ∈ news, u.oneCell' = true)
    (h63 : n2 + 1 ≤ maxLen) (hbytes : (n2 + 1) * bytes ≤ 140737488355328)
    (hgd : o.guard = none) (ho : o.op = .call { callee := .builtin .append, args := #[s, x], argTypes := #[t, t] }) (hs : a.eval s = v2) (hx : a.eval x = .slice (some ⟨g, 0, none⟩) 1 c)
    (hK : ∀ v' w', Two w0 T B e1 s1 e2 s2 L w' v1 n1 xs1 v' (n2 + 1) (xs2 ++ news) → wpList P ops Q rest (a.put o.dst v') w') : wpList P ops Q (o :: rest) a w :=
  twl_append1 h.swap ht hinfo hz hsz hm hlen h1 h63 hbytes hgd ho hs hx fun v' w' q => hK v' w' q.swap
end
end Go.Proofs.Ytoddhfabeiimkaa


namespace Go.Proofs.Ytoddhfabeiimkaa
set_option linter.unusedVariables false
set_option linter.unusedSimpArgs false
set_option maxRecDepth 100000
open Go.RowKit Go.Maps

theorem wf_i64' {a : Int} (h : -9223372036854775808 ≤ a ∧ a ≤ 9223372036854775807) : (Lit.int .i64 a).wf = true := WalkArith.wf_i64 (by omega)
theorem info_row : (Try.prog.info? 46).map (fun i => (i.zero, i.size, i.bytes)) = some (some (.slice none 0 0), 1, 24) := by kernel_rfl

def Hb.T (g : Nat) (out : Value) (b : Nat) : Prop := b = g ∨ out.ownBlock = some b
theorem FarV.mono {T T' : Nat → Prop} {v : Value} {xs : List Int} (h : FarV T v xs) (hT : ∀ k, T' k → T k) : FarV T' v xs := fun hn p hp hk => h hn p hp (hT _ hk)
/-- what the loop of Clocks holds -/
structure Hb.St (w0 : World) (B g : Nat) (wr : World) (out : Value) (f : Int → Value) (now : Int → List Int) (m k : Nat) (vs : List Value) (cs : List (List Int)) : Prop where
  map : MapV wr g m f
  row : wr.ownsRow B 46 1 out k vs
  far : ∀ x, SlI .u64 wr (f x) (now x) ∧ FarV (Hb.T g out) (f x) (now x)
  cks : ∀ (i : Nat) (u : Value) (c : List Int), vs[i]? = some u → cs[i]? = some c → SlI .u64 wr u c ∧ FarV (Hb.T g out) u c
  below : Below B w0 wr
  base : B ≤ wr.heap.size
  glt : B ≤ g
  ne : out.ownBlock ≠ some g
  len : cs.length = k
section
variable {w0 wr w' : World} {B g m k : Nat} {out : Value} {f : Int → Value} {now : Int → List Int} {vs : List Value} {cs : List (List Int)}
theorem Hb.St.tlt (h : Hb.St w0 B g wr out f now m k vs cs) : ∀ b, Hb.T g out b → b < wr.heap.size := fun b hb => by
  rcases hb with rfl | hb
  · exact h.map.lt
  · exact (h.row.lt b hb).2
theorem Hb.St.step (h : Hb.St w0 B g wr out f now m k vs cs) (hb : Below wr.heap.size wr w') : Hb.St w0 B g w' out f now m k vs cs :=
  ⟨h.map.next hb, own_keeps h.row (Keeps.of_below hb (fun _ => False)) (fun _ _ => id), fun x => ⟨(h.far x).1.below hb, (h.far x).2⟩, fun i u c h1 h2 => ⟨(h.cks i u c h1 h2).1.below hb, (h.cks i u c h1 h2).2⟩, h.below.trans (hb.mono h.base), Nat.le_trans h.base hb.size, h.glt, h.ne, h.len⟩
theorem Hb.St.set {m' : Nat} {f' : Int → Value} {now' : Int → List Int} (h : Hb.St w0 B g wr out f now m k vs cs) (hM : MapV w' g m' f') (hg : wr.grownBy w' (some g)) (hf : ∀ x, SlI .u64 wr (f' x) (now' x) ∧ FarV (Hb.T g out) (f' x) (now' x)) : Hb.St w0 B g w' out f' now' m' k vs cs := by
  have kk := Keeps.of_grown hg
  have hs : ∀ (v : Value) (xs : List Int), FarV (Hb.T g out) v xs → FarV (fun k => some k = some g) v xs := fun v xs h => h.mono (fun b hb => .inl (by injection hb))
  exact ⟨hM, own_keeps h.row kk (fun j hj e => h.ne (by rw [hj, e])), fun x => ⟨(hf x).1.far kk (hs _ _ (hf x).2), (hf x).2⟩, fun i u c h1 h2 => ⟨(h.cks i u c h1 h2).1.far kk (hs _ _ (h.cks i u c h1 h2).2), (h.cks i u c h1 h2).2⟩, h.below.trans (below_of_grown hg h.base h.glt), Nat.le_trans h.base hg.size, h.glt, h.ne, h.len⟩
theorem Hb.St.push {out' u : Value} {c : List Int} (h : Hb.St w0 B g wr out f now m k vs cs) (hr : w'.ownsRow B 46 1 out' (k + 1) (vs ++ [u])) (hg : wr.grownBy w' out.ownBlock) (hv : out'.ownBlock = out.ownBlock ∨ out'.ownBlock = some (wr.heap.size + 1)) (hb : Below B wr w')
    (hu : SlI .u64 wr u c) (hfu : FarV (Hb.T g out) u c) : Hb.St w0 B g w' out' f now m (k + 1) (vs ++ [u]) (cs ++ [c]) := by
  have kk := Keeps.of_grown hg
  have hs : ∀ (v : Value) (xs : List Int), FarV (Hb.T g out) v xs → FarV (fun k => some k = out.ownBlock) v xs := fun v xs h => h.mono (fun b hb => .inr hb.symm)
  have ht : ∀ b, Hb.T g out' b → Hb.T g out b ∨ wr.heap.size ≤ b := fun b hb => by
    rcases hb with hb | hb
    · exact .inl (.inl hb)
    · rcases hv with e | e
      · exact .inl (.inr (by rw [← e]; exact hb))
      · rw [e] at hb; injection hb with hb; exact .inr (by omega)
  have hlv : vs.length = k := by have := h.row.1; omega
  refine ⟨h.map.keep (hg.block g h.map.lt (fun e => h.ne e.symm)), hr, fun x => ⟨(h.far x).1.far kk (hs _ _ (h.far x).2), (h.far x).2.step (h.far x).1 ht⟩, fun i u' c' h1 h2 => ?_, h.below.trans hb, Nat.le_trans h.base hg.size, h.glt, ?_, by rw [List.length_append, h.len]; rfl⟩
  · rcases Nat.lt_or_ge i k with hi | hi
    · rw [List.getElem?_append_left (by omega)] at h1
      rw [List.getElem?_append_left (by rw [h.len]; exact hi)] at h2
      have := h.cks i u' c' h1 h2
      exact ⟨this.1.far kk (hs _ _ this.2), this.2.step this.1 ht⟩
    · rw [List.getElem?_append_right (by omega)] at h1
      rw [List.getElem?_append_right (by rw [h.len]; exact hi)] at h2
      rw [hlv] at h1
      rw [h.len] at h2
      obtain ⟨j, hj⟩ : ∃ j, j = i - k := ⟨_, rfl⟩
      rw [← hj] at h1 h2
      rcases j with _ | j
      · simp only [List.getElem?_cons_zero, Option.some.injEq] at h1 h2
        subst h1 h2
        exact ⟨hu.far kk (hs _ _ hfu), hfu.step hu ht⟩
      · simp at h1
  · rcases hv with e | e
    · rw [e]; exact h.ne
    · rw [e]
      intro e2
      injection e2 with e2
      have := h.map.lt
      omega
theorem Hb.far_upd {T : Nat → Prop} {a : Int} {u : Value} {c : List Int} (h : ∀ x, SlI .u64 wr (f x) (now x) ∧ FarV T (f x) (now x)) (hu : SlI .u64 wr u c) (hf : FarV T u c) : ∀ x, SlI .u64 wr (if x = a then u else f x) (Hb.upd now a c x) ∧ FarV T (if x = a then u else f x) (Hb.upd now a c x) := fun x => by
  unfold Hb.upd
  by_cases hx : x = a
  · rw [if_pos hx, if_pos hx]; exact ⟨hu, hf⟩
  · rw [if_neg hx, if_neg hx]; exact h x
end
theorem Hb.St.start (w : World) : Hb.St w w.heap.size w.heap.size (w.alloc (.map #[] 0)) (.slice none 0 0) (fun _ => .slice none 0 0) Hb.zero 0 0 [] [] := by
  have hn : ∀ w : World, SlI .u64 w (.slice none 0 0) [] := fun w => ⟨⟨none, 0, rfl, Nat.le_refl _, Nat.zero_le _, rfl, 0, 0, fun h => absurd rfl h, fun j u hu => by simp [ints] at hu⟩, fun x hx => by cases hx⟩
  exact ⟨MapV.made w, World.ownsRow_nil _ _ _ _, fun x => ⟨hn _, FarV.nil _ _⟩, fun i u c h => by simp at h, below_alloc (Below.refl _ _) _, by simp, Nat.le_refl _, by simp [Value.ownBlock], rfl⟩
theorem sl_nil64 (w : World) : SlI .u64 w (.slice none 0 0) [] := ⟨⟨none, 0, rfl, Nat.le_refl _, Nat.zero_le _, rfl, 0, 0, fun h => absurd rfl h, fun j u hu => by simp [ints] at hu⟩, fun x hx => by cases hx⟩

def FJ (B : Nat) (xs : List Int) : Fact (fun w w' => Below w.heap.size w w') := ⟨fun v w => SlI .u64 w v xs ∧ VNew B v, fun _ _ _ h k => ⟨h.1.below k, h.2⟩⟩


set_option maxHeartbeats 4000000 in
theorem clocks_any (v : Value) (l : List Hb.Ev) (w : World) (h : SlV w 6 v l.length (evcs l)) (hl : l.length ≤ 2932031007402) :
    Calls Try.prog 13 #[v] w fun e w' => ∃ u vs, e = .returned u ∧ (w'.ownsRow w.heap.size 46 1 u l.length vs ∧ CkR w' vs (Hb.clks Hb.zero l)) ∧ Below w.heap.size w w' := by
  obtain ⟨A, c, rfl, hle, hm, hlen, hc⟩ := id h
  unfold maxLen at hm
  clear hc hlen
  have hmm := @run_makeMap Try.prog
  go_enter Try.func13, Try.ntmps13
  go_wp2_with fail
  go_loopw [4, 11] (fun out i wr => ∃ (k m : Nat) (f : Int → Value) (vs : List Value), k ≤ l.length ∧ i = .int .i64 (k : Int) ∧ m ≤ 2 * k ∧ Hb.St w w.heap.size w.heap.size wr out f (Hb.after Hb.zero (l.take k)) m k vs (Hb.clks Hb.zero (l.take k))) (fun _ i _ => l.length - (intOf i).toNat)
  case atStart => exact ⟨0, 0, _, [], Nat.zero_le _, rfl, Nat.zero_le _, Hb.St.start w⟩
  case round =>
    obtain ⟨k, m, f, vs, hk, rfl, hm2, hS⟩ := hrel
    by_cases hlt : k < l.length
    · have ho : l[k]? = some l[k] := List.getElem?_eq_getElem hlt
      obtain ⟨A', c', e', -, -, -, hcc⟩ := h.below hS.below
      injection e' with e1 e2 e3
      subst e1
      obtain ⟨b, off, rfl, hbl, c0, c1, c2, c3, c4, c5⟩ := ev_cells hcc ho
      have e1 := Hb.clks_snoc l k hlt Hb.zero
      have e2 := Hb.after_snoc l k hlt Hb.zero
      have hle' := Hb.after_length (l.take k) Hb.zero (fun x => by simp [Hb.zero])
      obtain ⟨now, hnow⟩ : ∃ now, now = Hb.after Hb.zero (l.take k) := ⟨_, rfl⟩
      obtain ⟨cs, hcs⟩ : ∃ cs, cs = Hb.clks Hb.zero (l.take k) := ⟨_, rfl⟩
      obtain ⟨ev, hev⟩ : ∃ ev, ev = l[k] := ⟨_, rfl⟩
      rw [← hnow] at hS e1 e2 hle'
      rw [← hcs] at hS e1
      rw [← hev] at c0 c1 c2 c3 c4 c5 e1 e2
      have hcl := Hb.clk_length now ev hle'
      have HE := Lib.hid (And.intro e1 e2)
      have HW := Lib.hid hS.map.lt
      clear e1 e2 e3 hnow hcs hev ho hcc
      obtain ⟨kd, ac, ot, ce, wb, lb⟩ := ev
      dsimp only at c0 c1 c2 c3 c4 c5
      have hb1 : Below wr.heap.size wr (wr.alloc (.cells #[.int .i64 kd, .int .i64 ac, .int .i64 ot, .int .i64 ce, .bool wb, .int .i64 lb] 42)) := below_alloc (Below.refl _ _) _
      have S1 := hS.step hb1
      have hB1 : Blk (wr.alloc (.cells #[.int .i64 kd, .int .i64 ac, .int .i64 ot, .int .i64 ce, .bool wb, .int .i64 lb] 42)) wr.heap.size 42 [.int .i64 kd, .int .i64 ac, .int .i64 ot, .int .i64 ce, .bool wb, .int .i64 lb] := Blk.new _ _ _
      have hm63 : m < maxLen := by unfold maxLen; omega
      have HL := Lib.hid (And.intro hcl (And.intro hle' hm2))
      clear hS hb1 hcl hle' hm2
      rcases hk : decide (Hb.known ac) with _ | _
      · have hkn : ¬ Hb.known ac := of_decide_eq_false hk
        have hc0 : Hb.clk now ⟨kd, ac, ot, ce, wb, lb⟩ = [] := Hb.clk_nil hkn
        have hn0 : Hb.step now ⟨kd, ac, ot, ce, wb, lb⟩ = now := by unfold Hb.step; rw [if_neg hkn]
        have HC := Lib.hid (And.intro hc0 hn0)
        clear hc0 hn0 hkn hB1
        go_wp2_with fail
        refine (known_any _ _ hk _).mono ?_
        rintro _ _ ⟨rfl, rfl⟩
        have n63 : k + 1 ≤ maxLen := by unfold maxLen; omega
        have n47 : (k + 1) * 24 ≤ 140737488355328 := by omega
        have hrow := S1.row
        have hbase := S1.base
        go_wp2_with (first | (at_builtin; refine wp_push_at _ _ _ _ (by first | rfl | simp) _ _ _ _ _ _ Try.underlying44 info_row rfl (by decide) hrow [(.slice none 0 0)] rfl (by simp [Value.oneCell']) n63 n47 hbase rfl rfl rfl rfl ?_; intro v7 w7 hr7 hg7 hv7 hb7) | fail)
        have HP := Lib.hid (S1.push hr7 hg7 hv7 hb7 (sl_nil64 _) (FarV.nil _ _))
        clear hr7 hg7 hv7 hb7
        go_roundw
        case rel => exact ⟨k + 1, m, f, _, by omega, by go_num, by have := HL.out.2.2; omega, by rw [HE.out.1, HE.out.2, HC.out.1, HC.out.2]; exact HP.out⟩
        case measure => simp [intOf]; omega
      · have hkn : Hb.known ac := of_decide_eq_true hk
        have hwa : (Lit.int .i64 ac).wf = true := wf_i64' (by unfold Hb.known at hkn; omega)
        have hlook1 := S1.map.look hwa
        rcases ho : decide (Hb.known ot) with _ | _
        · have hon : ¬ Hb.known ot := of_decide_eq_false ho
          have hc0 : Hb.clk now ⟨kd, ac, ot, ce, wb, lb⟩ = Vec.tick (now ac) ac := by unfold Hb.clk; rw [if_pos hkn, if_neg (fun h => hon h.1)]
          have hn0 : Hb.step now ⟨kd, ac, ot, ce, wb, lb⟩ = Hb.upd now ac (Vec.tick (now ac) ac) := by unfold Hb.step Hb.one; rw [if_pos hkn, if_neg (fun h => hon h.1), if_pos hkn, hc0]
          have HC := Lib.hid (And.intro hc0 hn0)
          have hlc : (Vec.tick (now ac) ac).length ≤ 65536 := by rw [← hc0]; exact HL.out.1
          clear hc0 hn0 hkn hon
          go_wp2_with fail
          refine (known_any _ _ hk _).mono ?_
          rintro _ _ ⟨rfl, rfl⟩
          go_wp2_with fail
          refine (tick_new (f ac) (now ac) ac _ (S1.far ac).1 (by have := HL.out.2.1 ac; omega)).mono ?_
          rintro _ w2 ⟨u, rfl, ⟨hu, hvn⟩, hb2⟩
          have S2 := S1.step hb2
          have hB2 := hB1.below hb2
          have hfu : FarV (Hb.T w.heap.size u4) u (Vec.tick (now ac) ac) := FarV.new hvn S1.tlt
          have d0 : w2.cell? ⟨wr.heap.size, 0, none⟩ = some (.int .i64 kd) := by rw [hB2.cell]; rfl
          have d1 : w2.cell? ⟨wr.heap.size, 1, none⟩ = some (.int .i64 ac) := by rw [hB2.cell]; rfl
          have d2 : w2.cell? ⟨wr.heap.size, 2, none⟩ = some (.int .i64 ot) := by rw [hB2.cell]; rfl
          clear hvn
          go_wp2_with fail
          refine (known_any _ _ ho _).mono ?_
          rintro _ w2 ⟨rfl, rfl⟩
          have hMx := S2.map
          go_wp2_with (first | (at_mapUpdate; refine wp_mapset rfl _ rfl _ _ _ rfl w.heap.size m _ rfl hMx hm63 _ _ rfl rfl hwa ?_; intro w3 hM3 hg3; have S3 := S2.set hM3 hg3 (Hb.far_upd S2.far hu hfu); have h3 := hu.far (Keeps.of_grown hg3) (FarV.mono hfu (fun b hb => .inl (by injection hb))); have hB3 := hB2.grown hg3 (by intro e; injection e with e; have := HW.out; omega); have x0 : w3.cell? ⟨wr.heap.size, 0, none⟩ = some (.int .i64 kd) := (by rw [hB3.cell]; rfl); have x1 : w3.cell? ⟨wr.heap.size, 1, none⟩ = some (.int .i64 ac) := (by rw [hB3.cell]; rfl); have x2 : w3.cell? ⟨wr.heap.size, 2, none⟩ = some (.int .i64 ot) := (by rw [hB3.cell]; rfl); clear hM3 hg3) | fail)
          refine (known_any _ _ ho _).mono ?_
          rintro _ w3 ⟨rfl, rfl⟩
          go_wp2_with fail
          refine (clone_any u (Vec.tick (now ac) ac) _ h3 (by omega)).mono ?_
          rintro _ w5 ⟨uc, rfl, hown5, hb5⟩
          have S5 := S3.step hb5
          have huc := SlI.of_own hown5 h3.2
          have hfc : FarV (Hb.T w.heap.size u4) uc (Vec.tick (now ac) ac) := FarV.new (vnew_own hown5) S3.tlt
          obtain ⟨Ac, cc, rfl, -⟩ := own_slice hown5
          have n63 : k + 1 ≤ maxLen := by unfold maxLen; omega
          have n47 : (k + 1) * 24 ≤ 140737488355328 := by omega
          have hrow := S5.row
          have hbase := S5.base
          go_wp2_with (first | (at_builtin; refine wp_push_at _ _ _ _ (by first | rfl | simp) _ _ _ _ _ _ Try.underlying44 info_row rfl (by decide) hrow [(.slice Ac (Vec.tick (now ac) ac).length cc)] rfl (by simp [Value.oneCell']) n63 n47 hbase rfl rfl rfl rfl ?_; intro v7 w7 hr7 hg7 hv7 hb7) | fail)
          have HP := Lib.hid (S5.push hr7 hg7 hv7 hb7 huc hfc)
          clear hr7 hg7 hv7 hb7
          go_roundw
          case rel => exact ⟨k + 1, m + 1, _, _, by omega, by go_num, by have := HL.out.2.2; omega, by rw [HE.out.1, HE.out.2, HC.out.1, HC.out.2]; exact HP.out⟩
          case measure => simp [intOf]; omega
        · have hon : Hb.known ot := of_decide_eq_true ho
          have hwo : (Lit.int .i64 ot).wf = true := wf_i64' (by unfold Hb.known at hon; omega)
          have hlt1 : (Vec.tick (now ac) ac).length ≤ 65536 := by
            have := Hb.clk_length now ⟨0, ac, ot, ce, wb, lb⟩ HL.out.2.1
            rwa [show Hb.clk now ⟨0, ac, ot, ce, wb, lb⟩ = Vec.tick (now ac) ac from by unfold Hb.clk; rw [if_pos hkn, if_neg (fun h => by have := h.2; simp at this)]] at this
          rcases h4 : (kd == 4) with _ | _
          · have h4n : kd ≠ 4 := by simpa using h4
            have hc0 : Hb.clk now ⟨kd, ac, ot, ce, wb, lb⟩ = Vec.tick (now ac) ac := by unfold Hb.clk; rw [if_pos hkn, if_neg (fun h => h4n h.2)]
            rcases h2 : (kd == 2) with _ | _
            · have h2n : kd ≠ 2 := by simpa using h2
              have hn0 : Hb.step now ⟨kd, ac, ot, ce, wb, lb⟩ = Hb.upd now ac (Vec.tick (now ac) ac) := by unfold Hb.step Hb.one; rw [if_pos hkn, if_neg (fun h => h2n h.2), if_pos hkn, hc0]
              have HC := Lib.hid (And.intro hc0 hn0)
              clear hc0 hn0 hkn hon h4n h2n
              go_wp2_with fail
              refine (known_any _ _ hk _).mono ?_
              rintro _ _ ⟨rfl, rfl⟩
              go_wp2_with fail
              refine (tick_new (f ac) (now ac) ac _ (S1.far ac).1 (by have := HL.out.2.1 ac; omega)).mono ?_
              rintro _ w2 ⟨u, rfl, ⟨hu, hvn⟩, hb2⟩
              have S2 := S1.step hb2
              have hB2 := hB1.below hb2
              have hfu : FarV (Hb.T w.heap.size u4) u (Vec.tick (now ac) ac) := FarV.new hvn S1.tlt
              have d0 : w2.cell? ⟨wr.heap.size, 0, none⟩ = some (.int .i64 kd) := by rw [hB2.cell]; rfl
              have d1 : w2.cell? ⟨wr.heap.size, 1, none⟩ = some (.int .i64 ac) := by rw [hB2.cell]; rfl
              have d2 : w2.cell? ⟨wr.heap.size, 2, none⟩ = some (.int .i64 ot) := by rw [hB2.cell]; rfl
              clear hvn
              go_wp2_with fail
              refine (known_any _ _ ho _).mono ?_
              rintro _ w2 ⟨rfl, rfl⟩
              have hMx := S2.map
              go_wp2_with (first | (at_mapUpdate; refine wp_mapset rfl _ rfl _ _ _ rfl w.heap.size m _ rfl hMx hm63 _ _ rfl rfl hwa ?_; intro w3 hM3 hg3; have S3 := S2.set hM3 hg3 (Hb.far_upd S2.far hu hfu); have h3 := hu.far (Keeps.of_grown hg3) (FarV.mono hfu (fun b hb => .inl (by injection hb))); have hB3 := hB2.grown hg3 (by intro e; injection e with e; have := HW.out; omega); have x0 : w3.cell? ⟨wr.heap.size, 0, none⟩ = some (.int .i64 kd) := (by rw [hB3.cell]; rfl); have x1 : w3.cell? ⟨wr.heap.size, 1, none⟩ = some (.int .i64 ac) := (by rw [hB3.cell]; rfl); have x2 : w3.cell? ⟨wr.heap.size, 2, none⟩ = some (.int .i64 ot) := (by rw [hB3.cell]; rfl); clear hM3 hg3) | fail)
              refine (known_any _ _ ho _).mono ?_
              rintro _ w3 ⟨rfl, rfl⟩
              go_wp2_with fail
              refine (clone_any u (Vec.tick (now ac) ac) _ h3 (by omega)).mono ?_
              rintro _ w5 ⟨uc, rfl, hown5, hb5⟩
              have S5 := S3.step hb5
              have huc := SlI.of_own hown5 h3.2
              have hfc : FarV (Hb.T w.heap.size u4) uc (Vec.tick (now ac) ac) := FarV.new (vnew_own hown5) S3.tlt
              obtain ⟨Ac, cc, rfl, -⟩ := own_slice hown5
              have n63 : k + 1 ≤ maxLen := by unfold maxLen; omega
              have n47 : (k + 1) * 24 ≤ 140737488355328 := by omega
              have hrow := S5.row
              have hbase := S5.base
              go_wp2_with (first | (at_builtin; refine wp_push_at _ _ _ _ (by first | rfl | simp) _ _ _ _ _ _ Try.underlying44 info_row rfl (by decide) hrow [(.slice Ac (Vec.tick (now ac) ac).length cc)] rfl (by simp [Value.oneCell']) n63 n47 hbase rfl rfl rfl rfl ?_; intro v7 w7 hr7 hg7 hv7 hb7) | fail)
              have HP := Lib.hid (S5.push hr7 hg7 hv7 hb7 huc hfc)
              clear hr7 hg7 hv7 hb7
              go_roundw
              case rel => exact ⟨k + 1, m + 1, _, _, by omega, by go_num, by have := HL.out.2.2; omega, by rw [HE.out.1, HE.out.2, HC.out.1, HC.out.2]; exact HP.out⟩
              case measure => simp [intOf]; omega
            · obtain rfl : kd = 2 := by simpa using h2
              have hn0 : Hb.step now ⟨2, ac, ot, ce, wb, lb⟩ = Hb.upd (Hb.upd now ac (Vec.tick (now ac) ac)) ot (Vec.join (Hb.upd now ac (Vec.tick (now ac) ac) ot) (Vec.tick (now ac) ac)) := by
                have e1 : Hb.one now ⟨2, ac, ot, ce, wb, lb⟩ = Hb.upd now ac (Vec.tick (now ac) ac) := by unfold Hb.one; rw [if_pos hkn, hc0]
                unfold Hb.step
                rw [if_pos hkn, if_pos ⟨hon, rfl⟩, e1, hc0]
              have HC := Lib.hid (And.intro hc0 hn0)
              clear hc0 hn0 hkn hon h4n h2 h4
              go_wp2_with fail
              refine (known_any _ _ hk _).mono ?_
              rintro _ _ ⟨rfl, rfl⟩
              go_wp2_with fail
              refine (tick_new (f ac) (now ac) ac _ (S1.far ac).1 (by have := HL.out.2.1 ac; omega)).mono ?_
              rintro _ w2 ⟨u, rfl, ⟨hu, hvn⟩, hb2⟩
              have S2 := S1.step hb2
              have hB2 := hB1.below hb2
              have hfu : FarV (Hb.T w.heap.size u4) u (Vec.tick (now ac) ac) := FarV.new hvn S1.tlt
              have d0 : w2.cell? ⟨wr.heap.size, 0, none⟩ = some (.int .i64 2) := by rw [hB2.cell]; rfl
              have d1 : w2.cell? ⟨wr.heap.size, 1, none⟩ = some (.int .i64 ac) := by rw [hB2.cell]; rfl
              have d2 : w2.cell? ⟨wr.heap.size, 2, none⟩ = some (.int .i64 ot) := by rw [hB2.cell]; rfl
              clear hvn
              go_wp2_with fail
              refine (known_any _ _ ho _).mono ?_
              rintro _ w2 ⟨rfl, rfl⟩
              have hMx := S2.map
              go_wp2_with (first | (at_mapUpdate; refine wp_mapset rfl _ rfl _ _ _ rfl w.heap.size m _ rfl hMx hm63 _ _ rfl rfl hwa ?_; intro w3 hM3 hg3; have S3 := S2.set hM3 hg3 (Hb.far_upd S2.far hu hfu); have h3 := hu.far (Keeps.of_grown hg3) (FarV.mono hfu (fun b hb => .inl (by injection hb))); have hB3 := hB2.grown hg3 (by intro e; injection e with e; have := HW.out; omega); have x0 : w3.cell? ⟨wr.heap.size, 0, none⟩ = some (.int .i64 2) := (by rw [hB3.cell]; rfl); have x1 : w3.cell? ⟨wr.heap.size, 1, none⟩ = some (.int .i64 ac) := (by rw [hB3.cell]; rfl); have x2 : w3.cell? ⟨wr.heap.size, 2, none⟩ = some (.int .i64 ot) := (by rw [hB3.cell]; rfl); clear hM3 hg3) | fail)
              refine (known_any _ _ ho _).mono ?_
              rintro _ w3 ⟨rfl, rfl⟩
              obtain ⟨f3, S3⟩ : ∃ f3, Hb.St w w.heap.size w.heap.size w3 u4 f3 (Hb.upd now ac (Vec.tick (now ac) ac)) (m + 1) k vs cs := ⟨_, S3⟩
              have hl3 : (Hb.upd now ac (Vec.tick (now ac) ac) ot).length ≤ 65536 := by
                unfold Hb.upd
                split
                · exact hlt1
                · exact HL.out.2.1 ot
              obtain ⟨n3, hn3⟩ : ∃ n3, n3 = Hb.upd now ac (Vec.tick (now ac) ac) := ⟨_, rfl⟩
              rw [← hn3] at S3 hl3
              have HN := Lib.hid hn3
              clear hn3
              have keepS : ∀ w', Below w3.heap.size w3 w' → (Below w3.heap.size w3 w' ∧ w'.cell? ⟨wr.heap.size, 2, none⟩ = some (.int .i64 ot) ∧ (Instr.lookup 67 (.map (some w.heap.size)) (.int .i64 ot) false).run Try.prog w' = .ok (f3 ot) w') := fun w' hb =>
                ⟨hb, by rw [(hB3.below hb).cell]; rfl, (S3.map.next hb).look hwo⟩
              have hS0 := keepS _ (below_drew (Below.refl _ _))
              go_wp2_with fail
              refine wp_walk_last (by kernel_rfl) (by kernel_rfl) (fun w w' => Below w.heap.size w w') (fun w' => (Below w3.heap.size w3 w' ∧ w'.cell? ⟨wr.heap.size, 2, none⟩ = some (.int .i64 ot) ∧ (Instr.lookup 67 (.map (some w.heap.size)) (.int .i64 ot) false).run Try.prog w' = .ok (f3 ot) w')) hS0 ?_
              simp only [List.length_cons, List.length_nil, Nat.reduceAdd, Nat.reduceSub, List.take_succ_cons, List.take_zero, List.drop_succ_cons, List.drop_zero]
              repeat (first | (refine settle_skip (fun _ => by rfl) ?_; (simp only [Act.put, List.setIfInBounds_toArray, List.set_cons_zero, List.set_cons_succ])) | (refine' settle_run (fun _ _ => Below.refl _ _) (fun _ => by rfl) ?_ ?_; rotate_left; (focus (intro ρ w hS hF; (try dsimp only at hS); go_split_ands; go_simp; try with_reducible rfl)); (simp only [Act.put, List.setIfInBounds_toArray, List.set_cons_zero, List.set_cons_succ])))
              (refine settle_known (FJ w3.heap.size (Vec.join (n3 ot) (Vec.tick (now ac) ac))) (by rfl) (fun _ => by rfl)  ?_ ?_; (focus (intro ρ w hS hF K hK; (simp only [Act.put, List.setIfInBounds_toArray, List.set_cons_zero, List.set_cons_succ] at hK); go_simp; (refine (join_new (f3 ot) u _ _ _ ((S3.far ot).1.below hS.1) (h3.below hS.1) (by omega) (by omega)).mono ?_; rintro e w6 ⟨v, rfl, ⟨hF', hn'⟩, hb'⟩; exact hK _ _ ⟨hF', hn'.mono hS.1.size⟩ (keepS _ (below_next hb' hS.1)) hb'))); (simp only [Act.put, List.setIfInBounds_toArray, List.set_cons_zero, List.set_cons_succ]))
              repeat (first | (refine settle_skip (fun _ => by rfl) ?_; (simp only [Act.put, List.setIfInBounds_toArray, List.set_cons_zero, List.set_cons_succ])) | (refine' settle_run (fun _ _ => Below.refl _ _) (fun _ => by rfl) ?_ ?_; rotate_left; (focus (intro ρ w hS hF; (try dsimp only at hS); go_split_ands; go_simp; try with_reducible rfl)); (simp only [Act.put, List.setIfInBounds_toArray, List.set_cons_zero, List.set_cons_succ])))
              refine settle_nil ?_
              intro ρ w5 hS hF
              have hU : SlI .u64 w5 (ρ 63) (Vec.join (n3 ot) (Vec.tick (now ac) ac)) ∧ VNew w3.heap.size (ρ 63) := hF 63 (FJ w3.heap.size (Vec.join (n3 ot) (Vec.tick (now ac) ac))) (by repeat (first | exact List.mem_cons_self | apply List.mem_cons_of_mem))
              have hb5 := hS.1
              clear hF hS hS0 keepS
              dsimp only
              generalize ρ 63 = uj at hU ⊢
              have hfj : FarV (Hb.T w.heap.size u4) uj (Vec.join (n3 ot) (Vec.tick (now ac) ac)) := FarV.new hU.2 S3.tlt
              have S5 := S3.step hb5
              have h5 := h3.below hb5
              refine wp_mapset rfl _ rfl _ _ _ rfl w.heap.size (m + 1) _ rfl S5.map (by unfold maxLen; have := HL.out.2.2; omega) _ _ rfl rfl hwo ?_
              intro w6 hM6 hg6
              have S6 := S5.set hM6 hg6 (Hb.far_upd S5.far hU.1 hfj)
              have h6 := h5.far (Keeps.of_grown hg6) (FarV.mono hfu (fun b hb => .inl (by injection hb)))
              clear hM6 hg6 hU
              go_wp2_with fail
              refine (clone_any u (Vec.tick (now ac) ac) _ h6 (by omega)).mono ?_
              rintro _ w5 ⟨uc, rfl, hown5, hb5⟩
              have S5 := S6.step hb5
              have huc := SlI.of_own hown5 h6.2
              have hfc : FarV (Hb.T w.heap.size u4) uc (Vec.tick (now ac) ac) := FarV.new (vnew_own hown5) S6.tlt
              obtain ⟨Ac, cc, rfl, -⟩ := own_slice hown5
              have n63 : k + 1 ≤ maxLen := by unfold maxLen; omega
              have n47 : (k + 1) * 24 ≤ 140737488355328 := by omega
              have hrow := S5.row
              have hbase := S5.base
              go_wp2_with (first | (at_builtin; refine wp_push_at _ _ _ _ (by first | rfl | simp) _ _ _ _ _ _ Try.underlying44 info_row rfl (by decide) hrow [(.slice Ac (Vec.tick (now ac) ac).length cc)] rfl (by simp [Value.oneCell']) n63 n47 hbase rfl rfl rfl rfl ?_; intro v7 w7 hr7 hg7 hv7 hb7) | fail)
              have HP := Lib.hid (S5.push hr7 hg7 hv7 hb7 huc hfc)
              clear hr7 hg7 hv7 hb7
              go_roundw
              case rel => exact ⟨k + 1, m + 1 + 1, _, _, by omega, by go_num, by have := HL.out.2.2; omega, by rw [HE.out.1, HE.out.2, HC.out.1, HC.out.2, ← HN.out]; exact HP.out⟩
              case measure => simp [intOf]; omega
          · obtain rfl : kd = 4 := by simpa using h4
            have hc0 : Hb.clk now ⟨4, ac, ot, ce, wb, lb⟩ = Vec.join (Vec.tick (now ac) ac) (now ot) := by unfold Hb.clk; rw [if_pos hkn, if_pos ⟨hon, rfl⟩]
            have hn0 : Hb.step now ⟨4, ac, ot, ce, wb, lb⟩ = Hb.upd now ac (Vec.join (Vec.tick (now ac) ac) (now ot)) := by unfold Hb.step Hb.one; rw [if_pos hkn, if_neg (fun h => by have := h.2; simp at this), if_pos hkn, hc0]
            have HC := Lib.hid (And.intro hc0 hn0)
            have hlj : (Vec.join (Vec.tick (now ac) ac) (now ot)).length ≤ 65536 := by rw [← hc0]; exact HL.out.1
            clear hc0 hn0 hkn hon h4
            go_wp2_with fail
            refine (known_any _ _ hk _).mono ?_
            rintro _ _ ⟨rfl, rfl⟩
            go_wp2_with fail
            refine (tick_new (f ac) (now ac) ac _ (S1.far ac).1 (by have := HL.out.2.1 ac; omega)).mono ?_
            rintro _ w2 ⟨u, rfl, ⟨hu, hvn⟩, hb2⟩
            have S2 := S1.step hb2
            have hB2 := hB1.below hb2
            have hfu : FarV (Hb.T w.heap.size u4) u (Vec.tick (now ac) ac) := FarV.new hvn S1.tlt
            have d0 : w2.cell? ⟨wr.heap.size, 0, none⟩ = some (.int .i64 4) := by rw [hB2.cell]; rfl
            have d1 : w2.cell? ⟨wr.heap.size, 1, none⟩ = some (.int .i64 ac) := by rw [hB2.cell]; rfl
            have d2 : w2.cell? ⟨wr.heap.size, 2, none⟩ = some (.int .i64 ot) := by rw [hB2.cell]; rfl
            clear hvn
            go_wp2_with fail
            refine (known_any _ _ ho _).mono ?_
            rintro _ w2 ⟨rfl, rfl⟩
            have hlook2 := S2.map.look hwo
            go_wp2_with fail
            refine (join_new u (f ot) _ _ _ hu (S2.far ot).1 (by omega) (by have := HL.out.2.1 ot; omega)).mono ?_
            rintro _ w4 ⟨uj, rfl, ⟨huj, hvj⟩, hb4⟩
            have S4 := S2.step hb4
            have hB4 := hB2.below hb4
            have hfj : FarV (Hb.T w.heap.size u4) uj (Vec.join (Vec.tick (now ac) ac) (now ot)) := FarV.new hvj S2.tlt
            have d0' : w4.cell? ⟨wr.heap.size, 0, none⟩ = some (.int .i64 4) := by rw [hB4.cell]; rfl
            have d1' : w4.cell? ⟨wr.heap.size, 1, none⟩ = some (.int .i64 ac) := by rw [hB4.cell]; rfl
            have d2' : w4.cell? ⟨wr.heap.size, 2, none⟩ = some (.int .i64 ot) := by rw [hB4.cell]; rfl
            clear hvj
            have hMx := S4.map
            go_wp2_with (first | (at_mapUpdate; refine wp_mapset rfl _ rfl _ _ _ rfl w.heap.size m _ rfl hMx hm63 _ _ rfl rfl hwa ?_; intro w3 hM3 hg3; have S3 := S4.set hM3 hg3 (Hb.far_upd S4.far huj hfj); have h3 := huj.far (Keeps.of_grown hg3) (FarV.mono hfj (fun b hb => .inl (by injection hb))); have hB3 := hB4.grown hg3 (by intro e; injection e with e; have := HW.out; omega); have x0 : w3.cell? ⟨wr.heap.size, 0, none⟩ = some (.int .i64 4) := (by rw [hB3.cell]; rfl); have x1 : w3.cell? ⟨wr.heap.size, 1, none⟩ = some (.int .i64 ac) := (by rw [hB3.cell]; rfl); have x2 : w3.cell? ⟨wr.heap.size, 2, none⟩ = some (.int .i64 ot) := (by rw [hB3.cell]; rfl); clear hM3 hg3) | fail)
            refine (known_any _ _ ho _).mono ?_
            rintro _ w3 ⟨rfl, rfl⟩
            go_wp2_with fail
            refine (clone_any uj (Vec.join (Vec.tick (now ac) ac) (now ot)) _ h3 (by omega)).mono ?_
            rintro _ w5 ⟨uc, rfl, hown5, hb5⟩
            have S5 := S3.step hb5
            have huc := SlI.of_own hown5 h3.2
            have hfc : FarV (Hb.T w.heap.size u4) uc (Vec.join (Vec.tick (now ac) ac) (now ot)) := FarV.new (vnew_own hown5) S3.tlt
            obtain ⟨Ac, cc, rfl, -⟩ := own_slice hown5
            have n63 : k + 1 ≤ maxLen := by unfold maxLen; omega
            have n47 : (k + 1) * 24 ≤ 140737488355328 := by omega
            have hrow := S5.row
            have hbase := S5.base
            go_wp2_with (first | (at_builtin; refine wp_push_at _ _ _ _ (by first | rfl | simp) _ _ _ _ _ _ Try.underlying44 info_row rfl (by decide) hrow [(.slice Ac (Vec.join (Vec.tick (now ac) ac) (now ot)).length cc)] rfl (by simp [Value.oneCell']) n63 n47 hbase rfl rfl rfl rfl ?_; intro v7 w7 hr7 hg7 hv7 hb7) | fail)
            have HP := Lib.hid (S5.push hr7 hg7 hv7 hb7 huc hfc)
            clear hr7 hg7 hv7 hb7
            go_roundw
            case rel => exact ⟨k + 1, m + 1, _, _, by omega, by go_num, by have := HL.out.2.2; omega, by rw [HE.out.1, HE.out.2, HC.out.1, HC.out.2]; exact HP.out⟩
            case measure => simp [intOf]; omega
    · obtain rfl : k = l.length := by omega
      rw [List.take_length] at hS
      have hr := hS.row
      obtain ⟨Ao, co, rfl, -, -⟩ := own_slice hr
      have HS := Lib.hid hS
      clear hS
      go_wp2_with fail
      go_ret
      exact ⟨_, vs, rfl, ⟨hr, fun i u c h1 h2 => (HS.out.cks i u c h1 h2).1⟩, HS.out.below⟩
end Go.Proofs.Ytoddhfabeiimkaa


namespace Go.Proofs.Ytoddhfabeiimkaa
set_option linter.unusedVariables false
set_option linter.unusedSimpArgs false
set_option maxRecDepth 100000
open Go.RowKit Go.Maps

def Hb.actAt (l : List Hb.Ev) (i : Int) : Int := match l[i.toNat]? with | some e => e.act | none => 0
def Hb.cat (l : List Hb.Ev) (i : Int) : List Int := (Hb.clks Hb.zero l).getD i.toNat []
def Hb.ahead (l : List Hb.Ev) (i j : Int) : Bool := decide (0 ≤ i) && (decide (j < l.length) && (decide (i < j) && (decide (Hb.known (Hb.actAt l i)) && (decide (Hb.known (Hb.actAt l j)) && decide (Vec.hand (Hb.cat l i) (Hb.actAt l i) ≤ Vec.hand (Hb.cat l j) (Hb.actAt l i))))))
theorem Hb.actAt_nat (l : List Hb.Ev) {i : Nat} (h : i < l.length) : Hb.actAt l i = l[i].act := by
  unfold Hb.actAt
  rw [Int.toNat_natCast, List.getElem?_eq_getElem h]
theorem Hb.cat_nat (l : List Hb.Ev) {i : Nat} (h : i < l.length) : Hb.cat l i = Hb.clk (Hb.after Hb.zero (l.take i)) l[i] := by
  unfold Hb.cat
  rw [Int.toNat_natCast, List.getD_eq_getElem?_getD, Hb.clks_get l Hb.zero i h]
  rfl


set_option maxHeartbeats 1000000 in
theorem ahead_any (v : Value) (l : List Hb.Ev) (i j : Int) (r : Bool) (hr : Hb.ahead l i j = r) (w : World) (h : SlV w 6 v l.length (evcs l)) (hl : l.length ≤ 2932031007402) :
    Calls Try.prog 12 #[v, .int .i64 i, .int .i64 j] w fun e w' => e = .returned (.bool r) ∧ Below w.heap.size w w' := by
  obtain ⟨A, c, rfl, hle, hm, hlen, hc⟩ := id h
  unfold maxLen at hm
  clear hlen
  by_cases h0 : i < 0
  · have g0 : decide (i < 0) = true := by simpa using h0
    obtain rfl : r = false := by rw [← hr]; unfold Hb.ahead; rw [show decide (0 ≤ i) = false by simp; omega]; rfl
    clear hr h
    clear hc hm
    go_enter Try.func12, Try.ntmps12
    go_wp2
    go_ret
    exact ⟨rfl, Below.refl _ _⟩
  have p0 : decide (0 ≤ i) = true := by simp; omega
  by_cases h1 : (l.length : Int) ≤ j
  · obtain rfl : r = false := by rw [← hr]; unfold Hb.ahead; rw [show decide (j < (l.length : Int)) = false by simp; omega]; simp
    clear hr h
    clear hc hm
    go_enter Try.func12, Try.ntmps12
    go_wp2
    go_ret
    exact ⟨rfl, Below.refl _ _⟩
  have p1 : decide (j < (l.length : Int)) = true := by simp; omega
  by_cases h2 : j ≤ i
  · obtain rfl : r = false := by rw [← hr]; unfold Hb.ahead; rw [show decide (i < j) = false by simp; omega]; simp
    clear hr h p0 p1
    clear hc hm
    go_enter Try.func12, Try.ntmps12
    go_wp2
    go_ret
    exact ⟨rfl, Below.refl _ _⟩
  have p2 : decide (i < j) = true := by simp; omega
  obtain ⟨i, rfl⟩ := Int.eq_ofNat_of_zero_le (show 0 ≤ i by omega)
  obtain ⟨j, rfl⟩ := Int.eq_ofNat_of_zero_le (show 0 ≤ j by omega)
  have hil : i < l.length := by omega
  have hjl : j < l.length := by omega
  have hij : i < j := by omega
  have hr2 : (decide (Hb.known l[i].act) && (decide (Hb.known l[j].act) && decide (Vec.hand (Hb.cat l i) l[i].act ≤ Vec.hand (Hb.cat l j) l[i].act))) = r := by
    rw [← hr]
    unfold Hb.ahead
    rw [p0, p1, p2, Hb.actAt_nat l hil, Hb.actAt_nat l hjl]
    rfl
  have hmi := List.getElem?_eq_getElem hil
  have hmj := List.getElem?_eq_getElem hjl
  obtain ⟨b, off, rfl, hbl, -, ci1, -⟩ := ev_cells hc hmi
  obtain ⟨b', off', hA, -, -, cj1, -⟩ := ev_cells hc hmj
  injection hA with hA
  injection hA with hb' ho'
  subst hb' ho'
  obtain ⟨ai, hai⟩ : ∃ ai, ai = l[i].act := ⟨_, rfl⟩
  obtain ⟨aj, haj⟩ : ∃ aj, aj = l[j].act := ⟨_, rfl⟩
  rw [← hai] at ci1 hr2
  rw [← haj] at cj1 hr2
  clear hr p0 p1 p2 hmi hmj hai haj h0 h1 h2 hc
  rcases hki : decide (Hb.known ai) with _ | _
  · obtain rfl : r = false := by rw [← hr2, hki]; rfl
    clear hr2 h
    go_enter Try.func12, Try.ntmps12
    go_wp2_with fail
    refine (known_any _ _ hki _).mono ?_
    rintro _ _ ⟨rfl, rfl⟩
    go_wp2
    go_ret
    exact ⟨rfl, Below.refl _ _⟩
  rcases hkj : decide (Hb.known aj) with _ | _
  · obtain rfl : r = false := by rw [← hr2, hki, hkj]; rfl
    clear hr2 h
    go_enter Try.func12, Try.ntmps12
    go_wp2_with fail
    refine (known_any _ _ hki _).mono ?_
    rintro _ _ ⟨rfl, rfl⟩
    go_wp2_with fail
    refine (known_any _ _ hkj _).mono ?_
    rintro _ _ ⟨rfl, rfl⟩
    go_wp2
    go_ret
    exact ⟨rfl, Below.refl _ _⟩
  rw [hki, hkj, Bool.true_and, Bool.true_and] at hr2
  have hcl := clocks_any _ l w h hl
  have HR := Lib.hid hr2
  clear hr2
  go_enter Try.func12, Try.ntmps12
  go_wp2_with fail
  refine (known_any _ _ hki _).mono ?_
  rintro _ _ ⟨rfl, rfl⟩
  go_wp2_with fail
  refine (known_any _ _ hkj _).mono ?_
  rintro _ _ ⟨rfl, rfl⟩
  go_wp2_with fail
  refine hcl.mono ?_
  rintro _ w2 ⟨u, vs, rfl, ⟨hrow, hck⟩, hb2⟩
  have hvl : vs.length = l.length := by have := hrow.1; omega
  obtain ⟨g, cg, rfl, hg1, hg2, -, hg4⟩ := own_addr hrow (by omega)
  unfold maxLen at hg2
  have k1 := hrow.cellAt i (by omega)
  have k2 := hrow.cellAt j (by omega)
  rw [List.getElem?_eq_getElem (by omega)] at k1 k2
  have hcl1 := Hb.clks_length l Hb.zero
  have hui := hck i vs[i] (Hb.cat l i) (List.getElem?_eq_getElem _) (by unfold Hb.cat; rw [Int.toNat_natCast, List.getD_eq_getElem?_getD, List.getElem?_eq_getElem (by omega)]; rfl)
  have huj := hck j vs[j] (Hb.cat l j) (List.getElem?_eq_getElem _) (by unfold Hb.cat; rw [Int.toNat_natCast, List.getD_eq_getElem?_getD, List.getElem?_eq_getElem (by omega)]; rfl)
  generalize vs[i] = ui at k1 hui
  generalize vs[j] = uj at k2 huj
  have d1 : w2.cell? ⟨b, off + i * 6 + 1, none⟩ = some (.int .i64 ai) := by rw [hb2.cell (p := ⟨b, off + i * 6 + 1, none⟩) hbl]; exact ci1
  have keepS : ∀ w', Below w2.heap.size w2 w' → (Below w2.heap.size w2 w' ∧ w'.cell? ⟨b, off + i * 6 + 1, none⟩ = some (.int .i64 ai) ∧ w'.cell? ⟨g, i, none⟩ = some ui ∧ w'.cell? ⟨g, j, none⟩ = some uj) := fun w' hb =>
    ⟨hb, by rw [hb.cell (p := ⟨b, off + i * 6 + 1, none⟩) (Nat.lt_of_lt_of_le hbl hb2.size)]; exact d1, by rw [hb.cell (p := ⟨g, i, none⟩) hg4]; exact k1, by rw [hb.cell (p := ⟨g, j, none⟩) hg4]; exact k2⟩
  have hS0 := keepS _ (below_drew (Below.refl _ _))
  clear hrow hck hcl hcl1 hvl
  go_wp2_with fail
  refine wp_walk (by kernel_rfl) (by kernel_rfl) (fun _ _ => True) (fun w' => (Below w2.heap.size w2 w' ∧ w'.cell? ⟨b, off + i * 6 + 1, none⟩ = some (.int .i64 ai) ∧ w'.cell? ⟨g, i, none⟩ = some ui ∧ w'.cell? ⟨g, j, none⟩ = some uj)) hS0 ?_
  repeat (first | (refine settle_skip (fun _ => by rfl) ?_; (simp only [Act.put, List.setIfInBounds_toArray, List.set_cons_zero, List.set_cons_succ])) | (refine' settle_run (fun _ _ => trivial) (fun _ => by rfl) ?_ ?_; rotate_left; (focus (intro ρ w hS hF; (try dsimp only at hS); go_split_ands; go_simp; try with_reducible rfl)); (simp only [Act.put, List.setIfInBounds_toArray, List.set_cons_zero, List.set_cons_succ])))
  (refine' settle_step (fun _ => by rfl) ?_ ?_; rotate_left; (focus (intro ρ w hS hF K hK; (simp only [Act.put, List.setIfInBounds_toArray, List.set_cons_zero, List.set_cons_succ] at hK); go_simp; (refine (at_any ui _ ai _ (hui.below hS.1)).mono ?_; rintro e w6 ⟨rfl, rfl⟩; have hS' := hS; have hE' := True.intro); exact hK _ hS' hE')); (simp only [Act.put, List.setIfInBounds_toArray, List.set_cons_zero, List.set_cons_succ]))
  repeat (first | (refine settle_skip (fun _ => by rfl) ?_; (simp only [Act.put, List.setIfInBounds_toArray, List.set_cons_zero, List.set_cons_succ])) | (refine' settle_run (fun _ _ => trivial) (fun _ => by rfl) ?_ ?_; rotate_left; (focus (intro ρ w hS hF; (try dsimp only at hS); go_split_ands; go_simp; try with_reducible rfl)); (simp only [Act.put, List.setIfInBounds_toArray, List.set_cons_zero, List.set_cons_succ])))
  (refine' settle_step (fun _ => by rfl) ?_ ?_; rotate_left; (focus (intro ρ w hS hF K hK; (simp only [Act.put, List.setIfInBounds_toArray, List.set_cons_zero, List.set_cons_succ] at hK); go_simp; (refine (at_any uj _ ai _ (huj.below hS.1)).mono ?_; rintro e w6 ⟨rfl, rfl⟩; have hS' := hS; have hE' := True.intro); exact hK _ hS' hE')); (simp only [Act.put, List.setIfInBounds_toArray, List.set_cons_zero, List.set_cons_succ]))
  repeat (first | (refine settle_skip (fun _ => by rfl) ?_; (simp only [Act.put, List.setIfInBounds_toArray, List.set_cons_zero, List.set_cons_succ])) | (refine' settle_run (fun _ _ => trivial) (fun _ => by rfl) ?_ ?_; rotate_left; (focus (intro ρ w hS hF; (try dsimp only at hS); go_split_ands; go_simp; try with_reducible rfl)); (simp only [Act.put, List.setIfInBounds_toArray, List.set_cons_zero, List.set_cons_succ])))
  refine settle_nil ?_
  intro ρ w4 hS _
  have hbe := below_next hS.1 hb2
  clear hS hS0 keepS
  go_wp2
  go_ret
  exact ⟨ret_bool HR.out, hbe⟩
end Go.Proofs.Ytoddhfabeiimkaa


namespace Go.Proofs.Ytoddhfabeiimkaa
set_option linter.unusedVariables false
set_option linter.unusedSimpArgs false
set_option maxRecDepth 100000
open Go.RowKit Go.Maps

namespace Hb
def nul : Ev := ⟨0, 0, 0, 0, false, 0⟩
def clash (a b : Ev) (ca cb : List Int) : Bool := (a.kind == 1) && ((b.kind == 1) && ((a.cell == b.cell) && ((a.write || b.write) && (decide (known a.act) && (decide (known b.act) && decide (Vec.hand cb a.act < Vec.hand ca a.act))))))
def clashAt (l : List Ev) (i j : Nat) : Bool := clash (l.getD i nul) (l.getD j nul) (cat l i) (cat l j)
def inner (l : List Ev) (j k : Nat) : List (Nat × Nat) := ((List.range k).filter fun i => clashAt l i j).map fun i => (i, j)
def outer (l : List Ev) (k : Nat) : List (Nat × Nat) := (List.range k).flatMap fun j => inner l j j
def races (l : List Ev) : List (Nat × Nat) := outer l l.length
theorem inner_yes {l : List Ev} {j k : Nat} (h : clashAt l k j = true) : inner l j (k + 1) = inner l j k ++ [(k, j)] := by
  unfold inner
  rw [List.range_succ, List.filter_append, List.map_append]
  simp [h]
theorem inner_no {l : List Ev} {j k : Nat} (h : clashAt l k j = false) : inner l j (k + 1) = inner l j k := by
  unfold inner
  rw [List.range_succ, List.filter_append, List.map_append]
  simp [h]
theorem outer_succ (l : List Ev) (k : Nat) : outer l (k + 1) = outer l k ++ inner l k k := by
  unfold outer
  rw [List.range_succ, List.flatMap_append]
  simp
theorem inner_length (l : List Ev) (j k : Nat) : (inner l j k).length ≤ k := by
  unfold inner
  rw [List.length_map]
  exact Nat.le_trans (List.length_filter_le _ _) (by simp)
theorem outer_length (l : List Ev) : ∀ k n, k ≤ n → (outer l k).length ≤ k * n
  | 0, n, _ => by simp [outer]
  | k + 1, n, h => by
    rw [outer_succ, List.length_append, Nat.add_mul]
    have h1 := outer_length l k n (by omega)
    have h2 := inner_length l k k
    omega
def prcs (l : List (Nat × Nat)) : List Value := l.flatMap fun p => [.int .i64 (p.1 : Int), .int .i64 (p.2 : Int)]
end Hb
theorem info_pair : (Try.prog.info? 61).map (fun i => (i.zero, i.size, i.bytes)) = some (some (.agg #[.int .i64 0, .int .i64 0]), 2, 16) := by kernel_rfl
theorem Hb.prcs_snoc (l : List (Nat × Nat)) (k j : Nat) : Hb.prcs (l ++ [(k, j)]) = Hb.prcs l ++ [.int .i64 (k : Int), .int .i64 (j : Int)] := by simp [Hb.prcs]



set_option maxHeartbeats 2000000 in
theorem races_any (v : Value) (l : List Hb.Ev) (w : World) (h : SlV w 6 v l.length (evcs l)) (hl : l.length ≤ 2000000) :
    Calls Try.prog 21 #[v] w fun e w' => ∃ u, e = .returned u ∧ w'.ownsRow w.heap.size 61 2 u (Hb.races l).length (Hb.prcs (Hb.races l)) ∧ Below w.heap.size w w' := by
  have hcl := clocks_any _ l w h (by omega)
  obtain ⟨A, c, rfl, hle, hm, hlen, hc⟩ := id h
  unfold maxLen at hm
  clear hc hlen
  go_enter Try.func21, Try.ntmps21
  go_wp2_with fail
  refine hcl.mono ?_
  rintro _ w1 ⟨u, vs, rfl, ⟨hrow, hck⟩, hb1⟩
  have hvl : vs.length = l.length := by have := hrow.1; omega
  obtain ⟨gA, gc, rfl, -, -⟩ := own_slice hrow
  clear hcl
  go_wp2_with fail
  go_loopw [4, 13] (fun out i wr => ∃ j : Nat, j ≤ l.length ∧ i = .int .i64 (j : Int) ∧ Below w1.heap.size w1 wr ∧ wr.ownsRow w1.heap.size 61 2 out (Hb.outer l j).length (Hb.prcs (Hb.outer l j))) (fun _ i _ => l.length - (intOf i).toNat)
  case atStart => exact ⟨0, Nat.zero_le _, rfl, Below.refl _ _, World.ownsRow_nil _ _ _ _⟩
  case round =>
    obtain ⟨j, hj, rfl, hb, hown⟩ := hrel
    obtain ⟨W0, hW0⟩ : ∃ W0, W0 = wr := ⟨_, rfl⟩
    subst hW0
    by_cases hlt : j < l.length
    · obtain ⟨g, cg, hA, hg1, hg2, -, hg4⟩ := own_addr hrow (by omega)
      injection hA with hA _ hA2
      subst hA hA2
      unfold maxLen at hg2
      have hej := List.getElem?_eq_getElem hlt
      obtain ⟨A', c', e', -, -, -, hcc⟩ := h.below (below_next hb hb1)
      injection e' with e1 e2 e3
      subst e1 e3
      obtain ⟨b, off, rfl, hbl, c0, c1, c2, c3, c4, c5⟩ := ev_cells hcc hej
      have hdj : l.getD j Hb.nul = l[j] := by rw [List.getD_eq_getElem?_getD, hej]; rfl
      obtain ⟨ej, hejd⟩ : ∃ ej, ej = l[j] := ⟨_, rfl⟩
      rw [← hejd] at c0 c1 c2 c3 c4 c5 hdj
      have HD := Lib.hid hdj
      clear hej hejd hcc hdj
      obtain ⟨kj, aj, oj, cej, wj, lj⟩ := ej
      dsimp only at c0 c1 c2 c3 c4 c5
      have hB1 : Blk (W0.alloc (.cells #[.int .i64 kj, .int .i64 aj, .int .i64 oj, .int .i64 cej, .bool wj, .int .i64 lj] 42)) W0.heap.size 42 [.int .i64 kj, .int .i64 aj, .int .i64 oj, .int .i64 cej, .bool wj, .int .i64 lj] := Blk.new _ _ _
      have hbA : Below w1.heap.size w1 (W0.alloc (.cells #[.int .i64 kj, .int .i64 aj, .int .i64 oj, .int .i64 cej, .bool wj, .int .i64 lj] 42)) := below_alloc hb _
      have hownA := hown.alloc (.cells #[.int .i64 kj, .int .i64 aj, .int .i64 oj, .int .i64 cej, .bool wj, .int .i64 lj] 42)
      have HA := Lib.hid (And.intro hB1 (And.intro hbA hownA))
      clear hB1 hbA hownA hown
      go_wp2_with fail
      clear c0 c1 c2 c3 c4 c5 hbl
      go_loopw [4, 22] (fun out i wr => ∃ k : Nat, k ≤ j ∧ i = .int .i64 (k : Int) ∧ Below w1.heap.size w1 wr ∧ wr.ownsRow w1.heap.size 61 2 out (Hb.outer l j ++ Hb.inner l j k).length (Hb.prcs (Hb.outer l j ++ Hb.inner l j k)) ∧ Blk wr W0.heap.size 42 [.int .i64 kj, .int .i64 aj, .int .i64 oj, .int .i64 cej, .bool wj, .int .i64 lj]) (fun _ i _ => j - (intOf i).toNat)
      case atStart => exact ⟨0, Nat.zero_le _, rfl, HA.out.2.1, by simpa [Hb.inner] using HA.out.2.2, HA.out.1⟩
      case round =>
        clear HA hb
        obtain ⟨k, hk, rfl, hbk, hownk, hBq⟩ := hrel
        by_cases hkj : k < j
        · have hkl : k < l.length := by omega
          have hek := List.getElem?_eq_getElem hkl
          obtain ⟨A', c', e', -, -, -, hcc⟩ := h.below (below_next hbk hb1)
          injection e' with e1 e2 e3
          subst e3
          obtain ⟨b', off', e1', hbl, c0, c1, c2, c3, c4, c5⟩ := ev_cells hcc hek
          rw [← e1] at e1'
          injection e1' with e1'
          injection e1' with e4 e5
          subst e4 e5
          have hdk : l.getD k Hb.nul = l[k] := by rw [List.getD_eq_getElem?_getD, hek]; rfl
          obtain ⟨ek, hekd⟩ : ∃ ek, ek = l[k] := ⟨_, rfl⟩
          rw [← hekd] at c0 c1 c2 c3 c4 c5 hdk
          obtain ⟨ki, ai, oi, cei, wi, li⟩ := ek
          dsimp only at c0 c1 c2 c3 c4 c5
          have ec : Hb.clashAt l k j = (!(ki != 1) && (!(kj != 1) && (!(cei != cej) && ((wi || wj) && (decide (Hb.known ai) && (decide (Hb.known aj) && decide (Vec.hand (Hb.cat l j) ai < Vec.hand (Hb.cat l k) ai))))))) := by
            unfold Hb.clashAt
            rw [hdk, HD.out]
            simp only [bne, Bool.not_not]
            rfl
          have hql := hBq.lt
          have f0 : wr.cell? ⟨W0.heap.size, 0, none⟩ = some (.int .i64 kj) := by rw [hBq.cell]; rfl
          have f1 : wr.cell? ⟨W0.heap.size, 1, none⟩ = some (.int .i64 aj) := by rw [hBq.cell]; rfl
          have f3 : wr.cell? ⟨W0.heap.size, 3, none⟩ = some (.int .i64 cej) := by rw [hBq.cell]; rfl
          have f4 : wr.cell? ⟨W0.heap.size, 4, none⟩ = some (.bool wj) := by rw [hBq.cell]; rfl
          have hbk' : Below w1.heap.size w1 (wr.alloc (.cells #[.int .i64 ki, .int .i64 ai, .int .i64 oi, .int .i64 cei, .bool wi, .int .i64 li] 42)) := below_alloc hbk _
          have hownk' := hownk.alloc (.cells #[.int .i64 ki, .int .i64 ai, .int .i64 oi, .int .i64 cei, .bool wi, .int .i64 li] 42)
          have hBq' := hBq.alloc (.cells #[.int .i64 ki, .int .i64 ai, .int .i64 oi, .int .i64 cei, .bool wi, .int .i64 li] 42)
          clear hek hekd hcc hdk e1 e2 hbk hownk
          rcases h1 : (ki != 1) with _ | _
          rotate_left
          · have hcl : Hb.clashAt l k j = false := by rw [ec, h1]; rfl
            clear ec
            have HC := Lib.hid (And.intro hcl (And.intro hbk' hownk'))
            have HB := Lib.hid hBq'
            clear hcl hbk' hownk' hBq'
            go_wp2_with fail
            go_roundw
            case rel => exact ⟨k + 1, by omega, by go_num, HC.out.2.1, by rw [Hb.inner_no HC.out.1]; exact HC.out.2.2, HB.out⟩
            case measure => simp [intOf]; omega
          rcases h2 : (kj != 1) with _ | _
          rotate_left
          · have hcl : Hb.clashAt l k j = false := by rw [ec, h1, h2]; rfl
            clear ec
            have HC := Lib.hid (And.intro hcl (And.intro hbk' hownk'))
            have HB := Lib.hid hBq'
            clear hcl hbk' hownk' hBq'
            go_wp2_with fail
            go_roundw
            case rel => exact ⟨k + 1, by omega, by go_num, HC.out.2.1, by rw [Hb.inner_no HC.out.1]; exact HC.out.2.2, HB.out⟩
            case measure => simp [intOf]; omega
          rcases h3 : (cei != cej) with _ | _
          rotate_left
          · have hcl : Hb.clashAt l k j = false := by rw [ec, h1, h2, h3]; rfl
            clear ec
            have HC := Lib.hid (And.intro hcl (And.intro hbk' hownk'))
            have HB := Lib.hid hBq'
            clear hcl hbk' hownk' hBq'
            go_wp2_with fail
            go_roundw
            case rel => exact ⟨k + 1, by omega, by go_num, HC.out.2.1, by rw [Hb.inner_no HC.out.1]; exact HC.out.2.2, HB.out⟩
            case measure => simp [intOf]; omega
          rcases wi with _ | _
          · rcases wj with _ | _
            · have hcl : Hb.clashAt l k j = false := by rw [ec, h1, h2, h3]; rfl
              clear ec
              have HC := Lib.hid (And.intro hcl (And.intro hbk' hownk'))
              have HB := Lib.hid hBq'
              clear hcl hbk' hownk' hBq'
              go_wp2_with fail
              go_roundw
              case rel => exact ⟨k + 1, by omega, by go_num, HC.out.2.1, by rw [Hb.inner_no HC.out.1]; exact HC.out.2.2, HB.out⟩
              case measure => simp [intOf]; omega
            · rcases h5 : decide (Hb.known ai) with _ | _
              · have hcl : Hb.clashAt l k j = false := by rw [ec, h1, h2, h3, h5]; (simp)
                clear ec
                have HC := Lib.hid (And.intro hcl (And.intro hbk' hownk'))
                have HB := Lib.hid hBq'
                clear hcl hbk' hownk' hBq'
                go_wp2_with fail; refine (known_any _ _ h5 _).mono ?_; rintro _ _ ⟨rfl, rfl⟩; go_wp2_with fail
                go_roundw
                case rel => exact ⟨k + 1, by omega, by go_num, HC.out.2.1, by rw [Hb.inner_no HC.out.1]; exact HC.out.2.2, HB.out⟩
                case measure => simp [intOf]; omega
              rcases h6 : decide (Hb.known aj) with _ | _
              · have hcl : Hb.clashAt l k j = false := by rw [ec, h1, h2, h3, h5, h6]; (simp)
                clear ec
                have HC := Lib.hid (And.intro hcl (And.intro hbk' hownk'))
                have HB := Lib.hid hBq'
                clear hcl hbk' hownk' hBq'
                go_wp2_with fail; refine (known_any _ _ h5 _).mono ?_; rintro _ _ ⟨rfl, rfl⟩; go_wp2_with fail; refine (known_any _ _ h6 _).mono ?_; rintro _ _ ⟨rfl, rfl⟩; go_wp2_with fail
                go_roundw
                case rel => exact ⟨k + 1, by omega, by go_num, HC.out.2.1, by rw [Hb.inner_no HC.out.1]; exact HC.out.2.2, HB.out⟩
                case measure => simp [intOf]; omega
              have ec2 : Hb.clashAt l k j = decide (Vec.hand (Hb.cat l j) ai < Vec.hand (Hb.cat l k) ai) := by rw [ec, h1, h2, h3, h5, h6]; (simp)
              have HE2 := Lib.hid ec2
              clear ec ec2
              have hcl1 := Hb.clks_length l Hb.zero
              have k1 := hrow.cellAt k (by omega)
              have k2 := hrow.cellAt j (by omega)
              rw [List.getElem?_eq_getElem (by omega)] at k1 k2
              have hui := hck k vs[k] (Hb.cat l k) (List.getElem?_eq_getElem _) (by unfold Hb.cat; rw [Int.toNat_natCast, List.getD_eq_getElem?_getD, List.getElem?_eq_getElem (by omega)]; rfl)
              have huj := hck j vs[j] (Hb.cat l j) (List.getElem?_eq_getElem _) (by unfold Hb.cat; rw [Int.toNat_natCast, List.getD_eq_getElem?_getD, List.getElem?_eq_getElem (by omega)]; rfl)
              generalize vs[k] = ui at k1 hui
              generalize vs[j] = uj at k2 huj
              have k1' := (hbk'.cell (p := ⟨g, k, none⟩) hg4).trans k1
              have k2' := (hbk'.cell (p := ⟨g, j, none⟩) hg4).trans k2
              have hui' := hui.below hbk'
              have huj' := huj.below hbk'
              have hga := Nat.lt_of_lt_of_le hg4 hbk'.size
              have hqa : wr.heap.size < (wr.alloc (.cells #[.int .i64 ki, .int .i64 ai, .int .i64 oi, .int .i64 cei, .bool false, .int .i64 li] 42)).heap.size := by simp
              have hBk : Blk (wr.alloc (.cells #[.int .i64 ki, .int .i64 ai, .int .i64 oi, .int .i64 cei, .bool false, .int .i64 li] 42)) wr.heap.size 42 [.int .i64 ki, .int .i64 ai, .int .i64 oi, .int .i64 cei, .bool false, .int .i64 li] := Blk.new _ _ _
              clear hcl1 k1 k2 hui huj
              go_wp2_with fail
              refine (known_any _ _ h5 _).mono ?_
              rintro _ _ ⟨rfl, rfl⟩
              go_wp2_with fail
              refine (known_any _ _ h6 _).mono ?_
              rintro _ _ ⟨rfl, rfl⟩
              go_wp2_with fail
              generalize (wr.alloc (.cells #[.int .i64 ki, .int .i64 ai, .int .i64 oi, .int .i64 cei, .bool false, .int .i64 li] 42)) = WA at hbk' hownk' hBq' k1' k2' hui' huj' hga hqa hBk ⊢
              have keepS : ∀ w', Below WA.heap.size WA w' → (Below WA.heap.size WA w' ∧ w'.cell? ⟨wr.heap.size, 1, none⟩ = some (.int .i64 ai) ∧ w'.cell? ⟨g, k, none⟩ = some ui ∧ w'.cell? ⟨g, j, none⟩ = some uj) := fun w' hb =>
                ⟨hb, by rw [(hBk.below hb).cell]; rfl, (hb.cell (p := ⟨g, k, none⟩) hga).trans k1', (hb.cell (p := ⟨g, j, none⟩) hga).trans k2'⟩
              have hS0 := keepS _ (below_drew (Below.refl _ _))
              clear f0 f1 f3 f4 c0 c1 c2 c3 c4 c5
              refine wp_walk (by kernel_rfl) (by kernel_rfl) (fun _ _ => True) (fun w' => (Below WA.heap.size WA w' ∧ w'.cell? ⟨wr.heap.size, 1, none⟩ = some (.int .i64 ai) ∧ w'.cell? ⟨g, k, none⟩ = some ui ∧ w'.cell? ⟨g, j, none⟩ = some uj)) hS0 ?_
              repeat (first | (refine settle_skip (fun _ => by rfl) ?_; (simp only [Act.put, List.setIfInBounds_toArray, List.set_cons_zero, List.set_cons_succ])) | (refine' settle_run (fun _ _ => trivial) (fun _ => by rfl) ?_ ?_; rotate_left; (focus (intro ρ w hS hF; (try dsimp only at hS); go_split_ands; go_simp; try with_reducible rfl)); (simp only [Act.put, List.setIfInBounds_toArray, List.set_cons_zero, List.set_cons_succ])))
              (refine' settle_step (fun _ => by rfl) ?_ ?_; rotate_left; (focus (intro ρ w hS hF K hK; (simp only [Act.put, List.setIfInBounds_toArray, List.set_cons_zero, List.set_cons_succ] at hK); go_simp; (refine (at_any ui _ ai _ (hui'.below hS.1)).mono ?_; rintro e w6 ⟨rfl, rfl⟩; have hS' := hS; have hE' := True.intro); exact hK _ hS' hE')); (simp only [Act.put, List.setIfInBounds_toArray, List.set_cons_zero, List.set_cons_succ]))
              repeat (first | (refine settle_skip (fun _ => by rfl) ?_; (simp only [Act.put, List.setIfInBounds_toArray, List.set_cons_zero, List.set_cons_succ])) | (refine' settle_run (fun _ _ => trivial) (fun _ => by rfl) ?_ ?_; rotate_left; (focus (intro ρ w hS hF; (try dsimp only at hS); go_split_ands; go_simp; try with_reducible rfl)); (simp only [Act.put, List.setIfInBounds_toArray, List.set_cons_zero, List.set_cons_succ])))
              (refine' settle_step (fun _ => by rfl) ?_ ?_; rotate_left; (focus (intro ρ w hS hF K hK; (simp only [Act.put, List.setIfInBounds_toArray, List.set_cons_zero, List.set_cons_succ] at hK); go_simp; (refine (at_any uj _ ai _ (huj'.below hS.1)).mono ?_; rintro e w6 ⟨rfl, rfl⟩; have hS' := hS; have hE' := True.intro); exact hK _ hS' hE')); (simp only [Act.put, List.setIfInBounds_toArray, List.set_cons_zero, List.set_cons_succ]))
              repeat (first | (refine settle_skip (fun _ => by rfl) ?_; (simp only [Act.put, List.setIfInBounds_toArray, List.set_cons_zero, List.set_cons_succ])) | (refine' settle_run (fun _ _ => trivial) (fun _ => by rfl) ?_ ?_; rotate_left; (focus (intro ρ w hS hF; (try dsimp only at hS); go_split_ands; go_simp; try with_reducible rfl)); (simp only [Act.put, List.setIfInBounds_toArray, List.set_cons_zero, List.set_cons_succ])))
              refine settle_nil ?_
              intro ρ w4 hS _
              have hb5 := hS.1
              clear hS hS0 keepS k1' k2' hui' huj' hBk
              have hbk5 := below_next hb5 hbk'
              have hB5 := hBq'.below hb5
              have hown5 := own_keeps hownk' (Keeps.of_below hb5 (fun _ => False)) (fun _ _ => id)
              have hbase5 := hbk5.size
              clear hbk' hBq' hownk'
              rcases h7 : decide (Vec.hand (Hb.cat l j) ai < Vec.hand (Hb.cat l k) ai) with _ | _
              · have HC := Lib.hid (And.intro (HE2.out.trans h7) (And.intro hbk5 hown5))
                have HB := Lib.hid hB5
                clear hbk5 hown5 hB5
                go_wp2_with fail
                go_roundw
                case rel => exact ⟨k + 1, by omega, by go_num, HC.out.2.1, by rw [Hb.inner_no HC.out.1]; exact HC.out.2.2, HB.out⟩
                case measure => simp [intOf]; omega
              · have hne := own_blk_ne hown5 hB5 (by decide)
                have hlen1 := Hb.outer_length l j l.length hj
                have hlen2 := Hb.inner_length l j k
                have hlen3 : j * l.length ≤ 2000000 * 2000000 := Nat.mul_le_mul (by omega) hl
                have n63 : (Hb.outer l j ++ Hb.inner l j k).length + 1 ≤ maxLen := by rw [List.length_append]; unfold maxLen; omega
                have n47 : ((Hb.outer l j ++ Hb.inner l j k).length + 1) * 16 ≤ 140737488355328 := by rw [List.length_append]; omega
                have HC := Lib.hid (And.intro (HE2.out.trans h7) (And.intro hbk5 hB5))
                clear hlen1 hlen2 hlen3 hbk5 hB5
                go_wp2_with (first | (at_builtin; refine wp_push_at _ _ _ _ (by first | rfl | simp) _ _ _ _ _ _ Try.underlying59 info_pair rfl (by decide) hown5 [.int .i64 (k : Int), .int .i64 (j : Int)] rfl (by simp [Value.oneCell']) n63 n47 hbase5 rfl rfl rfl rfl ?_; intro v7 w7 hr7 hg7 hv7 hb7) | fail)
                have HP := Lib.hid (And.intro hr7 (And.intro (HC.out.2.1.trans hb7) (HC.out.2.2.grown hg7 (fun e => hne e.symm))))
                clear hr7 hg7 hv7 hb7 hne
                go_roundw
                case rel => exact ⟨k + 1, by omega, by go_num, HP.out.2.1, by
                  rw [Hb.inner_yes HC.out.1, ← List.append_assoc, Hb.prcs_snoc, List.length_append (bs := [_])]
                  exact HP.out.1, HP.out.2.2⟩
                case measure => simp [intOf]; omega
          · rcases h5 : decide (Hb.known ai) with _ | _
            · have hcl : Hb.clashAt l k j = false := by rw [ec, h1, h2, h3, h5]; (simp)
              clear ec
              have HC := Lib.hid (And.intro hcl (And.intro hbk' hownk'))
              have HB := Lib.hid hBq'
              clear hcl hbk' hownk' hBq'
              go_wp2_with fail; refine (known_any _ _ h5 _).mono ?_; rintro _ _ ⟨rfl, rfl⟩; go_wp2_with fail
              go_roundw
              case rel => exact ⟨k + 1, by omega, by go_num, HC.out.2.1, by rw [Hb.inner_no HC.out.1]; exact HC.out.2.2, HB.out⟩
              case measure => simp [intOf]; omega
            rcases h6 : decide (Hb.known aj) with _ | _
            · have hcl : Hb.clashAt l k j = false := by rw [ec, h1, h2, h3, h5, h6]; (simp)
              clear ec
              have HC := Lib.hid (And.intro hcl (And.intro hbk' hownk'))
              have HB := Lib.hid hBq'
              clear hcl hbk' hownk' hBq'
              go_wp2_with fail; refine (known_any _ _ h5 _).mono ?_; rintro _ _ ⟨rfl, rfl⟩; go_wp2_with fail; refine (known_any _ _ h6 _).mono ?_; rintro _ _ ⟨rfl, rfl⟩; go_wp2_with fail
              go_roundw
              case rel => exact ⟨k + 1, by omega, by go_num, HC.out.2.1, by rw [Hb.inner_no HC.out.1]; exact HC.out.2.2, HB.out⟩
              case measure => simp [intOf]; omega
            have ec2 : Hb.clashAt l k j = decide (Vec.hand (Hb.cat l j) ai < Vec.hand (Hb.cat l k) ai) := by rw [ec, h1, h2, h3, h5, h6]; (simp)
            have HE2 := Lib.hid ec2
            clear ec ec2
            have hcl1 := Hb.clks_length l Hb.zero
            have k1 := hrow.cellAt k (by omega)
            have k2 := hrow.cellAt j (by omega)
            rw [List.getElem?_eq_getElem (by omega)] at k1 k2
            have hui := hck k vs[k] (Hb.cat l k) (List.getElem?_eq_getElem _) (by unfold Hb.cat; rw [Int.toNat_natCast, List.getD_eq_getElem?_getD, List.getElem?_eq_getElem (by omega)]; rfl)
            have huj := hck j vs[j] (Hb.cat l j) (List.getElem?_eq_getElem _) (by unfold Hb.cat; rw [Int.toNat_natCast, List.getD_eq_getElem?_getD, List.getElem?_eq_getElem (by omega)]; rfl)
            generalize vs[k] = ui at k1 hui
            generalize vs[j] = uj at k2 huj
            have k1' := (hbk'.cell (p := ⟨g, k, none⟩) hg4).trans k1
            have k2' := (hbk'.cell (p := ⟨g, j, none⟩) hg4).trans k2
            have hui' := hui.below hbk'
            have huj' := huj.below hbk'
            have hga := Nat.lt_of_lt_of_le hg4 hbk'.size
            have hqa : wr.heap.size < (wr.alloc (.cells #[.int .i64 ki, .int .i64 ai, .int .i64 oi, .int .i64 cei, .bool true, .int .i64 li] 42)).heap.size := by simp
            have hBk : Blk (wr.alloc (.cells #[.int .i64 ki, .int .i64 ai, .int .i64 oi, .int .i64 cei, .bool true, .int .i64 li] 42)) wr.heap.size 42 [.int .i64 ki, .int .i64 ai, .int .i64 oi, .int .i64 cei, .bool true, .int .i64 li] := Blk.new _ _ _
            clear hcl1 k1 k2 hui huj
            go_wp2_with fail
            refine (known_any _ _ h5 _).mono ?_
            rintro _ _ ⟨rfl, rfl⟩
            go_wp2_with fail
            refine (known_any _ _ h6 _).mono ?_
            rintro _ _ ⟨rfl, rfl⟩
            go_wp2_with fail
            generalize (wr.alloc (.cells #[.int .i64 ki, .int .i64 ai, .int .i64 oi, .int .i64 cei, .bool true, .int .i64 li] 42)) = WA at hbk' hownk' hBq' k1' k2' hui' huj' hga hqa hBk ⊢
            have keepS : ∀ w', Below WA.heap.size WA w' → (Below WA.heap.size WA w' ∧ w'.cell? ⟨wr.heap.size, 1, none⟩ = some (.int .i64 ai) ∧ w'.cell? ⟨g, k, none⟩ = some ui ∧ w'.cell? ⟨g, j, none⟩ = some uj) := fun w' hb =>
              ⟨hb, by rw [(hBk.below hb).cell]; rfl, (hb.cell (p := ⟨g, k, none⟩) hga).trans k1', (hb.cell (p := ⟨g, j, none⟩) hga).trans k2'⟩
            have hS0 := keepS _ (below_drew (Below.refl _ _))
            clear f0 f1 f3 f4 c0 c1 c2 c3 c4 c5
            refine wp_walk (by kernel_rfl) (by kernel_rfl) (fun _ _ => True) (fun w' => (Below WA.heap.size WA w' ∧ w'.cell? ⟨wr.heap.size, 1, none⟩ = some (.int .i64 ai) ∧ w'.cell? ⟨g, k, none⟩ = some ui ∧ w'.cell? ⟨g, j, none⟩ = some uj)) hS0 ?_
            repeat (first | (refine settle_skip (fun _ => by rfl) ?_; (simp only [Act.put, List.setIfInBounds_toArray, List.set_cons_zero, List.set_cons_succ])) | (refine' settle_run (fun _ _ => trivial) (fun _ => by rfl) ?_ ?_; rotate_left; (focus (intro ρ w hS hF; (try dsimp only at hS); go_split_ands; go_simp; try with_reducible rfl)); (simp only [Act.put, List.setIfInBounds_toArray, List.set_cons_zero, List.set_cons_succ])))
            (refine' settle_step (fun _ => by rfl) ?_ ?_; rotate_left; (focus (intro ρ w hS hF K hK; (simp only [Act.put, List.setIfInBounds_toArray, List.set_cons_zero, List.set_cons_succ] at hK); go_simp; (refine (at_any ui _ ai _ (hui'.below hS.1)).mono ?_; rintro e w6 ⟨rfl, rfl⟩; have hS' := hS; have hE' := True.intro); exact hK _ hS' hE')); (simp only [Act.put, List.setIfInBounds_toArray, List.set_cons_zero, List.set_cons_succ]))
            repeat (first | (refine settle_skip (fun _ => by rfl) ?_; (simp only [Act.put, List.setIfInBounds_toArray, List.set_cons_zero, List.set_cons_succ])) | (refine' settle_run (fun _ _ => trivial) (fun _ => by rfl) ?_ ?_; rotate_left; (focus (intro ρ w hS hF; (try dsimp only at hS); go_split_ands; go_simp; try with_reducible rfl)); (simp only [Act.put, List.setIfInBounds_toArray, List.set_cons_zero, List.set_cons_succ])))
            (refine' settle_step (fun _ => by rfl) ?_ ?_; rotate_left; (focus (intro ρ w hS hF K hK; (simp only [Act.put, List.setIfInBounds_toArray, List.set_cons_zero, List.set_cons_succ] at hK); go_simp; (refine (at_any uj _ ai _ (huj'.below hS.1)).mono ?_; rintro e w6 ⟨rfl, rfl⟩; have hS' := hS; have hE' := True.intro); exact hK _ hS' hE')); (simp only [Act.put, List.setIfInBounds_toArray, List.set_cons_zero, List.set_cons_succ]))
            repeat (first | (refine settle_skip (fun _ => by rfl) ?_; (simp only [Act.put, List.setIfInBounds_toArray, List.set_cons_zero, List.set_cons_succ])) | (refine' settle_run (fun _ _ => trivial) (fun _ => by rfl) ?_ ?_; rotate_left; (focus (intro ρ w hS hF; (try dsimp only at hS); go_split_ands; go_simp; try with_reducible rfl)); (simp only [Act.put, List.setIfInBounds_toArray, List.set_cons_zero, List.set_cons_succ])))
            refine settle_nil ?_
            intro ρ w4 hS _
            have hb5 := hS.1
            clear hS hS0 keepS k1' k2' hui' huj' hBk
            have hbk5 := below_next hb5 hbk'
            have hB5 := hBq'.below hb5
            have hown5 := own_keeps hownk' (Keeps.of_below hb5 (fun _ => False)) (fun _ _ => id)
            have hbase5 := hbk5.size
            clear hbk' hBq' hownk'
            rcases h7 : decide (Vec.hand (Hb.cat l j) ai < Vec.hand (Hb.cat l k) ai) with _ | _
            · have HC := Lib.hid (And.intro (HE2.out.trans h7) (And.intro hbk5 hown5))
              have HB := Lib.hid hB5
              clear hbk5 hown5 hB5
              go_wp2_with fail
              go_roundw
              case rel => exact ⟨k + 1, by omega, by go_num, HC.out.2.1, by rw [Hb.inner_no HC.out.1]; exact HC.out.2.2, HB.out⟩
              case measure => simp [intOf]; omega
            · have hne := own_blk_ne hown5 hB5 (by decide)
              have hlen1 := Hb.outer_length l j l.length hj
              have hlen2 := Hb.inner_length l j k
              have hlen3 : j * l.length ≤ 2000000 * 2000000 := Nat.mul_le_mul (by omega) hl
              have n63 : (Hb.outer l j ++ Hb.inner l j k).length + 1 ≤ maxLen := by rw [List.length_append]; unfold maxLen; omega
              have n47 : ((Hb.outer l j ++ Hb.inner l j k).length + 1) * 16 ≤ 140737488355328 := by rw [List.length_append]; omega
              have HC := Lib.hid (And.intro (HE2.out.trans h7) (And.intro hbk5 hB5))
              clear hlen1 hlen2 hlen3 hbk5 hB5
              go_wp2_with (first | (at_builtin; refine wp_push_at _ _ _ _ (by first | rfl | simp) _ _ _ _ _ _ Try.underlying59 info_pair rfl (by decide) hown5 [.int .i64 (k : Int), .int .i64 (j : Int)] rfl (by simp [Value.oneCell']) n63 n47 hbase5 rfl rfl rfl rfl ?_; intro v7 w7 hr7 hg7 hv7 hb7) | fail)
              have HP := Lib.hid (And.intro hr7 (And.intro (HC.out.2.1.trans hb7) (HC.out.2.2.grown hg7 (fun e => hne e.symm))))
              clear hr7 hg7 hv7 hb7 hne
              go_roundw
              case rel => exact ⟨k + 1, by omega, by go_num, HP.out.2.1, by
                rw [Hb.inner_yes HC.out.1, ← List.append_assoc, Hb.prcs_snoc, List.length_append (bs := [_])]
                exact HP.out.1, HP.out.2.2⟩
              case measure => simp [intOf]; omega
        · obtain rfl : k = j := by omega
          have HC := Lib.hid (And.intro hbk hownk)
          clear hbk hownk hBq
          go_wp2_with fail
          go_roundw
          case rel => exact ⟨k + 1, by omega, by go_num, HC.out.1, by rw [Hb.outer_succ]; exact HC.out.2⟩
          case measure => simp [intOf]; omega
    · obtain rfl : j = l.length := by omega
      have HC := Lib.hid (And.intro (below_next hb hb1) (own_base hown hb1.size))
      obtain ⟨Ao, co, rfl, -, -⟩ := own_slice hown
      clear hown hb
      go_wp2_with fail
      go_ret
      exact ⟨_, rfl, HC.out.2, HC.out.1⟩
end Go.Proofs.Ytoddhfabeiimkaa


namespace Go.Proofs.Ytoddhfabeiimkaa
set_option linter.unusedVariables false
set_option linter.unusedSimpArgs false
set_option maxRecDepth 100000
open Go.RowKit

def pairc (x : Nat × Nat) : List Value := [.int .i64 (x.1 : Int), .int .i64 (x.2 : Int)]
def paircs (l : List (Nat × Nat)) : List Value := l.flatMap pairc
theorem paircs_get (l : List (Nat × Nat)) (i : Nat) (p : Nat × Nat) (h : l[i]? = some p) : (paircs l)[i * 2]? = some (.int .i64 (p.1 : Int)) ∧ (paircs l)[i * 2 + 1]? = some (.int .i64 (p.2 : Int)) :=
  ⟨flat_get pairc 2 (fun _ => rfl) l i 0 p h (by omega), flat_get pairc 2 (fun _ => rfl) l i 1 p h (by omega)⟩
theorem take_snoc_eq {α : Type} {xs ys : List α} {k : Nat} {x y : α} (hx : xs[k]? = some x) (hy : ys[k]? = some y) (ht : xs.take k = ys.take k) (e : x = y) : xs.take (k + 1) = ys.take (k + 1) := by
  have hsn : ∀ (z : α) (l : List α), l[k]? = some z → l.take (k + 1) = l.take k ++ [z] := fun z l h => by
    obtain ⟨h', rfl⟩ := List.getElem?_eq_some_iff.1 h
    exact List.take_succ_eq_append_getElem h'
  rw [hsn _ _ hx, hsn _ _ hy, ht, e]
theorem ne_of_get {α : Type} {xs ys : List α} {k : Nat} {x y : α} (hx : xs[k]? = some x) (hy : ys[k]? = some y) (e : x ≠ y) : xs ≠ ys := by
  rintro rfl
  rw [hx] at hy
  injection hy with hy
  exact e hy

set_option maxHeartbeats 2000000 in
theorem equal_pairs (v v' : Value) (xs ys : List (Nat × Nat)) (w : World) (h : SlV w 2 v xs.length (paircs xs)) (h' : SlV w 2 v' ys.length (paircs ys)) :
    Calls Try.prog 20 #[v, v'] w fun e w' => e = .returned (.bool (decide (xs = ys))) ∧ ∃ m, w' = w.drewN m := by
  obtain ⟨A, c, rfl, hle, hm, hlen, hc⟩ := h
  obtain ⟨A', c', rfl, hle', hm', hlen', hc'⟩ := h'
  clear hlen hlen'
  unfold maxLen at hm hm'
  by_cases hn : xs.length = ys.length
  · have hne : ((xs.length : Int) != ys.length) = false := by simp [hn]
    have HN := Lib.hid hn
    clear hn
    go_enter Try.func20, Try.ntmps20
    go_wp2
    go_loopw [13] (fun i wr => ∃ k : Nat, k ≤ xs.length ∧ i = .int .i64 k ∧ (∃ a, wr = w.drewN a) ∧ xs.take k = ys.take k) (fun i _ => xs.length - (intOf i).toNat)
    case atStart => exact ⟨0, Nat.zero_le _, rfl, ⟨0, rfl⟩, rfl⟩
    case round =>
      obtain ⟨k, hk, rfl, ⟨a, rfl⟩, ht⟩ := hrel
      have HT := Lib.hid ht
      clear ht
      by_cases hlt : k < xs.length
      · have hlt' : k < ys.length := by rw [← HN.out]; exact hlt
        obtain ⟨⟨x1, x2⟩, hx⟩ : ∃ x, xs[k]? = some x := ⟨_, List.getElem?_eq_getElem hlt⟩
        obtain ⟨⟨y1, y2⟩, hy⟩ : ∃ x, ys[k]? = some x := ⟨_, List.getElem?_eq_getElem hlt'⟩
        obtain ⟨gx1, gx2⟩ := paircs_get _ _ _ hx
        obtain ⟨gy1, gy2⟩ := paircs_get _ _ _ hy
        obtain ⟨b, o, rfl, hb, hcc⟩ := hc.at_ (fun e => by rw [e] at gx1; simp at gx1)
        obtain ⟨b', o', rfl, hb', hcc'⟩ := hc'.at_ (fun e => by rw [e] at gy1; simp at gy1)
        have c1 := hcc _ _ gx1
        have c2 := hcc _ _ gx2
        have d1 := hcc' _ _ gy1
        have d2 := hcc' _ _ gy2
        rw [← Nat.add_assoc] at c2 d2
        have HX := Lib.hid hx
        have HY := Lib.hid hy
        clear hc hc' hcc hcc' hx hy gx1 gx2 gy1 gy2
        by_cases e : x1 = y1 ∧ x2 = y2
        · obtain ⟨rfl, rfl⟩ := e
          go_wp2
          go_quiet (fail)
          go_wp2
          go_roundw
          case rel => exact ⟨k + 1, by omega, by go_num, ⟨_, rfl⟩, take_snoc_eq HX.out HY.out HT.out rfl⟩
          case measure => simp [intOf]; omega
        · have hnl : xs ≠ ys := ne_of_get HX.out HY.out (fun h => by injection h with h1 h2; exact e ⟨h1, h2⟩)
          have HNL := Lib.hid hnl
          obtain ⟨X1, hX1⟩ : ∃ z : Int, z = x1 := ⟨_, rfl⟩
          obtain ⟨X2, hX2⟩ : ∃ z : Int, z = x2 := ⟨_, rfl⟩
          obtain ⟨Y1, hY1⟩ : ∃ z : Int, z = y1 := ⟨_, rfl⟩
          obtain ⟨Y2, hY2⟩ : ∃ z : Int, z = y2 := ⟨_, rfl⟩
          have he : (X1 == Y1 && X2 == Y2) = false := by
            rw [Bool.eq_false_iff]
            intro h
            simp only [Bool.and_eq_true, beq_iff_eq] at h
            exact e ⟨by omega, by omega⟩
          rw [← hX1] at c1
          rw [← hX2] at c2
          rw [← hY1] at d1
          rw [← hY2] at d2
          clear e hnl hX1 hX2 hY1 hY2
          rcases h1 : X1 == Y1 with _ | _
          · clear he
            go_wp2
            go_quiet (fail)
            go_wp2
            go_ret
            exact ⟨ret_bool (by simp [HNL.out]), ⟨_, World.drewN_drewN _ _ _⟩⟩
          · have h2 : (X2 == Y2) = false := by rw [h1] at he; simpa using he
            clear he
            go_wp2
            go_quiet (fail)
            go_wp2
            go_ret
            exact ⟨ret_bool (by simp [HNL.out]), ⟨_, World.drewN_drewN _ _ _⟩⟩
      · have HK := Lib.hid (show k = xs.length by omega)
        clear hc hc'
        go_wp2
        go_ret
        refine ⟨ret_bool ?_, ⟨_, rfl⟩⟩
        symm
        simp only [decide_eq_true_eq]
        have := HT.out
        rw [HK.out, List.take_length, HN.out, List.take_length] at this
        exact this
  · have hne : ((xs.length : Int) != ys.length) = true := by simp; omega
    have hnl : xs ≠ ys := fun e => hn (by rw [e])
    have HNL := Lib.hid hnl
    clear hnl hc hc'
    go_enter Try.func20, Try.ntmps20
    go_wp2
    go_ret
    exact ⟨ret_bool (by simp [HNL.out]), ⟨0, rfl⟩⟩

end Go.Proofs.Ytoddhfabeiimkaa


namespace Go.Proofs.Ytoddhfabeiimkaa
set_option linter.unusedVariables false
set_option linter.unusedSimpArgs false
set_option maxRecDepth 100000
open Go.RowKit Go.Sort

def srt (zs : List Int) : List Int := zs.mergeSort fun x y => decide (x ≤ y)
theorem srt_length (zs : List Int) : (srt zs).length = zs.length := (List.mergeSort_perm zs _).length_eq
theorem srt_perm {a b : List Int} (h : a.Perm b) : srt a = srt b := Go.mergeSort_of_perm_i h

theorem sort_own (v : Value) (zs : List Int) (w : World) (B : Nat) (h : w.ownsRow B 3 1 v zs.length (ints .i64 zs)) (hz : zs.length < 4611686018427387904) :
    Calls Try.prog 9 #[v] w fun e w' => e = .returned (.tuple #[]) ∧ w'.ownsRow B 3 1 v zs.length (ints .i64 (srt zs)) ∧ w.grownBy w' v.ownBlock := by
  rcases h.2 with ⟨rfl, h0⟩ | ⟨g, cap, cur, rfl, hB, hg, hle, hm, hsz, ht⟩
  · have hz0 : zs.length = 0 := h0
    rw [hz0]
    refine (Try.slices_Sort_int_none none 0 w).mono ?_
    rintro e w' ⟨rfl, rfl⟩
    have : zs = [] := List.eq_nil_of_length_eq_zero hz0
    subst this
    exact ⟨rfl, by simpa [srt] using h, World.grownBy.refl _ _⟩
  · have ht' : cur.toList.take zs.length = zs.map (Value.int .i64) := by simpa [ints] using ht
    have hgl : g < w.heap.size := (Array.getElem?_eq_some_iff.1 hg).1
    refine (Try.slices_Sort_int g 0 cap zs w (holds_of_blockI hg ht') hgl hz).mono ?_
    rintro e w' ⟨rfl, n, os, rfl⟩
    refine ⟨rfl, ?_, grownBy_sortedI _⟩
    have := ownsRow_sortedI (base := B) (n := n) (os := os) (ss := zs) (ts := srt zs) (srt_length zs) hB hg hle hm (by simpa using hsz)
    unfold srt at this ⊢
    simpa [ints] using this
end Go.Proofs.Ytoddhfabeiimkaa


namespace Go.Proofs.Ytoddhfabeiimkaa
set_option linter.unusedVariables false
set_option linter.unusedSimpArgs false
set_option maxRecDepth 100000
open Go.RowKit Go.Maps

theorem equal_ints (v v' : Value) (xs ys : List Int) (w : World) (h : SlV w 1 v xs.length (ints .i64 xs)) (h' : SlV w 1 v' ys.length (ints .i64 ys)) :
    Calls Try.prog 10 #[v, v'] w fun e w' => e = .returned (.bool (decide (xs = ys))) ∧ ∃ m, w' = w.drewN m := by
  obtain ⟨A, c, rfl, hle, hm, hlen, hc⟩ := h
  obtain ⟨A', c', rfl, hle', hm', hlen', hc'⟩ := h'
  clear hlen hlen'
  unfold maxLen at hm hm'
  by_cases hn : xs.length = ys.length
  · have hne : ((xs.length : Int) != ys.length) = false := by simp [hn]
    have HN := Lib.hid hn
    clear hn
    go_enter Try.func10, Try.ntmps10
    go_wp2
    go_loopw [13] (fun i wr => ∃ k : Nat, k ≤ xs.length ∧ i = .int .i64 k ∧ (∃ a, wr = w.drewN a) ∧ xs.take k = ys.take k) (fun i _ => xs.length - (intOf i).toNat)
    case atStart => exact ⟨0, Nat.zero_le _, rfl, ⟨0, rfl⟩, rfl⟩
    case round =>
      obtain ⟨k, hk, rfl, ⟨a, rfl⟩, ht⟩ := hrel
      have HT := Lib.hid ht
      clear ht
      by_cases hlt : k < xs.length
      · have hlt' : k < ys.length := by rw [← HN.out]; exact hlt
        obtain ⟨b, o, x, rfl, hb, hx, hcc⟩ := hc.one hlt
        obtain ⟨b', o', y, rfl, hb', hy, hcc'⟩ := hc'.one hlt'
        clear hc hc'
        have hsn : ∀ (z : Int) (l : List Int), l[k]? = some z → l.take (k + 1) = l.take k ++ [z] := fun z l h => by
          obtain ⟨h', rfl⟩ := List.getElem?_eq_some_iff.1 h
          exact List.take_succ_eq_append_getElem h'
        have HSN := Lib.hid hsn
        clear hsn
        rcases hg : x != y with _ | _
        · go_wp2
          go_quiet (fail)
          go_wp2
          go_roundw
          case rel => exact ⟨k + 1, by omega, by go_num, ⟨_, rfl⟩, by rw [HSN.out _ _ hx.out, HSN.out _ _ hy.out, HT.out, show x = y by simpa using hg]⟩
          case measure => simp [intOf]; omega
        · go_wp2
          go_quiet (fail)
          go_wp2
          go_ret
          refine ⟨ret_bool ?_, ⟨_, World.drewN_drewN _ _ _⟩⟩
          symm
          simp only [decide_eq_false_iff_not]
          rintro rfl
          rw [hx.out] at hy
          simp at hg
          exact hg (by simpa using hy.out)
      · have HK := Lib.hid (show k = xs.length by omega)
        clear hc hc'
        go_wp2
        go_ret
        refine ⟨ret_bool ?_, ⟨_, rfl⟩⟩
        symm
        simp only [decide_eq_true_eq]
        have := HT.out
        rw [HK.out, List.take_length, HN.out, List.take_length] at this
        exact this
  · have hne : ((xs.length : Int) != ys.length) = true := by simp; omega
    have hnl : xs ≠ ys := fun e => hn (by rw [e])
    have HNL := Lib.hid hnl
    clear hnl hc hc'
    go_enter Try.func10, Try.ntmps10
    go_wp2
    go_ret
    exact ⟨ret_bool (by simp [HNL.out]), ⟨0, rfl⟩⟩

theorem compact_one (v : Value) (x : Int) (w : World) (h : SlV w 1 v 1 (ints .i64 [x])) :
    Calls Try.prog 41 #[v] w fun e w' => e = .returned v ∧ w' = w := by
  obtain ⟨A, c, rfl, hle, hm, hlen, hc⟩ := h
  unfold maxLen at hm
  clear hc hlen
  go_enter Try.func41, Try.ntmps41
  go_wp2
  go_ret
  exact ⟨rfl, rfl⟩

theorem info_int' : (Try.prog.info? 3).map (fun i => (i.zero, i.size, i.bytes)) = some (some (.int .i64 0), 1, 8) := by kernel_rfl

set_option maxHeartbeats 2000000 in
theorem cells_one (v : Value) (l : List Hb.Ev) (w : World) (i j : Nat) (x : Hb.Ev) (h : SlV w 6 v l.length (evcs l)) (hl : l.length ≤ 2000000) (hr : Hb.races l = [(i, j)]) (hx : l[i]? = some x) :
    Calls Try.prog 22 #[v] w fun e w' => ∃ u, e = .returned u ∧ SlV w' 1 u 1 (ints .i64 [x.cell]) ∧ Below w.heap.size w w' := by
  have hrc := races_any v l w h hl
  rw [hr] at hrc
  simp only [List.length_singleton] at hrc
  obtain ⟨y, hy⟩ : ∃ y, y = x.cell := ⟨_, rfl⟩
  rw [← hy]
  have HY := Lib.hid hy
  obtain ⟨A, c, rfl, hle, hm, hlen, hc⟩ := id h
  unfold maxLen at hm
  clear hlen
  go_enter Try.func22, Try.ntmps22
  go_wp2_with fail
  refine hrc.mono ?_
  rintro _ w1 ⟨u, rfl, hrow, hb1⟩
  obtain ⟨gA, gc, rfl, hg1, hg2, -, hg4⟩ := own_addr hrow (by decide)
  unfold maxLen at hg2
  have k1 : w1.cell? ⟨gA, 0, none⟩ = some (.int .i64 (i : Int)) := hrow.cellAt 0 (by decide)
  have k2 : w1.cell? ⟨gA, 1, none⟩ = some (.int .i64 (j : Int)) := hrow.cellAt 1 (by decide)
  obtain ⟨b, off, rfl, hbl, c0, c1, c2, c3, c4, c5⟩ := ev_cells hc hx
  have il : i < l.length := (List.getElem?_eq_some_iff.1 hx).1
  have d3 := (hb1.cell (p := ⟨b, off + i * 6 + 3, none⟩) hbl).trans c3
  have hbl1 := Nat.lt_of_lt_of_le hbl hb1.size
  rw [← HY.out] at d3
  clear hrc hrow hc c0 c1 c2 c3 c4 c5 hy hx
  go_wp2_with fail
  go_loopw [3, 9] (fun out i wr => ∃ k : Nat, k ≤ 1 ∧ i = .int .i64 (k : Int) ∧ Below w1.heap.size w1 wr ∧ wr.ownsRow w1.heap.size 3 1 out k (ints .i64 (List.replicate k y))) (fun _ i _ => 1 - (intOf i).toNat)
  case atStart => exact ⟨0, Nat.zero_le _, rfl, Below.refl _ _, World.ownsRow_nil _ _ _ _⟩
  case round =>
    obtain ⟨k, hk, rfl, hb, hown⟩ := hrel
    by_cases hk0 : k = 0
    · subst hk0
      have k1' := (hb.cell (p := ⟨gA, 0, none⟩) hg4).trans k1
      have k2' := (hb.cell (p := ⟨gA, 1, none⟩) hg4).trans k2
      have d3' := (hb.cell (p := ⟨b, off + i * 6 + 3, none⟩) hbl1).trans d3
      have hga := Nat.lt_of_lt_of_le hg4 hb.size
      have hba := Nat.lt_of_lt_of_le hbl1 hb.size
      have hownA := hown.alloc (.cells #[.int .i64 (i : Int), .int .i64 (j : Int)] 61)
      have hbA : Below w1.heap.size w1 (wr.alloc (.cells #[.int .i64 (i : Int), .int .i64 (j : Int)] 61)) := below_alloc hb _
      have hbase := hbA.size
      go_wp2_with (first | (at_builtin; refine wp_push_at _ _ _ _ (by first | rfl | simp) _ _ _ _ _ _ Try.underlying25 info_int' rfl (by decide) hownA [.int .i64 y] rfl (by simp [Value.oneCell']) (by decide) (by decide) hbase rfl rfl rfl rfl ?_; intro v7 w7 hr7 hg7 hv7 hb7) | fail)
      have HP := Lib.hid (And.intro hr7 (hbA.trans hb7))
      clear hr7 hg7 hv7 hb7
      go_roundw
      case rel => exact ⟨1, by omega, by go_num, HP.out.2, HP.out.1⟩
      case measure => simp [intOf]
    · obtain rfl : k = 1 := by omega
      have hso := sort_own _ [y] wr w1.heap.size hown (by simp)
      have hbs := hb.size
      have hge := own_ge hown
      clear hown k1 k2 d3
      go_wp2_with fail
      refine hso.mono ?_
      rintro _ w3 ⟨rfl, hown3, hg3⟩
      have hb3 : Below w1.heap.size w1 w3 := hb.trans ((Keeps.of_grown hg3).below hbs (fun i hi => hge i hi.symm))
      rw [show srt [y] = [y] by simp [srt]] at hown3
      have hsl := SlV.of_own hown3
      obtain ⟨Ao, co, rfl, -, -⟩ := own_slice hown3
      have HP := Lib.hid (And.intro hsl (below_next hb3 hb1))
      have hco := compact_one _ _ _ hsl
      clear hown3 hso hg3 hge hb3 hsl
      go_wp2_with fail
      refine hco.mono ?_
      rintro _ _ ⟨rfl, rfl⟩
      go_wp2
      go_ret
      exact ⟨_, rfl, HP.out.1, HP.out.2⟩

def Hb.alive : List Hb.Ev := [⟨2, 0, 1, 0, false, 0⟩, ⟨1, 1, 0, 1, true, 0⟩, ⟨1, 0, 0, 1, true, 0⟩, ⟨4, 0, 1, 0, false, 0⟩, ⟨1, 0, 0, 1, true, 0⟩]
theorem Hb.alive_races : Hb.races Hb.alive = [(1, 2)] := by decide +kernel
theorem Hb.alive_14 : Hb.ahead Hb.alive 1 4 = true := by decide +kernel
theorem Hb.alive_12 : Hb.ahead Hb.alive 1 2 = false := by decide +kernel

theorem equal_pairs_call (v v' : Value) (xs ys : List (Nat × Nat)) (b : Bool) (hb : decide (xs = ys) = b) (w : World) (h : SlV w 2 v xs.length (paircs xs)) (h' : SlV w 2 v' ys.length (paircs ys)) :
    Calls Try.prog 20 #[v, v'] w fun e w' => e = .returned (.bool b) ∧ Below w.heap.size w w' := by
  subst hb
  exact (equal_pairs v v' xs ys w h h').mono fun e w' ⟨h1, m, h2⟩ => ⟨h1, by rw [h2]; exact below_drewN (Below.refl _ _) m⟩

set_option maxHeartbeats 2000000 in
theorem alive19_any (w : World) : Calls Try.prog 11 #[] w fun e w' => e = .returned (.bool true) ∧ Below w.heap.size w w' := by
  go_enter Try.func11, Try.ntmps11
  go_wp2_with fail
  have hl : SlV ((w.alloc (.cells #[.int .i64 1, .bool true, .int .i64 0] 40)).alloc (.cells (evcs Hb.alive).toArray 42)) 6 (.slice (some ⟨w.heap.size + 1, 0, none⟩) 5 5) 5 (evcs Hb.alive) := by
    have := SlV.lit (w.alloc (.cells #[.int .i64 1, .bool true, .int .i64 0] 40)) (evcs Hb.alive) 42 6 5 rfl (by decide)
    simpa using this
  have hb0 : Below w.heap.size w ((w.alloc (.cells #[.int .i64 1, .bool true, .int .i64 0] 40)).alloc (.cells (evcs Hb.alive).toArray 42)) := below_alloc (below_alloc (Below.refl _ _) _) _
  change Calls _ _ _ ((w.alloc (.cells #[.int .i64 1, .bool true, .int .i64 0] 40)).alloc (.cells (evcs Hb.alive).toArray 42)) _
  generalize ((w.alloc (.cells #[.int .i64 1, .bool true, .int .i64 0] 40)).alloc (.cells (evcs Hb.alive).toArray 42)) = w1 at hl hb0 ⊢
  refine (races_any _ Hb.alive w1 hl (by decide)).mono ?_
  rintro _ w2 ⟨u, rfl, hr2, hb2⟩
  rw [Hb.alive_races] at hr2
  have hb2' := below_next hb2 hb0
  have hl2 := hl.below hb2
  have hs2 := SlV.of_own hr2
  clear hr2
  go_wp2_with fail
  have hs2' := hs2.alloc (.cells #[.int .i64 1, .int .i64 2] 61)
  refine (equal_pairs_call u _ [(1, 2)] [(1, 2)] true (by decide) _ hs2' (by have := SlV.lit w2 (paircs [(1, 2)]) 61 2 1 rfl (by decide); exact this)).mono ?_
  rintro _ w3 ⟨rfl, hb3⟩
  have hb3' := below_next hb3 (below_alloc hb2' _)
  have hl3 := (hl2.alloc _).below hb3
  clear hs2 hs2' hb0 hb2 hb2' hl2 hl hb3
  go_wp2_with fail
  refine (ahead_any _ Hb.alive 1 4 true Hb.alive_14 w3 hl3 (by decide)).mono ?_
  rintro _ w4 ⟨rfl, hb4⟩
  have hb4' := below_next hb4 hb3'
  have hl4 := hl3.below hb4
  clear hb4 hb3' hl3
  go_wp2_with fail
  refine (ahead_any _ Hb.alive 1 2 false Hb.alive_12 w4 hl4 (by decide)).mono ?_
  rintro _ w5 ⟨rfl, hb5⟩
  have hb5' := below_next hb5 hb4'
  have hl5 := hl4.below hb5
  clear hb5 hb4' hl4
  go_wp2_with fail
  refine (cells_one _ Hb.alive w5 1 2 ⟨1, 1, 0, 1, true, 0⟩ hl5 (by decide) Hb.alive_races rfl).mono ?_
  rintro _ w6 ⟨u6, rfl, hs6, hb6⟩
  have hb6' := below_next hb6 hb5'
  have hl6 := hl5.below hb6
  clear hb6 hb5' hl5
  go_wp2_with fail
  refine (equal_ints u6 _ [1] [1] _ (hs6.alloc _) (by have := SlV.lit w6 (ints .i64 [1]) 3 1 1 rfl (by decide); exact this)).mono ?_
  rintro _ w7 ⟨rfl, m, rfl⟩
  have hb7' := below_drewN (below_alloc hb6' (.cells #[.int .i64 1] 3)) m
  have hl7 := (hl6.alloc (.cells #[.int .i64 1] 3)).below (below_drewN (Below.refl _ _) m)
  have hc7 := clocks_any _ Hb.alive _ hl7 (by decide)
  clear hs6 hb6' hl6 hl7
  go_wp2_with fail
  refine hc7.mono ?_
  rintro _ w8 ⟨u8, vs, rfl, ⟨hr8, -⟩, hb8⟩
  have hb8' := below_next hb8 hb7'
  obtain ⟨A8, c8, rfl, -, -⟩ := own_slice hr8
  clear hr8 hb8 hb7' hc7
  go_wp2
  go_ret
  exact ⟨rfl, hb8'⟩
end Go.Proofs.Ytoddhfabeiimkaa


namespace Go.Proofs.Ytoddhfabeiimkaa
set_option linter.unusedVariables false
set_option linter.unusedSimpArgs false
set_option maxRecDepth 100000
open Go.RowKit Go.Maps

namespace Hb
theorem cat_pos (l : List Ev) (hl : l.length < 18446744073709551615) {i : Nat} (h : i < l.length) : Vec.Pos (cat l i) := by
  rw [cat_nat l h]
  exact clk_pos (inv_take l hl i (by omega)) (by omega)
theorem ahead_nat (l : List Ev) (hl : l.length < 18446744073709551615) {a b : Nat} (hab : a < b) (hb : b < l.length) : ahead l a b = (decide (known (l[a]'(by omega)).act) && (decide (known l[b].act) && Vec.within (cat l a) (cat l b))) := by
  unfold ahead
  rw [actAt_nat l (show a < l.length by omega), actAt_nat l hb, cat_nat l (show a < l.length by omega), cat_nat l hb]
  rw [show decide (0 ≤ (a : Int)) = true by simp, show decide ((b : Int) < l.length) = true by simp; omega, show decide ((a : Int) < b) = true by simp; omega]
  simp only [Bool.true_and]
  by_cases ka : known (l[a]'(by omega)).act
  · by_cases kb : known l[b].act
    · have h := ahead_iff l hl hab hb ka kb
      rw [decide_eq_true ka, decide_eq_true kb, Bool.true_and, Bool.true_and]
      rw [Bool.eq_iff_iff, decide_eq_true_iff]
      exact h
    · rw [decide_eq_false kb]; simp
  · rw [decide_eq_false ka]; simp
theorem ahead_range {l : List Ev} {i j : Int} (h : ahead l i j = true) : 0 ≤ i ∧ i < j ∧ j < l.length := by
  unfold ahead at h
  simp only [Bool.and_eq_true, decide_eq_true_iff] at h
  exact ⟨h.1, h.2.2.1, h.2.1⟩
theorem ahead_out {l : List Ev} {i j : Int} (h : ¬ (0 ≤ i ∧ i < j ∧ j < l.length)) : ahead l i j = false := by
  rcases e : ahead l i j with _ | _
  · rfl
  · exact absurd (ahead_range e) h
theorem ahead_trans {l : List Ev} (hl : l.length < 18446744073709551615) {i j k : Int} (h1 : ahead l i j = true) (h2 : ahead l j k = true) : ahead l i k = true := by
  have r1 := ahead_range h1
  have r2 := ahead_range h2
  obtain ⟨i, rfl⟩ := Int.eq_ofNat_of_zero_le r1.1
  obtain ⟨j, rfl⟩ := Int.eq_ofNat_of_zero_le r2.1
  obtain ⟨k, rfl⟩ := Int.eq_ofNat_of_zero_le (show 0 ≤ k by omega)
  have hi : i < l.length := by omega
  have hj : j < l.length := by omega
  have hk : k < l.length := by omega
  rw [ahead_nat l hl (by omega) (by omega)] at h1 h2 ⊢
  simp only [Bool.and_eq_true, decide_eq_true_iff] at h1 h2 ⊢
  refine ⟨h1.1, h2.2.1, ?_⟩
  have w1 := (Vec.within_iff (cat_pos l hl hj)).1 h1.2.2
  have w2 := (Vec.within_iff (cat_pos l hl hk)).1 h2.2.2
  exact (Vec.within_iff (cat_pos l hl hk)).2 fun x => Int.le_trans (w1 x) (w2 x)
theorem ahead_own {l : List Ev} (hl : l.length < 18446744073709551615) {a b : Nat} (hab : a < b) (hb : b < l.length) (he : (l[a]'(by omega)).act = l[b].act) (h0 : 0 ≤ (l[a]'(by omega)).act) (h1 : (l[a]'(by omega)).act < 200) : ahead l a b = true := by
  have ka : known (l[a]'(by omega)).act := ⟨h0, h1⟩
  have kb : known l[b].act := by rw [← he]; exact ka
  have := (ahead_iff l hl hab hb ka kb).1 (ahead_same l hl hab hb ka he)
  rw [ahead_nat l hl hab hb, decide_eq_true ka, decide_eq_true kb, cat_nat l (show a < l.length by omega), cat_nat l hb]
  exact this
theorem cat_nil {l : List Ev} (hl : l.length < 18446744073709551615) {i : Nat} (h : i < l.length) : cat l i = [] ↔ ¬ known l[i].act := by
  rw [cat_nat l h]
  constructor
  · intro h0 hk
    exact clk_ne l hl h hk h0
  · exact clk_nil
end Hb


set_option maxHeartbeats 2000000 in
theorem hbVector_walk (v : Value) (l : List Hb.Ev) (i j : Int) (w : World) (h : SlV w 6 v l.length (evcs l)) (hl : l.length ≤ 2932031007402) :
    Calls Try.prog 5 #[v, .int .i64 i, .int .i64 j] w fun e w' => e = .returned (.bool true) ∧ Below w.heap.size w w' := by
  obtain ⟨A, c, rfl, hle, hm, hlen, hc⟩ := id h
  unfold maxLen at hm
  clear hc hlen
  by_cases hout : 0 ≤ i ∧ i < j ∧ j < l.length
  · obtain ⟨h0, h1, h2⟩ := hout
    obtain ⟨i, rfl⟩ := Int.eq_ofNat_of_zero_le h0
    obtain ⟨j, rfl⟩ := Int.eq_ofNat_of_zero_le (show 0 ≤ j by omega)
    have hij : i < j := by omega
    have hjl : j < l.length := by omega
    have hil : i < l.length := by omega
    clear h0 h1 h2
    have g0 : decide ((i : Int) < 0) = false := by simp
    have g1 : decide (l.length ≤ j) = false := by simp; omega
    have g2 : decide (j ≤ i) = false := by simp; omega
    have hcl1 := Hb.clks_length l Hb.zero
    go_enter Try.func5, Try.ntmps5
    go_wp2_with fail
    refine (alive19_any w).mono ?_
    rintro _ w1 ⟨rfl, hb1⟩
    have hcl := clocks_any _ l w1 (h.below hb1) hl
    go_wp2_with fail
    refine hcl.mono ?_
    rintro _ w2 ⟨u, vs, rfl, ⟨hrow, hck⟩, hb2⟩
    have hb2' := below_next hb2 hb1
    clear hcl
    have hvl : vs.length = l.length := by have := hrow.1; omega
    obtain ⟨g, cg, rfl, hg1, hg2, -, hg4⟩ := own_addr hrow (by omega)
    unfold maxLen at hg2
    have k1 := hrow.cellAt i (by omega)
    have k2 := hrow.cellAt j (by omega)
    rw [List.getElem?_eq_getElem (by omega)] at k1 k2
    have hui := hck i vs[i] (Hb.cat l i) (List.getElem?_eq_getElem _) (by unfold Hb.cat; rw [Int.toNat_natCast, List.getD_eq_getElem?_getD, List.getElem?_eq_getElem (by omega)]; rfl)
    have huj := hck j vs[j] (Hb.cat l j) (List.getElem?_eq_getElem _) (by unfold Hb.cat; rw [Int.toNat_natCast, List.getD_eq_getElem?_getD, List.getElem?_eq_getElem (by omega)]; rfl)
    generalize vs[i] = ui at k1 hui
    generalize vs[j] = uj at k2 huj
    obtain ⟨Ai, ci, rfl, -⟩ := id hui.1
    obtain ⟨Aj, cj, rfl, -⟩ := id huj.1
    clear hrow hck hcl1 hvl
    by_cases hi0 : Hb.cat l i = []
    · have hf : Hb.ahead l i j = false := by rw [Hb.ahead_nat l (by omega) hij hjl, decide_eq_false ((Hb.cat_nil (by omega) hil).1 hi0)]; rfl
      have z1 : (((Hb.cat l i).length : Int) == 0) = true := by rw [hi0]; rfl
      clear hi0
      go_wp2_with fail
      refine (ahead_any _ l _ _ false hf _ (h.below hb2') hl).mono ?_
      rintro _ w3 ⟨rfl, hb3⟩
      have hb3' := below_next hb3 hb2'
      go_wp2
      go_ret
      exact ⟨rfl, hb3'⟩
    by_cases hj0 : Hb.cat l j = []
    · have hf : Hb.ahead l i j = false := by rw [Hb.ahead_nat l (by omega) hij hjl, decide_eq_false ((Hb.cat_nil (by omega) hjl).1 hj0), Bool.false_and, Bool.and_false]
      have z1 : (((Hb.cat l i).length : Int) == 0) = false := by simp [hi0]
      have z2 : (((Hb.cat l j).length : Int) == 0) = true := by rw [hj0]; rfl
      clear hi0 hj0
      go_wp2_with fail
      refine (ahead_any _ l _ _ false hf _ (h.below hb2') hl).mono ?_
      rintro _ w3 ⟨rfl, hb3⟩
      have hb3' := below_next hb3 hb2'
      go_wp2
      go_ret
      exact ⟨rfl, hb3'⟩
    have hf : Hb.ahead l i j = Vec.within (Hb.cat l i) (Hb.cat l j) := by
      rw [Hb.ahead_nat l (by omega) hij hjl, decide_eq_true (Decidable.byContradiction fun h => hi0 ((Hb.cat_nil (by omega) hil).2 h)), decide_eq_true (Decidable.byContradiction fun h => hj0 ((Hb.cat_nil (by omega) hjl).2 h))]
      rfl
    have z1 : (((Hb.cat l i).length : Int) == 0) = false := by simp [hi0]
    have z2 : (((Hb.cat l j).length : Int) == 0) = false := by simp [hj0]
    have keepS : ∀ w', Below w2.heap.size w2 w' → (Below w2.heap.size w2 w' ∧ w'.cell? ⟨g, i, none⟩ = some (.slice Ai (Hb.cat l i).length ci) ∧ w'.cell? ⟨g, j, none⟩ = some (.slice Aj (Hb.cat l j).length cj)) := fun w' hb =>
      ⟨hb, (hb.cell (p := ⟨g, i, none⟩) hg4).trans k1, (hb.cell (p := ⟨g, j, none⟩) hg4).trans k2⟩
    have hS0 := keepS _ (below_drew (Below.refl _ _))
    have hAh : ∀ w', Below w.heap.size w w' → Calls Try.prog 12 #[.slice A l.length c, .int .i64 (i : Int), .int .i64 (j : Int)] w' fun e w'' => e = .returned (.bool (Vec.within (Hb.cat l i) (Hb.cat l j))) ∧ Below w'.heap.size w' w'' := fun w' hb => ahead_any _ l _ _ _ hf w' (h.below hb) hl
    clear hi0 hj0 hf
    go_wp2_with fail
    refine wp_walk (by kernel_rfl) (by kernel_rfl) (fun _ _ => True) (fun w' => (Below w2.heap.size w2 w' ∧ w'.cell? ⟨g, i, none⟩ = some (.slice Ai (Hb.cat l i).length ci) ∧ w'.cell? ⟨g, j, none⟩ = some (.slice Aj (Hb.cat l j).length cj))) hS0 ?_
    repeat (first | (refine settle_skip (fun _ => by rfl) ?_; (simp only [Act.put, List.setIfInBounds_toArray, List.set_cons_zero, List.set_cons_succ])) | (refine' settle_run (fun _ _ => trivial) (fun _ => by rfl) ?_ ?_; rotate_left; (focus (intro ρ w hS hF; (try dsimp only at hS); go_split_ands; go_simp; try with_reducible rfl)); (simp only [Act.put, List.setIfInBounds_toArray, List.set_cons_zero, List.set_cons_succ])))
    (refine' settle_step (fun _ => by rfl) ?_ ?_; rotate_left; (focus (intro ρ w hS hF K hK; (simp only [Act.put, List.setIfInBounds_toArray, List.set_cons_zero, List.set_cons_succ] at hK); go_simp; (refine (hAh _ (below_next hS.1 hb2')).mono ?_; rintro e w6 ⟨rfl, hb6⟩; have hS' := keepS _ (below_next hb6 hS.1); have hE' := True.intro); exact hK _ hS' hE')); (simp only [Act.put, List.setIfInBounds_toArray, List.set_cons_zero, List.set_cons_succ]))
    repeat (first | (refine settle_skip (fun _ => by rfl) ?_; (simp only [Act.put, List.setIfInBounds_toArray, List.set_cons_zero, List.set_cons_succ])) | (refine' settle_run (fun _ _ => trivial) (fun _ => by rfl) ?_ ?_; rotate_left; (focus (intro ρ w hS hF; (try dsimp only at hS); go_split_ands; go_simp; try with_reducible rfl)); (simp only [Act.put, List.setIfInBounds_toArray, List.set_cons_zero, List.set_cons_succ])))
    (refine' settle_step (fun _ => by rfl) ?_ ?_; rotate_left; (focus (intro ρ w hS hF K hK; (simp only [Act.put, List.setIfInBounds_toArray, List.set_cons_zero, List.set_cons_succ] at hK); go_simp; (refine (within_any _ _ (Hb.cat l i) (Hb.cat l j) _ (hui.below hS.1) (huj.below hS.1)).mono ?_; rintro e w6 ⟨rfl, rfl⟩; have hS' := hS; have hE' := True.intro); exact hK _ hS' hE')); (simp only [Act.put, List.setIfInBounds_toArray, List.set_cons_zero, List.set_cons_succ]))
    repeat (first | (refine settle_skip (fun _ => by rfl) ?_; (simp only [Act.put, List.setIfInBounds_toArray, List.set_cons_zero, List.set_cons_succ])) | (refine' settle_run (fun _ _ => trivial) (fun _ => by rfl) ?_ ?_; rotate_left; (focus (intro ρ w hS hF; (try dsimp only at hS); go_split_ands; go_simp; try with_reducible rfl)); (simp only [Act.put, List.setIfInBounds_toArray, List.set_cons_zero, List.set_cons_succ])))
    refine settle_nil ?_
    intro ρ w4 hS _
    have hbe := below_next hS.1 hb2'
    clear hS hS0 keepS
    go_wp2
    go_ret
    exact ⟨ret_bool (by simp), hbe⟩
  · have hf := Hb.ahead_out hout
    by_cases h0 : i < 0
    · clear hout
      go_enter Try.func5, Try.ntmps5
      go_wp2_with fail
      refine (alive19_any w).mono ?_
      rintro _ w1 ⟨rfl, hb1⟩
      have hcl := clocks_any _ l w1 (h.below hb1) hl
      go_wp2_with fail
      refine hcl.mono ?_
      rintro _ w2 ⟨u, vs, rfl, ⟨hrow, hck⟩, hb2⟩
      have hb2' := below_next hb2 hb1
      clear hcl
      obtain ⟨gA, gc, rfl, -, -⟩ := own_slice hrow
      clear hrow hck
      go_wp2_with fail
      refine (ahead_any _ l _ _ false hf _ (h.below hb2') hl).mono ?_
      rintro _ w3 ⟨rfl, hb3⟩
      have hb3' := below_next hb3 hb2'
      go_wp2
      go_ret
      exact ⟨rfl, hb3'⟩
    by_cases h1 : (l.length : Int) ≤ j
    · clear hout
      go_enter Try.func5, Try.ntmps5
      go_wp2_with fail
      refine (alive19_any w).mono ?_
      rintro _ w1 ⟨rfl, hb1⟩
      have hcl := clocks_any _ l w1 (h.below hb1) hl
      go_wp2_with fail
      refine hcl.mono ?_
      rintro _ w2 ⟨u, vs, rfl, ⟨hrow, hck⟩, hb2⟩
      have hb2' := below_next hb2 hb1
      clear hcl
      obtain ⟨gA, gc, rfl, -, -⟩ := own_slice hrow
      clear hrow hck
      go_wp2_with fail
      refine (ahead_any _ l _ _ false hf _ (h.below hb2') hl).mono ?_
      rintro _ w3 ⟨rfl, hb3⟩
      have hb3' := below_next hb3 hb2'
      go_wp2
      go_ret
      exact ⟨rfl, hb3'⟩
    · have h2 : j ≤ i := by omega
      clear hout
      go_enter Try.func5, Try.ntmps5
      go_wp2_with fail
      refine (alive19_any w).mono ?_
      rintro _ w1 ⟨rfl, hb1⟩
      have hcl := clocks_any _ l w1 (h.below hb1) hl
      go_wp2_with fail
      refine hcl.mono ?_
      rintro _ w2 ⟨u, vs, rfl, ⟨hrow, hck⟩, hb2⟩
      have hb2' := below_next hb2 hb1
      clear hcl
      obtain ⟨gA, gc, rfl, -, -⟩ := own_slice hrow
      clear hrow hck
      go_wp2_with fail
      refine (ahead_any _ l _ _ false hf _ (h.below hb2') hl).mono ?_
      rintro _ w3 ⟨rfl, hb3⟩
      have hb3' := below_next hb3 hb2'
      go_wp2
      go_ret
      exact ⟨rfl, hb3'⟩
end Go.Proofs.Ytoddhfabeiimkaa
