/-
  All is done at last, if each one is picked with each one again and again; on condition that what is read is of bulk at most 1048576.
-/
import Derived.Test.YtajddbmmbhdnfaaTermEnd
import Derived.Test.YtajddbmmbhdnfaaTm
import Derived.Test.YtajddbmmbhdnfaaStlAo
import Derived.Test.YtajddbmmbhdnfaaStlEnd

namespace Go.Proofs.Ytajddbmmbhdnfaa
set_option linter.unusedVariables false
set_option linter.unusedSimpArgs false
set_option maxRecDepth 100000
open Go.ChangeShapes Go.WideShapes Go.ChangeAt Go.RowKit
set_option maxRecDepth 100000

def sumTo (q : Nat → Nat) : Nat → Nat
  | 0 => 0
  | n + 1 => sumTo q n + q n
theorem sumTo_mono (q : Nat → Nat) {a b : Nat} (h : a ≤ b) : sumTo q a ≤ sumTo q b := by
  induction b with
  | zero => rw [Nat.le_zero.1 h]; exact Nat.le_refl _
  | succ b ih =>
    rcases Nat.lt_or_ge a (b + 1) with h' | h'
    · exact Nat.le_trans (ih (by omega)) (Nat.le_add_right _ _)
    · rw [show a = b + 1 by omega]; exact Nat.le_refl _

/-- a term of m nodes, all kids counted -/
inductive RsR (B : Nat) (w : World) : List Value → Nat → Prop
  | mk (k c : Int) (b : Bool) (l : Int) (A : Option Addr) (n cap g o : Nat) (f : Nat → List Value) (q : Nat → Nat) : n ≤ cap → cap ≤ maxLen → (0 < n → A = some ⟨g, o, none⟩ ∧ g < B) →
      (∀ i, i < n → ∀ j u, (f i)[j]? = some u → w.cell? ⟨g, o + i * 5 + j, none⟩ = some u) → (∀ i, i < n → RsR B w (f i) (q i)) → RsR B w (tcells k c b l A n cap) (1 + sumTo q n)

theorem list5 {α : Type} {xs ys : List α} {n : Nat} (hx : xs.length = n) (hy : ys.length = n) (h : ∀ (j : Nat) u, xs[j]? = some u → ys[j]? = some u) : xs = ys := by
  apply List.ext_getElem?
  intro j
  by_cases hj : j < n
  · have := h j _ (List.getElem?_eq_getElem (by omega))
    rw [this, List.getElem?_eq_getElem]
  · rw [List.getElem?_eq_none (by omega), List.getElem?_eq_none (by omega)]

theorem RsR.form {B : Nat} {w : World} {cs : List Value} {m : Nat} (h : RsR B w cs m) : ∃ k c b l A n cap, cs = tcells k c b l A n cap := by
  cases h with
  | mk k c b l A n cap => exact ⟨_, _, _, _, _, _, _, rfl⟩

theorem rose_size {B B' : Nat} {w : World} {cs : List Value} {t : Sp.T} (h : TmR B w cs t) : ∀ {m : Nat}, RsR B' w cs m → t.size ≤ m := by
  induction h with
  | nil k c b l A n cap h1 h2 h3 h4 => intro m _; exact Nat.zero_le _
  | one c b l A n cap h1 h2 =>
    intro m hr
    cases hr with
    | mk _ _ _ _ _ _ _ g o f q _ _ _ _ _ => show 1 ≤ _; omega
  | two par c b l g o n cap cs0 cs1 t0 t1 h1 h2 h3 h4 h5 h6 r0 r1 i0 i1 =>
    intro m hr
    generalize hcs : tcells (if par then 3 else 2) c b l (some ⟨g, o, none⟩) n cap = cs at hr
    cases hr with
    | mk k' c' b' l' A' n' cap' g' o' f q q1 q2 q3 q4 q5 =>
      unfold tcells at hcs
      injection hcs with _ hcs
      injection hcs with _ hcs
      injection hcs with _ hcs
      injection hcs with _ hcs
      injection hcs with hcs _
      injection hcs with e1 e2 e3
      subst e1 e2 e3
      obtain ⟨e, -⟩ := q3 (by omega)
      injection e with e
      injection e with e1 e2
      subst e1 e2
      have l0 := r0.form
      have l1 := r1.form
      have m0 := q5 0 (by omega)
      have m1 := q5 1 (by omega)
      have f0 := m0.form
      have f1 := m1.form
      have z0 : (f 0).length = 5 := by obtain ⟨_, _, _, _, _, _, _, e⟩ := f0; rw [e]; rfl
      have z1 : (f 1).length = 5 := by obtain ⟨_, _, _, _, _, _, _, e⟩ := f1; rw [e]; rfl
      have y0 : cs0.length = 5 := by obtain ⟨_, _, _, _, _, _, _, e, -⟩ := l0; rw [e]; rfl
      have y1 : cs1.length = 5 := by obtain ⟨_, _, _, _, _, _, _, e, -⟩ := l1; rw [e]; rfl
      have w0 : cs0 = f 0 := list5 y0 z0 fun j u hu => by
        have hj : j < 5 := by rw [← y0]; exact (List.getElem?_eq_some_iff.1 hu).1
        have a := h5 j u hu
        have b := q4 0 (by omega) j _ (List.getElem?_eq_getElem (by omega))
        rw [show o + 0 * 5 + j = o + j by omega, a] at b
        rw [List.getElem?_eq_getElem (by omega)]
        exact b.symm
      have w1 : cs1 = f 1 := list5 y1 z1 fun j u hu => by
        have hj : j < 5 := by rw [← y1]; exact (List.getElem?_eq_some_iff.1 hu).1
        have a := h6 j u hu
        have b := q4 1 (by omega) j _ (List.getElem?_eq_getElem (by omega))
        rw [show o + 1 * 5 + j = o + 5 + j by omega, a] at b
        rw [List.getElem?_eq_getElem (by omega)]
        exact b.symm
      rw [← w0] at m0
      rw [← w1] at m1
      have := i0 m0
      have := i1 m1
      have : sumTo q 2 ≤ sumTo q n := sumTo_mono q h3
      rw [Sp.T.size_two]
      simp only [sumTo] at this
      omega

theorem bulkAll_append {H : Type} : ∀ a b : List (DataW H), Rows.uptoBulkAll (a ++ b) = Rows.uptoBulkAll a + Rows.uptoBulkAll b
  | [], b => by simp [Rows.uptoBulkAll]
  | x :: a, b => by
    rw [List.cons_append, Rows.uptoBulkAll, Rows.uptoBulkAll, bulkAll_append a b]
    omega
theorem sum_bulk {H : Type} (q : Nat → Nat) (el : List (DataW H × List MemPlace)) : ∀ (n : Nat), n ≤ el.length → (∀ i, i < n → ∃ y, el[i]? = some y ∧ q i ≤ Rows.uptoBulk y.1) → sumTo q n ≤ Rows.uptoBulkAll (el.map (·.1)) := by
  have key : ∀ (n : Nat), n ≤ el.length → (∀ i, i < n → ∃ y, el[i]? = some y ∧ q i ≤ Rows.uptoBulk y.1) → sumTo q n ≤ Rows.uptoBulkAll ((el.take n).map (·.1)) := by
    intro n
    induction n with
    | zero => intro _ _; exact Nat.zero_le _
    | succ n ih =>
      intro hn hq
      obtain ⟨y, hy, hle⟩ := hq n (by omega)
      obtain ⟨h', rfl⟩ := List.getElem?_eq_some_iff.1 hy
      rw [List.take_succ_eq_append_getElem h', List.map_append, bulkAll_append, sumTo]
      have := ih (by omega) (fun i hi => hq i (by omega))
      simp only [List.map_cons, List.map_nil, Rows.uptoBulkAll]
      omega
  intro n hn hq
  refine Nat.le_trans (key n hn hq) ?_
  have e : el.map (·.1) = (el.take n).map (·.1) ++ (el.drop n).map (·.1) := by rw [← List.map_append, List.take_append_drop]
  rw [e, bulkAll_append]
  omega

theorem open_rose {H : Type} {enc : TypeId × Value → H} {w : World} : ∀ (fuel : Nat) (cs : List Value) (x : DataW H × List MemPlace), DataW.trod enc Try.prog w 0 (fun _ => true) true fuel 26 cs = some x → (∀ p ∈ x.2, p.block < w.heap.size) →
    ∃ m : Nat, RsR w.heap.size w cs m ∧ m ≤ Rows.uptoBulk x.1 := by
  intro fuel
  induction fuel using Nat.strongRecOn with
  | _ fuel ih =>
    intro cs x h hlt
    have hT : Try.prog.underlying 26 = some (.struct (fieldsOf Try.prog 26)) := by kernel_rfl
    have hA : Try.prog.underlying 23 = some (.struct (fieldsOf Try.prog 23)) := by kernel_rfl
    obtain ⟨xs, m, rfl, rfl, hl, hxl, hfs⟩ := DataW.trod_struct hT h
    have e0 : (fieldsOf Try.prog 26)[0]?.map (fun f => (f.type, f.offset)) = some (3, 0) := by kernel_rfl
    have e1 : (fieldsOf Try.prog 26)[1]?.map (fun f => (f.type, f.offset)) = some (23, 1) := by kernel_rfl
    have e2 : (fieldsOf Try.prog 26)[2]?.map (fun f => (f.type, f.offset)) = some (24, 4) := by kernel_rfl
    have hsz : (fieldsOf Try.prog 26).size = 3 := by kernel_rfl
    obtain ⟨f0, g0, q0⟩ := Option.map_eq_some_iff.1 e0
    obtain ⟨f1, g1, q1⟩ := Option.map_eq_some_iff.1 e1
    obtain ⟨f2, g2, q2⟩ := Option.map_eq_some_iff.1 e2
    injection q0 with q0 q0'
    injection q1 with q1 q1'
    injection q2 with q2 q2'
    have h0 := hfs 0 f0 g0
    have h1 := hfs 1 f1 g1
    have h2 := hfs 2 f2 g2
    have c0 : Try.prog.cellsOf 3 = 1 := by kernel_rfl
    have c1 : Try.prog.cellsOf 23 = 3 := by kernel_rfl
    have c2 : Try.prog.cellsOf 24 = 1 := by kernel_rfl
    have cT : Try.prog.cellsOf 26 = 5 := by kernel_rfl
    have cB : Try.prog.cellsOf 4 = 1 := by kernel_rfl
    rw [q0, q0', c0] at h0
    rw [q1, q1', c1] at h1
    rw [q2, q2', c2] at h2
    rw [cT] at hl
    rw [hsz] at hxl
    match xs, hxl, cs, hl with
    | [x0, x1, x2], _, [v0, v1, v2, v3, v4], _ =>
      simp only [List.drop_succ_cons, List.drop_zero, List.take_succ_cons, List.take_zero, List.getElem?_cons_zero, List.getElem?_cons_succ] at h0 h1 h2
      obtain ⟨k, hk, -, -⟩ := DataW.trod_int Try.underlying3 h0
      obtain ⟨ys, m1, rfl, -, hl1, hyl, hys⟩ := DataW.trod_struct hA h1
      have d0 : (fieldsOf Try.prog 23)[0]?.map (fun f => (f.type, f.offset)) = some (3, 0) := by kernel_rfl
      have d1 : (fieldsOf Try.prog 23)[1]?.map (fun f => (f.type, f.offset)) = some (4, 1) := by kernel_rfl
      have d2 : (fieldsOf Try.prog 23)[2]?.map (fun f => (f.type, f.offset)) = some (3, 2) := by kernel_rfl
      have hsy : (fieldsOf Try.prog 23).size = 3 := by kernel_rfl
      obtain ⟨u0, w0, p0⟩ := Option.map_eq_some_iff.1 d0
      obtain ⟨u1, w1, p1⟩ := Option.map_eq_some_iff.1 d1
      obtain ⟨u2, w2, p2⟩ := Option.map_eq_some_iff.1 d2
      injection p0 with p0 p0'
      injection p1 with p1 p1'
      injection p2 with p2 p2'
      have y0 := hys 0 u0 w0
      have y1 := hys 1 u1 w1
      have y2 := hys 2 u2 w2
      rw [p0, p0', c0] at y0
      rw [p1, p1', cB] at y1
      rw [p2, p2', c0] at y2
      rw [hsy] at hyl
      match ys, hyl with
      | [z0, z1, z2], _ =>
        simp only [List.drop_succ_cons, List.drop_zero, List.take_succ_cons, List.take_zero, List.getElem?_cons_zero, List.getElem?_cons_succ] at y0 y1 y2
        obtain ⟨c, hc, -, -⟩ := DataW.trod_int Try.underlying3 y0
        obtain ⟨b, hb, -⟩ := DataW.trod_bool Try.underlying4 y1
        obtain ⟨l, hl', -, -⟩ := DataW.trod_int Try.underlying3 y2
        simp only [List.cons.injEq, and_true] at hk hc hb hl'
        subst hk hc hb hl'
        have bulk1 : Rows.uptoBulk (DataW.agg (H := H) [x0.1, x1.1, x2.1]) = Rows.uptoBulk x0.1 + (Rows.uptoBulk x1.1 + Rows.uptoBulk x2.1) + 1 := by
          simp [Rows.uptoBulk, Rows.uptoBulkAll]
        rcases DataW.trod_slice Try.underlying24 h2 with ⟨hcs, hx⟩ | ⟨a, len, cap, el, rest, n, hn, hcs, hx, -, hle, hm, hlen, hel, hsp, -⟩
        · simp only [List.cons.injEq, and_true] at hcs
          subst hcs
          exact ⟨_, .mk k c b l none 0 0 0 0 (fun _ => []) (fun _ => 0) (Nat.le_refl _) (Nat.zero_le _) (fun h => by omega) (fun i h => by omega) (fun i h => by omega), by simp [sumTo, bulk1]⟩
        · simp only [List.cons.injEq, and_true] at hcs
          subst hcs
          have kid : ∀ i, ∃ (cs' : List Value) (m : Nat), i < len → cs'.length = 5 ∧ (∀ j u, cs'[j]? = some u → w.cell? ((a.add (i * 5)).add j) = some u) ∧ RsR w.heap.size w cs' m ∧ ∃ y, el[i]? = some y ∧ m ≤ Rows.uptoBulk y.1 := by
            intro i
            by_cases hi : i < len
            · have h3 := hel i hi
              rw [cT, List.getElem?_eq_getElem (by omega)] at h3
              obtain ⟨cs', hc', htr⟩ := Option.bind_eq_some_iff.1 h3
              obtain ⟨hb0, hl5, hat⟩ := World.cells?_some hc'
              obtain ⟨m, ht1, ht2⟩ := ih n (by omega) cs' _ htr (fun p hp => hlt p (by
                rw [hx]
                simp only [List.flatMap_cons, List.flatMap_nil, List.mem_append, List.append_nil]
                exact .inr (.inr (.inr (List.mem_flatMap.2 ⟨el[i], List.mem_append_left _ (List.getElem_mem _), hp⟩)))))
              refine ⟨cs', m, fun _ => ⟨hl5, fun j u hu => ?_, ht1, el[i], List.getElem?_eq_getElem (by omega), ht2⟩⟩
              have hj : j < 5 := by have := (List.getElem?_eq_some_iff.1 hu).1; omega
              rw [hat j hj, hu]
            · exact ⟨[], 0, fun h => absurd h hi⟩
          obtain ⟨F, hF⟩ := Classical.axiomOfChoice kid
          obtain ⟨q, hq⟩ := Classical.axiomOfChoice hF
          obtain ⟨g, o, sp⟩ := a
          have hb : sumTo q len ≤ Rows.uptoBulk x2.1 := by
            have := sum_bulk q el len (by omega) (fun i hi => (hq i hi).2.2.2)
            rw [hx]
            simp only [Rows.uptoBulk]
            omega
          have hsp0 : 0 < len → sp = none := fun h0 => by
            obtain ⟨a1, a2, -⟩ := hq 0 h0
            have := a2 0 _ (List.getElem?_eq_getElem (by omega))
            simpa [Addr.add] using World.cell?_spot this
          have hcell : ∀ i, i < len → ∀ j u, (F i)[j]? = some u → w.cell? ⟨g, o + i * 5 + j, none⟩ = some u := fun i hi j u hu => by
            have h0 := hsp0 (by omega)
            subst h0
            have := (hq i hi).2.1 j u hu
            rw [Addr.add_lit, Addr.add_lit] at this
            simpa using this
          have hg : 0 < len → g < w.heap.size := fun h0 => World.block_lt_of_cell? w _ (hcell 0 h0 0 _ (List.getElem?_eq_getElem (by have := (hq 0 h0).1; omega)))
          exact ⟨_, .mk k c b l _ len cap g o F q hle hm (fun h0 => ⟨by rw [hsp0 h0], hg h0⟩) hcell (fun i hi => (hq i hi).2.2.1), by show _ ≤ Rows.uptoBulk (DataW.agg (H := H) [x0.1, x1.1, x2.1]); rw [bulk1]; omega⟩

theorem open_arg_rose {H : Type} {enc : TypeId × Value → H} {W : World} {cs : List Value} {d : DataW H} {p : List MemPlace} (h : DataW.Trod enc Try.prog W 0 (fun _ => true) true 26 (.agg cs.toArray) d p) (hlt : ∀ x ∈ p, x.block < W.heap.size) :
    ∃ m : Nat, RsR W.heap.size W cs m ∧ m ≤ Rows.uptoBulk d := by
  obtain ⟨fuel, hf⟩ := h
  obtain ⟨m, h1, h2⟩ := open_rose fuel cs (d, p) (by simpa [Value.cells] using hf) hlt
  exact ⟨m, h1, h2⟩
end Go.Proofs.Ytajddbmmbhdnfaa


namespace Go.Proofs.Ytajddbmmbhdnfaa
set_option linter.unusedVariables false
set_option linter.unusedSimpArgs false
set_option maxRecDepth 100000
open Go.RowKit

set_option maxHeartbeats 1000000 in
theorem parts_any {B : Nat} {w0 : World} {cs : List Value} {m : Nat} (h : RsR B w0 cs m) : ∀ w, (∀ p : Addr, p.block < B → w.cell? p = w0.cell? p) → B ≤ w.heap.size → m ≤ 1048576 →
    Calls Try.prog 16 #[.agg cs.toArray] w fun e w' => e = .returned (.int .i64 m) ∧ Below w.heap.size w w' := by
  induction h with
  | mk k c b l A n cap g o f q h1 h2 h3 h4 h5 ih =>
    intro w hw hB hm
    unfold tcells
    unfold maxLen at h2
    have hsum : ∀ j, j < n → sumTo q j + q j ≤ sumTo q n := fun j hj => sumTo_mono q (show j + 1 ≤ n from hj)
    have hq1 : ∀ j, j < n → q j ≤ 1048576 := fun j hj => by have := hsum j hj; omega
    have HW := Lib.hid (And.intro hw (And.intro h4 (And.intro h5 (And.intro ih (And.intro hsum (And.intro hq1 hm))))))
    have hb0 : Below w.heap.size w (w.alloc (.cells [Value.int .i64 k, .int .i64 c, .bool b, .int .i64 l, .slice A n cap].toArray 26)) := below_alloc (Below.refl _ _) _
    clear hw h4 h5 ih hsum hq1 hm
    go_enter Try.func16, Try.ntmps16
    go_wp2
    go_loopw [3, 9] (fun s i wr => ∃ j : Nat, j ≤ n ∧ i = .int .i64 (j : Int) ∧ s = .int .i64 ((1 + sumTo q j : Nat) : Int) ∧ Below w.heap.size w wr) (fun _ i _ => n - (intOf i).toNat)
    case atStart => exact ⟨0, Nat.zero_le _, rfl, rfl, hb0⟩
    case round =>
      clear hb0
      obtain ⟨j, hj, rfl, rfl, hb⟩ := hrel
      by_cases hlt : j < n
      · obtain ⟨rfl, hg⟩ := h3 (by omega)
        obtain ⟨k', c', b', l', A', n', cap', hf⟩ := (HW.out.2.2.1 j hlt).form
        have hcell : ∀ i u, (f j)[i]? = some u → wr.cell? ⟨g, o + j * 5 + i, none⟩ = some u := fun i u hu => by
          have e := HW.out.2.1 j hlt i u hu
          rw [← HW.out.1 _ hg] at e
          exact (hb.cell (show g < w.heap.size by omega)).trans e
        rw [hf] at hcell
        have c0 : wr.cell? ⟨g, o + j * 5, none⟩ = some (.int .i64 k') := hcell 0 _ rfl
        have c1 := hcell 1 _ rfl
        have c2 := hcell 2 _ rfl
        have c3 := hcell 3 _ rfl
        have c4 := hcell 4 _ rfl
        have hsum := HW.out.2.2.2.2.1 j hlt
        have hm := HW.out.2.2.2.2.2.2
        have hcall : ∀ w', Below w.heap.size w w' → Calls Try.prog 16 #[.agg #[.int .i64 k', .int .i64 c', .bool b', .int .i64 l', .slice A' n' cap']] w' fun e w'' => e = .returned (.int .i64 (q j : Nat)) ∧ Below w'.heap.size w' w'' := fun w' hb' => by
          have := HW.out.2.2.2.1 j hlt w' (fun p hp => (hb'.cell (show p.block < w.heap.size by omega)).trans (HW.out.1 p hp)) (Nat.le_trans hB hb'.size) (HW.out.2.2.2.2.2.1 j hlt)
          rw [hf] at this
          exact this
        have HC := Lib.hid hcall
        obtain ⟨Q, hQ⟩ : ∃ Q, Q = q j := ⟨_, rfl⟩
        obtain ⟨Z, hZ⟩ : ∃ Z, Z = sumTo q j := ⟨_, rfl⟩
        rw [← hQ, ← hZ] at hsum
        rw [← hQ] at HC
        have hZ2 : sumTo q (j + 1) = Z + Q := by rw [hQ, hZ]; rfl
        rw [← hZ]
        have HZ := Lib.hid hZ2
        have hb1 := below_alloc hb (.cells #[.int .i64 k', .int .i64 c', .bool b', .int .i64 l', .slice A' n' cap'] 26)
        have hQb : Z + Q ≤ 1048576 := by omega
        clear hcell hf h3 hcall hQ hZ hZ2 hsum hm
        go_wp2_with fail
        refine (HC.out _ hb1).mono ?_
        rintro e w5 ⟨rfl, hb5⟩
        have hb6 := below_next hb5 hb1
        clear hb5 hb1 hb
        go_wp2_with fail
        go_roundw
        case rel => exact ⟨j + 1, by omega, by go_num, by rw [HZ.out]; go_num, hb6⟩
        case measure => simp [intOf]; omega
      · obtain rfl : j = n := by omega
        go_wp2
        go_ret
        exact ⟨rfl, hb⟩
end Go.Proofs.Ytajddbmmbhdnfaa


namespace Go.Proofs.Ytajddbmmbhdnfaa
set_option linter.unusedVariables false
set_option linter.unusedSimpArgs false
set_option maxRecDepth 100000
open Go.RowKit

theorem pairs_length (W : Nat) : (Stl.pairs W).length = W * W := by
  unfold Stl.pairs
  generalize hl : List.range W = l
  have : ∀ l' : List Nat, (l'.flatMap fun a : Nat => l.map fun b : Nat => (⟨(a : Int), (b : Int)⟩ : Stl.Pk)).length = l'.length * l.length := by
    intro l'
    induction l' with
    | nil => simp
    | cons x l' ih => rw [List.flatMap_cons, List.length_append, ih, List.length_map, List.length_cons, Nat.add_mul, Nat.one_mul, Nat.add_comm]
  rw [this, ← hl, List.length_range]
theorem fairs_length (W r : Nat) : (Stl.fairs W r).length = r * (W * W) := by
  induction r with
  | zero => simp [Stl.fairs]
  | succ r ih => rw [Stl.fairs, List.length_append, ih, pairs_length, Nat.add_mul, Nat.one_mul]
/-- the first rows of a round, and the first of the next -/
def part2 (W i : Nat) : List Stl.Pk := (List.range i).flatMap fun a : Nat => (List.range W).map fun b : Nat => ⟨(a : Int), (b : Int)⟩
def part1 (i j : Nat) : List Stl.Pk := (List.range j).map fun b : Nat => ⟨(i : Int), (b : Int)⟩
theorem part2_succ (W i : Nat) : part2 W (i + 1) = part2 W i ++ part1 i W := by simp [part2, part1, List.range_succ]
theorem part1_succ (i j : Nat) : part1 i (j + 1) = part1 i j ++ [⟨(i : Int), (j : Int)⟩] := by simp [part1, List.range_succ]
theorem part1_length (i j : Nat) : (part1 i j).length = j := by simp [part1]
theorem part2_length (W i : Nat) : (part2 W i).length = i * W := by
  induction i with
  | zero => simp [part2]
  | succ i ih => rw [part2_succ, List.length_append, ih, part1_length, Nat.add_mul, Nat.one_mul]
theorem fairs_part (W r : Nat) : Stl.fairs W (r + 1) = Stl.fairs W r ++ part2 W W := rfl

set_option maxHeartbeats 2000000 in
theorem fair_any (W r : Nat) (w : World) (hW : W ≤ 16) (hr : r ≤ 1000) : Calls Try.prog 17 #[.int .i64 (W : Int), .int .i64 (r : Int)] w fun e w' => ∃ u, e = .returned u ∧ w'.ownsRow w.heap.size 29 2 u (Stl.fairs W r).length (pkcs (Stl.fairs W r)) ∧ Below w.heap.size w w' := by
  have hWW : W * W ≤ 256 := Nat.mul_le_mul hW hW
  have hlen : ∀ i a b, i ≤ r → a ≤ W → b ≤ W → (Stl.fairs W i).length + (part2 W a).length + (part1 a b).length ≤ 300000 := by
    intro i a b hi ha hb
    rw [fairs_length, part2_length, part1_length]
    have h1 : i * (W * W) ≤ 1000 * 256 := Nat.mul_le_mul (by omega) hWW
    have h2 : a * W ≤ 16 * 16 := Nat.mul_le_mul (by omega) hW
    omega
  have HL := Lib.hid hlen
  clear hlen hWW
  go_enter Try.func17, Try.ntmps17
  go_wp2_with fail
  go_loopw [5, 9] (fun v i wr => ∃ k : Nat, k ≤ r ∧ i = .int .i64 (k : Int) ∧ wr.ownsRow w.heap.size 29 2 v (Stl.fairs W k).length (pkcs (Stl.fairs W k)) ∧ Below w.heap.size w wr) (fun _ i _ => r - (intOf i).toNat)
  case atStart => exact ⟨0, Nat.zero_le _, rfl, World.ownsRow_nil _ _ _ _, Below.refl _ _⟩
  case round =>
    obtain ⟨k, hk, rfl, hown, hb⟩ := hrel
    by_cases hlt : k < r
    · go_wp2_with fail
      go_loopw [5, 12] (fun v i wr => ∃ a : Nat, a ≤ W ∧ i = .int .i64 (a : Int) ∧ wr.ownsRow w.heap.size 29 2 v ((Stl.fairs W k).length + (part2 W a).length) (pkcs (Stl.fairs W k ++ part2 W a)) ∧ Below w.heap.size w wr) (fun _ i _ => W - (intOf i).toNat)
      case atStart => exact ⟨0, Nat.zero_le _, rfl, by simpa [part2] using hown, hb⟩
      case round =>
        clear hown hb
        obtain ⟨a, ha, rfl, hown, hb⟩ := hrel
        by_cases hla : a < W
        · go_wp2_with fail
          go_loopw [5, 16] (fun v i wr => ∃ b : Nat, b ≤ W ∧ i = .int .i64 (b : Int) ∧ wr.ownsRow w.heap.size 29 2 v ((Stl.fairs W k).length + (part2 W a).length + (part1 a b).length) (pkcs (Stl.fairs W k ++ part2 W a ++ part1 a b)) ∧ Below w.heap.size w wr) (fun _ i _ => W - (intOf i).toNat)
          case atStart => exact ⟨0, Nat.zero_le _, rfl, by simpa [part1] using hown, hb⟩
          case round =>
            clear hown hb
            obtain ⟨b, hbW, rfl, hown, hb⟩ := hrel
            by_cases hlb : b < W
            · have hl := HL.out k a b (by omega) (by omega) (by omega)
              obtain ⟨N, hN⟩ : ∃ N, N = (Stl.fairs W k).length + (part2 W a).length + (part1 a b).length := ⟨_, rfl⟩
              rw [← hN] at hown hl
              have n63 : N + 1 ≤ maxLen := by unfold maxLen; omega
              have n47 : (N + 1) * 16 ≤ 140737488355328 := by omega
              have hwl := hb.size
              have HN := Lib.hid hN
              clear hN
              go_wp2_with (at_builtin; refine wp_push wr _ _ w.heap.size _ _ _ _ _ Try.underlying27 info_pick rfl (by decide) hown (pkc ⟨(a : Int), (b : Int)⟩) rfl (pkc_one _) n63 n47 hwl rfl rfl rfl rfl ?_; intro v' w4 hown4 _ _ hb4)
              go_roundw
              case rel =>
                refine ⟨b + 1, by omega, by go_num, ?_, hb.trans hb4⟩
                rw [part1_succ, ← List.append_assoc, pkcs_append _ [_], List.length_append, List.length_singleton, ← Nat.add_assoc, ← HN.out]
                simpa [pkcs] using hown4
              case measure => simp [intOf]; omega
            · obtain rfl : b = W := by omega
              go_wp2_with fail
              go_roundw
              case rel =>
                refine ⟨a + 1, by omega, by go_num, ?_, hb⟩
                rw [part2_succ, ← List.append_assoc, List.length_append, ← Nat.add_assoc]
                exact hown
              case measure => simp [intOf]; omega
        · obtain rfl : a = W := by omega
          go_wp2_with fail
          go_roundw
          case rel =>
            refine ⟨k + 1, by omega, by go_num, ?_, hb⟩
            rw [fairs_part, List.length_append]
            exact hown
          case measure => simp [intOf]; omega
    · obtain rfl : k = r := by omega
      go_wp2
      go_ret
      exact ⟨_, rfl, hown, hb⟩

set_option maxHeartbeats 4000000 in
theorem stealEnds_any (t : Sp.T) (ps : List Stl.Pk) (w : World) (cs : List Value) (W : Int) (v : Value) (m : Nat) (hT : TmR w.heap.size w cs t) (hR : RsR w.heap.size w cs m) (hm : m ≤ 1048576) (hsz : Stl.sz t ≤ 1048576) (hlv : t.size ≤ 1048576) (hps : ps.length ≤ 1048576) (hp : SlV w 2 v ps.length (pkcs ps)) :
    Calls Try.prog 5 #[.agg cs.toArray, .int .i64 W, v] w fun e w' => e = .returned (.bool true) ∧ Below w.heap.size w w' := by
  have hst := rose_size hT hR
  obtain ⟨a0, a1, a2, a3, A4, a5, a6, rfl, -, -⟩ := hT.form
  have x0 := Blk.new w 26 [.int .i64 a0, .int .i64 a1, .bool a2, .int .i64 a3, .slice A4 a5 a6]
  have hPa := parts_any hR
  unfold tcells at hT hPa ⊢
  have hb0 : Below w.heap.size w (w.alloc (.cells [Value.int .i64 a0, .int .i64 a1, .bool a2, .int .i64 a3, .slice A4 a5 a6].toArray 26)) := below_alloc (Below.refl _ _) _
  have HPA := Lib.hid hPa
  clear hR hPa
  go_enter Try.func5, Try.ntmps5
  go_wp2_with fail
  obtain ⟨q, hq⟩ : ∃ q, q = w.heap.size := ⟨_, rfl⟩
  have hT0 := tm_up (hT.later hb0) hb0.size
  have hp0 := hp.below hb0
  generalize (w.alloc (.cells [Value.int .i64 a0, .int .i64 a1, .bool a2, .int .i64 a3, .slice A4 a5 a6].toArray 26)) = W0 at x0 hb0 hT0 hp0 ⊢
  rw [← hq] at x0 ⊢
  refine (alive22_any _).mono ?_
  rintro e w1 ⟨rfl, hb1⟩
  have hX := Boxed.of (x0.below hb1) (hT0.later hb1) hb1.size
  have hp1 := hp0.below hb1
  have hbw := below_next hb1 hb0
  have hPa := HPA.out w1 (fun p hp => hbw.cell hp) hbw.size hm
  have HQ := Lib.hid (And.intro hq hbw)
  clear x0 hb0 hT0 hb1 hq hbw hT hp hp0 HPA
  obtain ⟨⟨c0, c1, c2, c3, c4⟩, -⟩ := hX.look _ (Below.refl _ _)
  go_wp2_with fail
  refine hPa.mono ?_
  rintro e w2 ⟨rfl, hb2⟩
  have hbE := below_self HQ.out.2 hb2
  clear hPa c0 c1 c2 c3 c4
  by_cases h1 : W < 1
  · clear hX
    go_wp2
    go_ret
    exact ⟨rfl, hbE⟩
  by_cases h2 : 16 < W
  · clear hX
    go_wp2
    go_ret
    exact ⟨rfl, hbE⟩
  obtain ⟨n, rfl⟩ := Int.eq_ofNat_of_zero_le (show 0 ≤ W by omega)
  have hn1 : 1 ≤ n := by omega
  have hn2 : n ≤ 16 := by omega
  have hg1 : decide ((n : Int) < 1) = false := by simp; omega
  have hg2 : decide ((16 : Int) < (n : Int)) = false := by simp; omega
  clear h1 h2
  by_cases h3 : 60 < m
  · have hg3 : decide ((60 : Int) < (m : Int)) = true := by simp; omega
    clear hX
    go_wp2
    go_ret
    exact ⟨rfl, hbE⟩
  have hm2 : m ≤ 60 := by omega
  have hg3 : decide ((60 : Int) < (m : Int)) = false := by simp; omega
  clear h3
  have keepS : ∀ w', Below w2.heap.size w2 w' → (Below w2.heap.size w2 w' ∧ w'.cell? ⟨q, 0, none⟩ = some (.int .i64 a0) ∧ w'.cell? ⟨q, 1, none⟩ = some (.int .i64 a1) ∧ w'.cell? ⟨q, 2, none⟩ = some (.bool a2) ∧ w'.cell? ⟨q, 3, none⟩ = some (.int .i64 a3) ∧ w'.cell? ⟨q, 4, none⟩ = some (.slice A4 a5 a6)) := fun w' hb => by
    have hh := below_next hb hb2
    exact ⟨hb, (hX.look _ hh).1.1, (hX.look _ hh).1.2.1, (hX.look _ hh).1.2.2.1, (hX.look _ hh).1.2.2.2.1, (hX.look _ hh).1.2.2.2.2⟩
  have gT : ∀ w', Below w2.heap.size w2 w' → TmR w'.heap.size w' [.int .i64 a0, .int .i64 a1, .bool a2, .int .i64 a3, .slice A4 a5 a6] t := fun w' hb => (hX.look _ (below_next hb hb2)).2
  have gL : ∀ w', Below w2.heap.size w2 w' → Calls Try.prog 15 #[.agg #[.int .i64 a0, .int .i64 a1, .bool a2, .int .i64 a3, .slice A4 a5 a6]] w' fun e w'' => ∃ v, e = .returned v ∧ SlV w'' 3 v t.size (Sp.acccs t.leaves) ∧ Below w'.heap.size w' w'' := fun w' hb => leaves_any w' _ t (gT w' hb) (by omega)
  have hp2 := hp1.below hb2
  have gC : ∀ w', Below w2.heap.size w2 w' → Calls Try.prog 13 #[v] w' fun r w'' => ∃ u, r = .returned u ∧ w''.ownsRow w2.heap.size 29 2 u ps.length (pkcs ps) ∧ Below w'.heap.size w' w'' := fun w' hb =>
    (clone_pks v ps.length _ w' (hp2.below hb) (pkcs_one ps) (by omega)).mono fun r w'' ⟨u, h1, h2, h3⟩ => ⟨u, h1, own_base h2 hb.size, h3⟩
  obtain ⟨fs, hfs⟩ : ∃ fs, fs = Stl.fairs n (2 * m + 2) := ⟨_, rfl⟩
  have hfl : fs.length ≤ 32000 := by
    rw [hfs, fairs_length]
    have : n * n ≤ 256 := Nat.mul_le_mul hn2 hn2
    have : (2 * m + 2) * (n * n) ≤ 122 * 256 := Nat.mul_le_mul (by omega) this
    omega
  have gF : ∀ w', Below w2.heap.size w2 w' → Calls Try.prog 17 #[.int .i64 (n : Int), .int .i64 (IntKind.i64.wrap (IntKind.i64.wrap (2 * (m : Int)) + 2))] w' fun r w'' => ∃ u, r = .returned u ∧ w''.ownsRow w2.heap.size 29 2 u fs.length (pkcs fs) ∧ Below w'.heap.size w' w'' := fun w' hb => by
    rw [show IntKind.i64.wrap (IntKind.i64.wrap (2 * (m : Int)) + 2) = ((2 * m + 2 : Nat) : Int) by rw [IntKind.wrap_i64, IntKind.wrap_i64]; omega]
    have h := fair_any n (2 * m + 2) w' hn2 (by omega)
    rw [← hfs] at h
    exact h.mono fun r w'' ⟨u, h1, h2, h3⟩ => ⟨u, h1, own_base h2 hb.size, h3⟩
  obtain ⟨L, hL⟩ : ∃ L, L = Stl.logS t n (Stl.start 0 t) (ps ++ fs) := ⟨_, rfl⟩
  have hlen : L.length = t.size := by rw [hL, hfs]; exact Stl.ends t n hn1 ps (2 * m + 2) (by omega)
  have gR : ∀ w' u, Below w2.heap.size w2 w' → SlV w' 2 u (ps.length + fs.length) (pkcs (ps ++ fs)) → Calls Try.prog 12 #[.agg #[.int .i64 a0, .int .i64 a1, .bool a2, .int .i64 a3, .slice A4 a5 a6], .int .i64 (n : Int), u] w' fun e w'' => ∃ r, e = .returned r ∧ (FRun w2.heap.size L 0).holds r w'' ∧ Below w'.heap.size w' w'' := fun w' u hb hs => by
    have h := run_any t (ps ++ fs) w' w'.heap.size _ n u (gT w' hb) (Nat.le_refl _) (by omega) (by omega) (by simp; omega) (by omega) (by omega) (by simpa using hs)
    rw [← hL, hlen, Int.sub_self] at h
    exact h.mono fun e w'' ⟨D, h1, h2, h3⟩ => ⟨_, h1, ⟨D, rfl, own_base h2 hb.size⟩, h3⟩
  have n63 : ps.length + fs.length ≤ maxLen := by unfold maxLen; omega
  have n47 : (ps.length + fs.length) * 16 ≤ 140737488355328 := by omega
  have GS := Lib.hid (And.intro gL hlen)
  have hS0 := keepS _ (below_drew (Below.refl _ _))
  clear hX gT hL gL hp1 hp2 hlen hfs
  go_wp2_with fail
  refine wp_walk_marks (fun i => [9].contains i) (fun i => ([0,1] : List Nat).contains i) [9] (by intro m h; simpa using h) (by kernel_rfl) (by kernel_rfl) (by kernel_rfl) (fun w w' => Below w.heap.size w w') (fun w' => (Below w2.heap.size w2 w' ∧ w'.cell? ⟨q, 0, none⟩ = some (.int .i64 a0) ∧ w'.cell? ⟨q, 1, none⟩ = some (.int .i64 a1) ∧ w'.cell? ⟨q, 2, none⟩ = some (.bool a2) ∧ w'.cell? ⟨q, 3, none⟩ = some (.int .i64 a3) ∧ w'.cell? ⟨q, 4, none⟩ = some (.slice A4 a5 a6))) hS0 ?_
  repeat (first | (refine msettle_skip (by rfl) (fun _ => by rfl) ?_; (simp only [Act.put, List.setIfInBounds_toArray, List.set_cons_zero, List.set_cons_succ])) | (refine' msettle_run (by rfl) (fun _ _ => Below.refl _ _) (fun _ => by rfl) ?_ ?_; rotate_left; (focus (intro ρ w hS hF; (try dsimp only at hS); go_split_ands; go_simp; try with_reducible rfl)); (simp only [Act.put, List.setIfInBounds_toArray, List.set_cons_zero, List.set_cons_succ])))
  (refine msettle_known (FRow w2.heap.size 29 2 ps.length (pkcs ps)) (by rfl) (by rfl) (fun _ => by rfl)  ?_ ?_; (focus (intro ρ w hS hF K hK; (simp only [Act.put, List.setIfInBounds_toArray, List.set_cons_zero, List.set_cons_succ] at hK); go_simp; (refine (gC _ hS.1).mono ?_; rintro e w' ⟨v, rfl, hF', hb'⟩; exact hK _ _ hF' (keepS _ (below_next hb' hS.1)) hb'))); (simp only [Act.put, List.setIfInBounds_toArray, List.set_cons_zero, List.set_cons_succ]))
  repeat (first | (refine msettle_skip (by rfl) (fun _ => by rfl) ?_; (simp only [Act.put, List.setIfInBounds_toArray, List.set_cons_zero, List.set_cons_succ])) | (refine' msettle_run (by rfl) (fun _ _ => Below.refl _ _) (fun _ => by rfl) ?_ ?_; rotate_left; (focus (intro ρ w hS hF; (try dsimp only at hS); go_split_ands; go_simp; try with_reducible rfl)); (simp only [Act.put, List.setIfInBounds_toArray, List.set_cons_zero, List.set_cons_succ])))
  (refine msettle_known (FRow w2.heap.size 29 2 fs.length (pkcs fs)) (by rfl) (by rfl) (fun _ => by rfl)  ?_ ?_; (focus (intro ρ w hS hF K hK; (simp only [Act.put, List.setIfInBounds_toArray, List.set_cons_zero, List.set_cons_succ] at hK); go_simp; (refine (gF _ hS.1).mono ?_; rintro e w' ⟨v, rfl, hF', hb'⟩; exact hK _ _ hF' (keepS _ (below_next hb' hS.1)) hb'))); (simp only [Act.put, List.setIfInBounds_toArray, List.set_cons_zero, List.set_cons_succ]))
  (refine msettle_mark (FSl 2 (ps.length + fs.length) (pkcs (ps ++ fs))) (by rfl) (by rfl) (fun _ => by rfl) ?_ ?_; (focus (intro ρ w hS hF K hK; refine oper_append (.tmp 29) (.tmp 34) w2.heap.size _ _ _ _ _ Try.underlying27 info_pick rfl (by decide) (hF.2.1 (by rfl)) (SlV.of_own (hF.1 (by rfl))) (pkcs_one fs) n63 n47 hS.1.size rfl rfl rfl ?_; intro v' w' hown _ _ hb; exact hK v' w' (by rw [pkcs_append]; exact SlV.of_own hown) (keepS _ (hS.1.trans hb)))); (simp only [Act.put, List.setIfInBounds_toArray, List.set_cons_zero, List.set_cons_succ]))
  (refine msettle_known (FRun w2.heap.size L 0) (by rfl) (by rfl) (fun _ => by rfl)  ?_ ?_; (focus (intro ρ w hS hF K hK; (simp only [Act.put, List.setIfInBounds_toArray, List.set_cons_zero, List.set_cons_succ] at hK); go_simp; (refine (gR _ _ hS.1 (hF.1 (by rfl))).mono ?_; rintro e w' ⟨v, rfl, hF', hb'⟩; exact hK _ _ hF' (keepS _ (below_next hb' hS.1)) hb'))); (simp only [Act.put, List.setIfInBounds_toArray, List.set_cons_zero, List.set_cons_succ]))
  (refine msettle_known (FRun w2.heap.size L 0) (by rfl) (by rfl) (fun _ => by rfl)  ?_ ?_; (focus (intro ρ w hS hF K hK; (simp only [Act.put, List.setIfInBounds_toArray, List.set_cons_zero, List.set_cons_succ] at hK); go_simp; exact hK _ _ (hF.1 (by rfl)) hS (Below.refl _ _))); (simp only [Act.put, List.setIfInBounds_toArray, List.set_cons_zero, List.set_cons_succ]))
  (refine msettle_known (FRow w2.heap.size 38 2 L.length (donecs L)) (by rfl) (by rfl) (fun _ => by rfl)  ?_ ?_; (focus (intro ρ w hS hF K hK; (simp only [Act.put, List.setIfInBounds_toArray, List.set_cons_zero, List.set_cons_succ] at hK); go_simp; (obtain ⟨D2, hD2, hD3⟩ := hF.1 (by rfl); rw [hD2] at hK ⊢; go_simp; exact hK _ _ hD3 hS (Below.refl _ _)))); (simp only [Act.put, List.setIfInBounds_toArray, List.set_cons_zero, List.set_cons_succ]))
  (refine' msettle_step (by rfl) (fun _ => by rfl) ?_ ?_; rotate_left; (focus (intro ρ w hS hF K hK; (simp only [Act.put, List.setIfInBounds_toArray, List.set_cons_zero, List.set_cons_succ] at hK); go_simp; (obtain ⟨D2, hD2, hD3⟩ := hF.2.1 (by rfl)); rw [hD2] at hK ⊢; go_simp; have hS' := hS; have hE' := Below.refl w.heap.size w; exact hK _ hS' hE')); (simp only [Act.put, List.setIfInBounds_toArray, List.set_cons_zero, List.set_cons_succ]))
  (refine' msettle_step (by rfl) (fun _ => by rfl) ?_ ?_; rotate_left; (focus (intro ρ w hS hF K hK; (simp only [Act.put, List.setIfInBounds_toArray, List.set_cons_zero, List.set_cons_succ] at hK); go_simp; (obtain ⟨D2, hD2, hD3⟩ := hF.2.1 (by rfl)); rw [hD2] at hK ⊢; go_simp; have hS' := hS; have hE' := Below.refl w.heap.size w; exact hK _ hS' hE')); (simp only [Act.put, List.setIfInBounds_toArray, List.set_cons_zero, List.set_cons_succ]))
  (refine msettle_known (FRow w2.heap.size 38 2 L.length (donecs L)) (by rfl) (by rfl) (fun _ => by rfl)  ?_ ?_; (focus (intro ρ w hS hF K hK; (simp only [Act.put, List.setIfInBounds_toArray, List.set_cons_zero, List.set_cons_succ] at hK); go_simp; exact hK _ _ (hF.1 (by rfl)) hS (Below.refl _ _))); (simp only [Act.put, List.setIfInBounds_toArray, List.set_cons_zero, List.set_cons_succ]))
  repeat (first | (refine msettle_skip (by rfl) (fun _ => by rfl) ?_; (simp only [Act.put, List.setIfInBounds_toArray, List.set_cons_zero, List.set_cons_succ])) | (refine' msettle_run (by rfl) (fun _ _ => Below.refl _ _) (fun _ => by rfl) ?_ ?_; rotate_left; (focus (intro ρ w hS hF; (try dsimp only at hS); go_split_ands; go_simp; try with_reducible rfl)); (simp only [Act.put, List.setIfInBounds_toArray, List.set_cons_zero, List.set_cons_succ])))
  refine msettle_nil ?_
  intro ρ w4 hS hF
  have hC := hF 8 (FRow w2.heap.size 38 2 L.length (donecs L)) (by repeat (first | exact List.mem_cons_self | apply List.mem_cons_of_mem))
  obtain ⟨hb4, c0, c1, c2, c3, c4⟩ := hS
  rw [GS.out.2] at hC
  obtain ⟨PC, cC, eC, hcC, hmC⟩ := own_slice hC
  have gL4 := GS.out.1 w4 hb4
  have hbF := below_self hbE hb4
  dsimp only
  rw [eC]
  clear hF eC hC gR gC gF hS0 keepS hb4
  unfold maxLen at hmC
  go_wp2_with fail
  refine gL4.mono ?_
  rintro e w5 ⟨v5, rfl, ⟨A5, c5, rfl, hle5, hm5, -, -⟩, hb5⟩
  unfold maxLen at hm5
  have hbG := below_self hbF hb5
  clear gL4 hb5 hbF c0 c1 c2 c3 c4
  go_wp2
  go_ret
  exact ⟨rfl, hbG⟩
end Go.Proofs.Ytajddbmmbhdnfaa


namespace Go.Proofs.Ytajddbmmbhdnfaa
set_option linter.unusedVariables false
set_option linter.unusedSimpArgs false
set_option maxRecDepth 100000
open Go.ChangeShapes Go.WideShapes Go.ChangeAt Go.RowKit
set_option linter.unusedVariables false

set_option maxRecDepth 100000 in
theorem stealEnds_lifted (os : Os) (started : os.Started) (H : Type) (enc : TypeId × Value → H) (F : Stop.Interp) :
    ReturnsInHanded {} Try.checked os 5 .any ((Rows.OpenSpec.upto Rows.stealEndsSpec).pre6 enc Try.prog Try.f5 Rows.stealEndsUptoRow.domain false) (((Rows.OpenSpec.upto Rows.stealEndsSpec).at F).post enc Try.prog Try.f5 false true false false) := by
  refine returnsInHanded_of_cond (C := Try.checked) (s := Rows.OpenSpec.upto Rows.stealEndsSpec) (k := Rows.uptoSmall) rfl own started (by kernel_rfl) Try.func5
    (OpenSpec.witness (enc := enc) (C := Try.checked) (s := Rows.OpenSpec.upto Rows.stealEndsSpec) (k := Rows.uptoSmall) rfl false ⟨#[], #[.agg #[.int .i64 0, .int .i64 0, .bool false, .int .i64 0, .slice none 0 0], .int .i64 0, .slice none 0 0], []⟩ 8 (by kernel_rfl) (by kernel_rfl) (by kernel_rfl)
      (x := ([.agg [.lit (.int .i64 0), .agg [.lit (.int .i64 0), .lit (.bool false), .lit (.int .i64 0)], .nil], .lit (.int .i64 0), .nil], [], [])) (by kernel_rfl) rfl (by kernel_rfl)) ?_
  intro W base args ds gs before hval0 hW _ hk _
  have hval : ∀ (j : Nat) t v, Try.f5.params[j]? = some t → args[j]? = some v → Value.okWide Try.prog W .any base t v := hval0
  have hW' := hW
  have hlt := hW.lt
  obtain ⟨p, q, hA0, hV, rfl, hfz, hnd⟩ := hW
  have hA : DataW.TrodAll enc Try.prog W 0 (fun _ => true) true Try.f5.params.toList args.toList ds p := hA0
  rw [Try.params5] at hA hval
  obtain ⟨v0, vs0, d0, ds0, p0, q0, hargs, rfl, rfl, h0, r0⟩ := trodAll_cons hA
  obtain ⟨v1, vs1, d1, ds1, p1, q1, rfl, rfl, rfl, h1, r1⟩ := trodAll_cons r0
  obtain ⟨v2, vs2, d2, ds2, p2, q2, rfl, rfl, rfl, h2, r2⟩ := trodAll_cons r1
  obtain ⟨rfl, rfl, rfl⟩ := trodAll_nil r2
  obtain rfl : args = #[v0, v1, v2] := by cases args; simp_all
  obtain ⟨rfl, rfl⟩ := trodVars_none hV
  obtain ⟨cs0, t0, rfl, ht0, hs0⟩ := open_arg_cnt (hval 0 _ v0 rfl rfl) h0 (fun x hx => by simpa using hlt x (by simp [hx]))
  obtain ⟨n1, rfl, rfl, rfl, wn1⟩ := open_int Try.underlying3 (hval 1 _ v1 rfl rfl) h1
  obtain ⟨rs, hrs, sl, er⟩ := open_rows Try.underlying27 Try.underlying29 rfl (by decide) (by kernel_rfl) (by kernel_rfl) (okWide_slice Try.underlying27 (hval 2 _ v2 rfl rfl)) h2 (fun x hx => by simpa using hlt x (by simp [hx]))
  obtain ⟨ps, eo, el⟩ := rows_pks rs hrs
  obtain ⟨m, hm1, hm2⟩ := open_arg_rose h0 (fun x hx => by simpa using hlt x (by simp [hx]))
  have hk' := hk
  simp [Rows.uptoSmall, Rows.uptoBulkAll] at hk'
  have b2 := bulk_rows (er.imp (fun h => ⟨h.1, by rw [h.2]; rfl⟩) id)
  rw [eo, ← el] at sl
  have hz := sz_cnt t0
  have hl := t0.size_le_cnt
  refine (stealEnds_any t0 ps W cs0 n1 v2 m ht0 hm1 (by omega) (by omega) (by omega) (by omega) sl).mono fun e W' ⟨he, hb⟩ => ?_
  subst he
  exact ⟨_, rfl, post_true laidOut (by kernel_rfl) Try.underlying4 (by decide +kernel) rfl rfl hW' hb⟩

theorem stealEnds_upto : Rows.StealEndsUptoSaid :=
  OpenClaim.holds_of_cond 5 Try.f5 rfl rfl rfl rfl rfl rfl rfl ⟨rfl, rfl, rfl, rfl, rfl⟩ rfl rfl rfl rfl rfl (by kernel_rfl) Try.func5 (by kernel_rfl)
    (of_decide_eq_true (by kernel_rfl)) (by unfold Func.isWrapper; first | (rw [if_pos (by decide +kernel)]; kernel_rfl) | (rw [if_neg (by decide +kernel)]; exact ⟨rfl, rfl⟩))
    (fun os started H enc _ F => stealEnds_lifted os started H enc F)
end Go.Proofs.Ytajddbmmbhdnfaa
