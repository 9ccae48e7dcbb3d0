/-
  An argument that is a term, or a struct of integers, at a law's end.
-/
import Derived.Test.YtpimcghmpbbckaaDoorRows
import Derived.Test.YtpimcghmpbbckaaDoorCnP5
import Derived.Test.YtpimcghmpbbckaaDoorCnP1
import Derived.Test.YtpimcghmpbbckaaDoorChecked
import Derived.Deep.RegionLaw
import Derived.Outline
import Derived.Laws.StructEq
import Derived.Test.YtpimcghmpbbckaaDoorCnP3
import Derived.Test.YtpimcghmpbbckaaDoorCards
import Derived.Test.YtpimcghmpbbckaaDoorTie
import Derived.WalkKit
import Derived.ProofKit
import Derived.OpenShut
import Derived.Deep.DeepHandedRow
import Derived.Lib.LaidTab

namespace Go.Proofs.YtpimcghmpbbckaaDoor
set_option linter.unusedVariables false
set_option linter.unusedSimpArgs false
set_option maxRecDepth 100000
open Go.ChangeShapes Go.WideShapes Go.ChangeAt Go.RowKit
set_option maxRecDepth 100000

def tcells (k c : Int) (b : Bool) (l : Int) (A : Option Addr) (n cap : Nat) : List Value := [.int .i64 k, .int .i64 c, .bool b, .int .i64 l, .slice A n cap]

inductive TmR (B : Nat) (w : World) : List Value → Sp.T → Prop
  | nil (k c : Int) (b : Bool) (l : Int) (A : Option Addr) (n cap : Nat) : n ≤ cap → cap ≤ maxLen → k ≠ 1 → ¬ ((k = 2 ∨ k = 3) ∧ 2 ≤ n) → TmR B w (tcells k c b l A n cap) .nil
  | one (c : Int) (b : Bool) (l : Int) (A : Option Addr) (n cap : Nat) : n ≤ cap → cap ≤ maxLen → TmR B w (tcells 1 c b l A n cap) (.one c b l)
  | two (par : Bool) (c : Int) (b : Bool) (l : Int) (g o n cap : Nat) (cs0 cs1 : List Value) (t0 t1 : Sp.T) : n ≤ cap → cap ≤ maxLen → 2 ≤ n → g < B →
      (∀ j u, cs0[j]? = some u → w.cell? ⟨g, o + j, none⟩ = some u) → (∀ j u, cs1[j]? = some u → w.cell? ⟨g, o + 5 + j, none⟩ = some u) → TmR B w cs0 t0 → TmR B w cs1 t1 →
      TmR B w (tcells (if par then 3 else 2) c b l (some ⟨g, o, none⟩) n cap) (.two par t0 t1)

theorem TmR.form {B : Nat} {w : World} {cs : List Value} {t : Sp.T} (h : TmR B w cs t) : ∃ k c b l A n cap, cs = tcells k c b l A n cap ∧ n ≤ cap ∧ cap ≤ maxLen := by
  cases h with
  | nil k c b l A n cap h1 h2 => exact ⟨_, _, _, _, _, _, _, rfl, h1, h2⟩
  | one c b l A n cap h1 h2 => exact ⟨_, _, _, _, _, _, _, rfl, h1, h2⟩
  | two par c b l g o n cap cs0 cs1 t0 t1 h1 h2 => exact ⟨_, _, _, _, _, _, _, rfl, h1, h2⟩

theorem TmR.keep {B B' : Nat} {w w' : World} {cs : List Value} {t : Sp.T} (h : TmR B w cs t) (hB : B ≤ B') (hk : ∀ p : Addr, p.block < B → w'.cell? p = w.cell? p) : TmR B' w' cs t := by
  induction h with
  | nil k c b l A n cap h1 h2 h3 h4 => exact .nil k c b l A n cap h1 h2 h3 h4
  | one c b l A n cap h1 h2 => exact .one c b l A n cap h1 h2
  | two par c b l g o n cap cs0 cs1 t0 t1 h1 h2 h3 h4 h5 h6 _ _ i0 i1 =>
    exact .two par c b l g o n cap cs0 cs1 t0 t1 h1 h2 h3 (Nat.lt_of_lt_of_le h4 hB) (fun j u hu => (hk ⟨g, o + j, none⟩ h4).trans (h5 j u hu)) (fun j u hu => (hk ⟨g, o + 5 + j, none⟩ h4).trans (h6 j u hu)) i0 i1
theorem TmR.later {B : Nat} {w w' : World} {cs : List Value} {t : Sp.T} (h : TmR B w cs t) (hb : Below B w w') : TmR B w' cs t := h.keep (Nat.le_refl _) (fun _ hp => hb.cell hp)
theorem TmR.alloc {B : Nat} {w : World} {cs : List Value} {t : Sp.T} (h : TmR B w cs t) (hB : B ≤ w.heap.size) (o : Obj) : TmR B (w.alloc o) cs t := h.later ((Below.refl _ _).alloc hB o)

/-! ### an argument -/
theorem bulk_mem {H : Type} {d : DataW H} : ∀ {l : List (DataW H)}, d ∈ l → Rows.uptoBulk d ≤ Rows.uptoBulkAll l
  | x :: l, h => by
    rw [Rows.uptoBulkAll]
    rcases List.mem_cons.1 h with rfl | h
    · omega
    · have := bulk_mem h; omega
theorem bulk_two {H : Type} (x y : DataW H) (l : List (DataW H)) : Rows.uptoBulk x + Rows.uptoBulk y ≤ Rows.uptoBulkAll (x :: y :: l) := by
  rw [Rows.uptoBulkAll, Rows.uptoBulkAll]; omega


theorem open_term {H : Type} {enc : TypeId × Value → H} {w : World} : ∀ (fuel : Nat) (cs : List Value) (x : DataW H × List MemPlace), DataW.trod enc Tryd.prog w 0 (fun _ => true) true fuel 42 cs = some x → (∀ p ∈ x.2, p.block < w.heap.size) →
    ∃ t : Sp.T, TmR w.heap.size w cs t ∧ t.cnt ≤ Rows.uptoBulk x.1 := by
  intro fuel
  induction fuel using Nat.strongRecOn with
  | _ fuel ih =>
    intro cs x h hlt
    have hT : Tryd.prog.underlying 42 = some (.struct (fieldsOf Tryd.prog 42)) := by kernel_rfl
    have hA : Tryd.prog.underlying 39 = some (.struct (fieldsOf Tryd.prog 39)) := by kernel_rfl
    obtain ⟨xs, m, rfl, rfl, hl, hxl, hfs⟩ := DataW.trod_struct hT h
    have e0 : (fieldsOf Tryd.prog 42)[0]?.map (fun f => (f.type, f.offset)) = some (3, 0) := by kernel_rfl
    have e1 : (fieldsOf Tryd.prog 42)[1]?.map (fun f => (f.type, f.offset)) = some (39, 1) := by kernel_rfl
    have e2 : (fieldsOf Tryd.prog 42)[2]?.map (fun f => (f.type, f.offset)) = some (40, 4) := by kernel_rfl
    have hsz : (fieldsOf Tryd.prog 42).size = 3 := by kernel_rfl
    obtain ⟨f0, g0, q0⟩ := Option.map_eq_some_iff.1 e0
    obtain ⟨f1, g1, q1⟩ := Option.map_eq_some_iff.1 e1
    obtain ⟨f2, g2, q2⟩ := Option.map_eq_some_iff.1 e2
    injection q0 with q0 q0'
    injection q1 with q1 q1'
    injection q2 with q2 q2'
    have h0 := hfs 0 f0 g0
    have h1 := hfs 1 f1 g1
    have h2 := hfs 2 f2 g2
    have c0 : Tryd.prog.cellsOf 3 = 1 := by kernel_rfl
    have c1 : Tryd.prog.cellsOf 39 = 3 := by kernel_rfl
    have c2 : Tryd.prog.cellsOf 40 = 1 := by kernel_rfl
    have cT : Tryd.prog.cellsOf 42 = 5 := by kernel_rfl
    have cB : Tryd.prog.cellsOf 4 = 1 := by kernel_rfl
    rw [q0, q0', c0] at h0
    rw [q1, q1', c1] at h1
    rw [q2, q2', c2] at h2
    rw [cT] at hl
    rw [hsz] at hxl
    match xs, hxl, cs, hl with
    | [x0, x1, x2], _, [v0, v1, v2, v3, v4], _ =>
      simp only [List.drop_succ_cons, List.drop_zero, List.take_succ_cons, List.take_zero, List.getElem?_cons_zero, List.getElem?_cons_succ] at h0 h1 h2
      obtain ⟨k, hk, -, -⟩ := DataW.trod_int Tryd.underlying3 h0
      obtain ⟨ys, m1, rfl, -, hl1, hyl, hys⟩ := DataW.trod_struct hA h1
      have d0 : (fieldsOf Tryd.prog 39)[0]?.map (fun f => (f.type, f.offset)) = some (3, 0) := by kernel_rfl
      have d1 : (fieldsOf Tryd.prog 39)[1]?.map (fun f => (f.type, f.offset)) = some (4, 1) := by kernel_rfl
      have d2 : (fieldsOf Tryd.prog 39)[2]?.map (fun f => (f.type, f.offset)) = some (3, 2) := by kernel_rfl
      have hsy : (fieldsOf Tryd.prog 39).size = 3 := by kernel_rfl
      obtain ⟨u0, w0, p0⟩ := Option.map_eq_some_iff.1 d0
      obtain ⟨u1, w1, p1⟩ := Option.map_eq_some_iff.1 d1
      obtain ⟨u2, w2, p2⟩ := Option.map_eq_some_iff.1 d2
      injection p0 with p0 p0'
      injection p1 with p1 p1'
      injection p2 with p2 p2'
      have y0 := hys 0 u0 w0
      have y1 := hys 1 u1 w1
      have y2 := hys 2 u2 w2
      rw [p0, p0', c0] at y0
      rw [p1, p1', cB] at y1
      rw [p2, p2', c0] at y2
      rw [hsy] at hyl
      match ys, hyl with
      | [z0, z1, z2], _ =>
        simp only [List.drop_succ_cons, List.drop_zero, List.take_succ_cons, List.take_zero, List.getElem?_cons_zero, List.getElem?_cons_succ] at y0 y1 y2
        obtain ⟨c, hc, -, -⟩ := DataW.trod_int Tryd.underlying3 y0
        obtain ⟨b, hb, -⟩ := DataW.trod_bool Tryd.underlying4 y1
        obtain ⟨l, hl', -, -⟩ := DataW.trod_int Tryd.underlying3 y2
        simp only [List.cons.injEq, and_true] at hk hc hb hl'
        subst hk hc hb hl'
        have bulk1 : Rows.uptoBulk (DataW.agg (H := H) [x0.1, x1.1, x2.1]) = Rows.uptoBulk x0.1 + (Rows.uptoBulk x1.1 + Rows.uptoBulk x2.1) + 1 := by
          simp [Rows.uptoBulk, Rows.uptoBulkAll]
        have pos : ∀ d : DataW H, 1 ≤ Rows.uptoBulk d := fun d => by
          cases d with
          | lit x => cases x <;> simp [Rows.uptoBulk]
          | _ => simp [Rows.uptoBulk]
        rcases DataW.trod_slice Tryd.underlying40 h2 with ⟨hcs, hx⟩ | ⟨a, len, cap, el, rest, n, hn, hcs, hx, -, hle, hm, hlen, hel, hsp, -⟩
        · simp only [List.cons.injEq, and_true] at hcs
          subst hcs
          by_cases hk1 : k = 1
          · subst hk1
            exact ⟨.one c b l, .one c b l none 0 0 (Nat.le_refl _) (Nat.zero_le _), by have := pos x0.1; simp [Sp.T.cnt, bulk1]⟩
          · exact ⟨.nil, .nil k c b l none 0 0 (Nat.le_refl _) (Nat.zero_le _) hk1 (by omega), by simp [Sp.T.cnt, bulk1]⟩
        · simp only [List.cons.injEq, and_true] at hcs
          subst hcs
          by_cases hk1 : k = 1
          · subst hk1
            exact ⟨.one c b l, .one c b l _ len cap hle hm, by have := pos x0.1; simp [Sp.T.cnt, bulk1]⟩
          · by_cases hk2 : (k = 2 ∨ k = 3) ∧ 2 ≤ len
            · obtain ⟨hk2, h2l⟩ := hk2
              have kid : ∀ i, i < len → ∃ (y : DataW H × List MemPlace) (cs' : List Value) (t : Sp.T), el[i]? = some y ∧ cs'.length = 5 ∧ (∀ j u, cs'[j]? = some u → w.cell? ((a.add (i * 5)).add j) = some u) ∧ TmR w.heap.size w cs' t ∧ t.cnt ≤ Rows.uptoBulk y.1 := by
                intro i hi
                have h3 := hel i hi
                rw [cT, List.getElem?_eq_getElem (by omega)] at h3
                obtain ⟨cs', hc', htr⟩ := Option.bind_eq_some_iff.1 h3
                obtain ⟨hb0, hl5, hat⟩ := World.cells?_some hc'
                obtain ⟨t, ht1, ht2⟩ := ih n (by omega) cs' _ htr (fun p hp => hlt p (by
                  rw [hx]
                  simp only [List.flatMap_cons, List.flatMap_nil, List.mem_append, List.append_nil]
                  exact .inr (.inr (.inr (List.mem_flatMap.2 ⟨el[i], List.mem_append_left _ (List.getElem_mem _), hp⟩)))))
                refine ⟨el[i], cs', t, List.getElem?_eq_getElem (by omega), hl5, fun j u hu => ?_, ht1, ht2⟩
                have hj : j < 5 := by have := (List.getElem?_eq_some_iff.1 hu).1; omega
                rw [hat j hj, hu]
              obtain ⟨ya, csa, ta, ea, la, ca, ra, ba⟩ := kid 0 (by omega)
              obtain ⟨yb, csb, tb, eb, lb, cb, rb, bb⟩ := kid 1 (by omega)
              obtain ⟨g, o, sp⟩ := a
              have hsp0 : sp = none := by
                have := ca 0 _ (List.getElem?_eq_getElem (by omega))
                simpa [Addr.add] using World.cell?_spot this
              subst hsp0
              have ca' : ∀ j u, csa[j]? = some u → w.cell? ⟨g, o + j, none⟩ = some u := fun j u hu => by
                have := ca j u hu
                rw [Addr.add_lit, Addr.add_lit] at this
                simpa using this
              have cb' : ∀ j u, csb[j]? = some u → w.cell? ⟨g, o + 5 + j, none⟩ = some u := fun j u hu => by
                have := cb j u hu
                rw [Addr.add_lit, Addr.add_lit] at this
                simpa using this
              have hg : g < w.heap.size := World.block_lt_of_cell? w _ (ca' 0 _ (List.getElem?_eq_getElem (by omega)))
              have hbulk : ta.cnt + tb.cnt ≤ Rows.uptoBulk x2.1 := by
                rw [hx]
                match el, hlen, ea, eb with
                | e0 :: e1 :: el', _, ea, eb =>
                  simp only [List.getElem?_cons_zero, List.getElem?_cons_succ, Option.some.injEq] at ea eb
                  subst ea eb
                  have := bulk_two e0.1 e1.1 (el'.map (·.1))
                  simp only [List.map_cons, Rows.uptoBulk]
                  omega
              rcases hk2 with rfl | rfl
              · exact ⟨.two false ta tb, .two false c b l g o len cap csa csb ta tb hle hm h2l hg ca' cb' ra rb, by show _ ≤ Rows.uptoBulk (DataW.agg (H := H) [x0.1, x1.1, x2.1]); rw [Sp.T.cnt, bulk1]; omega⟩
              · exact ⟨.two true ta tb, .two true c b l g o len cap csa csb ta tb hle hm h2l hg ca' cb' ra rb, by show _ ≤ Rows.uptoBulk (DataW.agg (H := H) [x0.1, x1.1, x2.1]); rw [Sp.T.cnt, bulk1]; omega⟩
            · exact ⟨.nil, .nil k c b l _ len cap hle hm hk1 hk2, by simp [Sp.T.cnt, bulk1]⟩
end Go.Proofs.YtpimcghmpbbckaaDoor


namespace Go.Proofs.YtpimcghmpbbckaaDoor
set_option linter.unusedVariables false
set_option linter.unusedSimpArgs false
set_option maxRecDepth 100000
open Go.RowKit
namespace Sp
def accc (a : Acc) : List Value := [.int .i64 a.1, .bool a.2.1, .int .i64 a.2.2]
def acccs (l : List Acc) : List Value := l.flatMap accc
theorem acccs_length (l : List Acc) : (acccs l).length = l.length * 3 := flat_length accc 3 (fun _ => rfl) l
theorem acccs_append (a b : List Acc) : acccs (a ++ b) = acccs a ++ acccs b := by simp [acccs]
theorem acc_one (a : Acc) : ∀ u ∈ accc a, u.oneCell' = true := by
  intro u hu
  simp only [accc, List.mem_cons, List.not_mem_nil, or_false] at hu
  rcases hu with rfl | rfl | rfl <;> rfl
theorem info_acc : (Tryd.prog.info? 39).map (fun i => (i.zero, i.size, i.bytes)) = some (some (.agg #[.int .i64 0, .bool false, .int .i64 0]), 3, 24) := by kernel_rfl
end Sp
end Go.Proofs.YtpimcghmpbbckaaDoor


namespace Go.Proofs.YtpimcghmpbbckaaDoor
set_option linter.unusedVariables false
set_option linter.unusedSimpArgs false
set_option maxRecDepth 100000
open Go.RowKit

/-- what gathers leaves, in block g: the row that it has so far -/
structure Lv (B : Nat) (w : World) (g : Nat) (v : Value) (n : Nat) (xs : List Value) : Prop where
  blk : Blk w g 110 [v]
  row : w.ownsRow B 39 3 v n xs
  base : B ≤ w.heap.size
  at_ : B ≤ g
  ne : v.ownBlock ≠ some g

def LvEnd (B : Nat) (w : World) (g : Nat) (v : Value) (n : Nat) (xs : List Value) : Ending → World → Prop := fun e w' =>
  e = .returned (.tuple #[]) ∧ ∃ v', Lv B w' g v' n xs ∧ Keeps (fun k => k = g ∨ v.ownBlock = some k) w w' ∧ (∀ i, v'.ownBlock = some i → v.ownBlock = some i ∨ w.heap.size ≤ i)

theorem lv_put {B : Nat} {w w0 w4 : World} {g n n' : Nat} {v v' : Value} {xs xs' : List Value} {o : Obj} (hL : Lv B w0 g v n xs) (hk0 : Keeps (fun k => k = g ∨ v.ownBlock = some k) w w0) (hg4 : (w0.alloc o).drew.grownBy w4 v.ownBlock) (hown : w4.ownsRow B 39 3 v' n' xs')
    (hv4 : v'.ownBlock = v.ownBlock ∨ v'.ownBlock = some (w0.alloc o).drew.heap.size) : ∃ v'', Lv B (w4.setCell ⟨g, 0, none⟩ v') g v'' n' xs' ∧ Keeps (fun k => k = g ∨ v.ownBlock = some k) w (w4.setCell ⟨g, 0, none⟩ v') ∧ (∀ i, v''.ownBlock = some i → v.ownBlock = some i ∨ w.heap.size ≤ i) := by
  have kk : Keeps (fun k => v.ownBlock = some k) w0 w4 := (((Keeps.refl _ w0).alloc o).drewN 1).trans ((Keeps.of_grown hg4).mono (fun i hi => hi.symm))
  have hne : v'.ownBlock ≠ some g := fun e => by
    rcases hv4 with h | h
    · exact hL.ne (h ▸ e)
    · rw [h] at e
      injection e with e
      have := hL.blk.lt
      simp at e; omega
  have hb4 := hL.blk.keeps kk hL.ne
  have ks : Keeps (fun k => k = g) w4 (w4.setCell ⟨g, 0, none⟩ v') := (Keeps.of_grown (grown_setCell w4 g 0 v')).mono (fun i hi => by injection hi)
  refine ⟨v', ⟨?_, own_keeps hown ks (fun i hi e => hne (e ▸ hi)), by have := hL.base; have := kk.size; have := ks.size; omega, hL.at_, hne⟩, (hk0.trans (kk.mono (fun i hi => .inr hi))).trans (ks.mono (fun i hi => .inl hi)), fun i hi => ?_⟩
  · have := hb4.set_ 0 v'
    simpa using this
  · rcases hv4 with h | h
    · exact .inl (h ▸ hi)
    · rw [h] at hi
      injection hi with hi
      have := hk0.size
      simp at hi
      exact .inr (by omega)

theorem lv_nothing (B : Nat) (w : World) (g : Nat) (v : Value) (n : Nat) (xs : List Value) (h : Lv B w g v n xs) :
    Calls Tryd.prog 100 #[.pointer (some ⟨g, 0, none⟩)] w (LvEnd B w g v n xs) := by
  go_enter Tryd.func100, Tryd.ntmps100
  go_wp2
  go_end0
  exact ⟨rfl, v, h, Keeps.refl _ _, fun i hi => .inl hi⟩

theorem lv_one (B : Nat) (w : World) (g : Nat) (v : Value) (n : Nat) (xs : List Value) (h : Lv B w g v n xs) (a : Sp.Acc) (hn : n ≤ 4194304) :
    Calls Tryd.prog 101 #[.pointer (some ⟨g, 0, none⟩), .agg #[.int .i64 a.1, .bool a.2.1, .int .i64 a.2.2]] w (LvEnd B w g v (n + 1) (xs ++ Sp.accc a)) := by
  obtain ⟨a1, a2, a3⟩ := a
  simp only
  go_enter Tryd.func101, Tryd.ntmps101
  go_wp2_with fail
  have hB := Blk.new w 39 (Sp.accc (a1, a2, a3))
  have hL : Lv B (w.alloc (.cells (Sp.accc (a1, a2, a3)).toArray 39)) g v n xs := ⟨h.blk.alloc _, h.row.alloc _, by have := h.base; simp; omega, h.at_, h.ne⟩
  have hk0 : Keeps (fun k => k = g ∨ v.ownBlock = some k) w (w.alloc (.cells (Sp.accc (a1, a2, a3)).toArray 39)) := (Keeps.refl _ w).alloc _
  have hvw : ∀ i, v.ownBlock = some i → i < w.heap.size := fun i hi => (h.row.lt i hi).2
  have hgw := h.blk.lt
  obtain ⟨q, hq⟩ : ∃ q, q = w.heap.size := ⟨_, rfl⟩
  have hB' : Blk (w.alloc (.cells (Sp.accc (a1, a2, a3)).toArray 39)) q 39 (Sp.accc (a1, a2, a3)) := by rw [hq]; exact hB
  have hqs : q < (w.alloc (.cells (Sp.accc (a1, a2, a3)).toArray 39)).heap.size := by rw [hq]; simp
  show Code.wp _ _ _ _ (w.alloc (.cells (Sp.accc (a1, a2, a3)).toArray 39))
  rw [← hq]
  generalize (w.alloc (.cells (Sp.accc (a1, a2, a3)).toArray 39)) = w0 at hB' hL hk0 hqs ⊢
  clear hB h hq
  have c0 := hL.blk.cell 0
  simp only [List.getElem?_cons_zero] at c0
  have d0 := hB'.cell 0
  have d1 := hB'.cell 1
  have d2 := hB'.cell 2
  simp only [Sp.accc, List.getElem?_cons_zero, List.getElem?_cons_succ] at d0 d1 d2
  have n63 : n + 1 ≤ maxLen := by unfold maxLen; omega
  have n47 : (n + 1) * 24 ≤ 140737488355328 := by omega
  have fz : ∀ w', Keeps (fun k => v.ownBlock = some k) w0 w' → w'.frozen? ⟨g, 0, none⟩ = false ∧ w'.cell? ⟨g, 0, none⟩ = some v := fun w' hk => by
    have hb := hL.blk.keeps hk hL.ne
    exact ⟨hb.frozen 0, by rw [hb.cell]; rfl⟩
  have hrow : ∀ o : Obj, (w0.alloc o).drew.ownsRow B 39 3 v n xs := fun o => (hL.row.alloc o).drew
  have hba : ∀ o : Obj, B ≤ (w0.alloc o).drew.heap.size := fun o => by have := hL.base; simp; omega
  have hgl := hL.blk.lt
  go_region_law (refine step_append _ _ _ _ _ _ _ _ Tryd.underlying72 Sp.info_acc rfl (by decide) (hrow _) (show Cells _ _ _ (Sp.accc (a1, a2, a3)) from Cells.new w0 _ 39) rfl (Sp.acc_one _) n63 n47 (hba _) rfl rfl rfl rfl ?_; intro v4 w4 hown4 hg4 hv4 hb4; obtain ⟨A4, k4, rfl, hle4, hm4⟩ := own_slice hown4; obtain ⟨f4, c4⟩ := fz w4 (((Keeps.refl _ w0).alloc _).drewN 1 |>.trans ((Keeps.of_grown hg4).mono (fun i hi => hi.symm))))
  all_goals
    have hend := lv_put hL hk0 hg4 hown4 hv4
    clear hb4 hg4 hown4 hv4 hrow hba fz f4 c4 c0 d0 d1 d2 hB' hL hk0
    go_end0
    exact ⟨rfl, hend⟩

/-- what tell does, whoever is told -/
theorem tell_nil {B : Nat} {w : World} {cs : List Value} (hT : TmR B w cs .nil) {ty : TypeId} {p : Value} {f : FuncId} {R : World → Prop} (hme : ∀ (k : Nat) (w : World), (method (k + 1) ty p "forkwright/sp.nothing").run Tryd.prog w = .ok (f, p) w) (hcf : ∀ (args : Array Value) (w : World), (callFunc f args).run Tryd.prog w = .ok (.enter f args) w)
    (hc : Calls Tryd.prog f #[p] (w.alloc (.cells cs.toArray 42)) fun e w' => e = .returned (.tuple #[]) ∧ R w') :
    Calls Tryd.prog 45 #[.agg cs.toArray, .iface ty p] w fun e w' => e = .returned (.tuple #[]) ∧ R w' := by
  cases hT with
  | nil k c b l A m cap hm hcap hk1 hk2 =>
  unfold tcells at hc ⊢
  unfold maxLen at hcap
  have e1 : (k == 1) = false := by simpa using hk1
  by_cases k2 : k = 2
  · subst k2
    have hm2 : ¬ 2 ≤ m := fun h => hk2 ⟨.inl rfl, h⟩
    clear hk2 hk1
    go_enter Tryd.func45, Tryd.ntmps45
    go_wp2_with fail
    refine hc.mono ?_
    rintro e w1 ⟨rfl, hR⟩
    go_wp2
    go_end0
    exact ⟨rfl, hR⟩
  · have e2 : (k == 2) = false := by simpa using k2
    by_cases k3 : k = 3
    · subst k3
      have hm2 : ¬ 2 ≤ m := fun h => hk2 ⟨.inr rfl, h⟩
      clear hk2 hk1
      go_enter Tryd.func45, Tryd.ntmps45
      go_wp2_with fail
      refine hc.mono ?_
      rintro e w1 ⟨rfl, hR⟩
      go_wp2
      go_end0
      exact ⟨rfl, hR⟩
    · have e3 : (k == 3) = false := by simpa using k3
      clear hk2 hk1
      go_enter Tryd.func45, Tryd.ntmps45
      go_wp2_with fail
      refine hc.mono ?_
      rintro e w1 ⟨rfl, hR⟩
      go_wp2
      go_end0
      exact ⟨rfl, hR⟩

theorem tell_one {B : Nat} {w : World} {cs : List Value} {c : Int} {b : Bool} {l : Int} (hT : TmR B w cs (.one c b l)) {ty : TypeId} {p : Value} {f : FuncId} {R : World → Prop} (hme : ∀ (k : Nat) (w : World), (method (k + 1) ty p "forkwright/sp.one").run Tryd.prog w = .ok (f, p) w) (hcf : ∀ (args : Array Value) (w : World), (callFunc f args).run Tryd.prog w = .ok (.enter f args) w)
    (hc : Calls Tryd.prog f #[p, .agg #[.int .i64 c, .bool b, .int .i64 l]] (w.alloc (.cells cs.toArray 42)) fun e w' => e = .returned (.tuple #[]) ∧ R w') :
    Calls Tryd.prog 45 #[.agg cs.toArray, .iface ty p] w fun e w' => e = .returned (.tuple #[]) ∧ R w' := by
  cases hT with
  | one c b l A m cap hm hcap =>
  unfold tcells at hc ⊢
  unfold maxLen at hcap
  go_enter Tryd.func45, Tryd.ntmps45
  go_wp2_with fail
  refine hc.mono ?_
  rintro e w1 ⟨rfl, hR⟩
  go_wp2
  go_end0
  exact ⟨rfl, hR⟩

set_option maxHeartbeats 2000000 in
theorem tell_two {B : Nat} {w : World} {cs : List Value} {par : Bool} {t0 t1 : Sp.T} (hT : TmR B w cs (.two par t0 t1)) {ty : TypeId} {p : Value} {f : FuncId} {R : World → Prop} (hme : ∀ (k : Nat) (w : World), (method (k + 1) ty p "forkwright/sp.two").run Tryd.prog w = .ok (f, p) w) (hna : ∀ (k : Nat) (w : World), (nilAhead (k + 1) ty p "forkwright/sp.two").run Tryd.prog w = .ok (some false) w) (hcf : ∀ (args : Array Value) (w : World), (callFunc f args).run Tryd.prog w = .ok (.enter f args) w)
    (hB : B ≤ w.heap.size) (hc : ∀ cs0 cs1, TmR B w cs0 t0 → TmR B w cs1 t1 → Calls Tryd.prog f #[p, .bool par, .agg cs0.toArray, .agg cs1.toArray] ((w.alloc (.cells cs.toArray 42)).drewN 1) fun e w' => e = .returned (.tuple #[]) ∧ R w') :
    Calls Tryd.prog 45 #[.agg cs.toArray, .iface ty p] w fun e w' => e = .returned (.tuple #[]) ∧ R w' := by
  cases hT with
  | two par c b l g o m cap cs0 cs1 t0 t1 hm hcap h2 hg h5 h6 r0 r1 =>
  have hcc := hc cs0 cs1 r0 r1
  have hgw : g < w.heap.size := by omega
  clear hc
  obtain ⟨a0, a1, a2, a3, A4, a5, a6, rfl, -, -⟩ := r0.form
  obtain ⟨b0, b1, b2, b3, B4, b5, b6, rfl, -, -⟩ := r1.form
  have x0 := h5 0 _ rfl
  have x1 := h5 1 _ rfl
  have x2 := h5 2 _ rfl
  have x3 := h5 3 _ rfl
  have x4 := h5 4 _ rfl
  have y0 := h6 0 _ rfl
  have y1 := h6 1 _ rfl
  have y2 := h6 2 _ rfl
  have y3 := h6 3 _ rfl
  have y4 := h6 4 _ rfl
  rw [Nat.add_zero] at x0 y0
  clear h5 h6 r0 r1
  unfold tcells at hcc ⊢
  unfold maxLen at hcap
  have m0 : (0 : Int) < (m : Int) := by omega
  have m1 : (1 : Int) < (m : Int) := by omega
  have m2 : 0 < m := by omega
  have m3 : 1 < m := by omega
  rcases par with _ | _
  · simp only [Bool.false_eq_true, if_false] at hcc
    go_enter Tryd.func45, Tryd.ntmps45
    go_wp2_with fail
    (refine still_last (by kernel_rfl) (by kernel_rfl) ?_; simp only [List.length_cons, List.length_nil, Nat.reduceAdd, Nat.reduceSub, List.take_succ_cons, List.take_zero, List.drop_succ_cons, List.drop_zero]; repeat still_step; try refine wpStill_nil ?_)
    go_wp2_with fail
    refine hcc.mono ?_
    rintro e w1 ⟨rfl, hR⟩
    go_wp2
    go_end0
    exact ⟨rfl, hR⟩
  · simp only [if_true] at hcc
    go_enter Tryd.func45, Tryd.ntmps45
    go_wp2_with fail
    (refine still_last (by kernel_rfl) (by kernel_rfl) ?_; simp only [List.length_cons, List.length_nil, Nat.reduceAdd, Nat.reduceSub, List.take_succ_cons, List.take_zero, List.drop_succ_cons, List.drop_zero]; repeat still_step; try refine wpStill_nil ?_)
    go_wp2_with fail
    refine hcc.mono ?_
    rintro e w1 ⟨rfl, hR⟩
    go_wp2
    go_end0
    exact ⟨rfl, hR⟩

end Go.Proofs.YtpimcghmpbbckaaDoor


namespace Go.Proofs.YtpimcghmpbbckaaDoor
set_option linter.unusedVariables false
set_option linter.unusedSimpArgs false
set_option maxRecDepth 100000
open Go.RowKit

theorem meth_lv (g fuel : Nat) (w : World) : (method (fuel + 1) 111 (.pointer (some ⟨g, 0, none⟩)) "forkwright/sp.nothing").run Tryd.prog w = .ok (100, .pointer (some ⟨g, 0, none⟩)) w ∧
    (method (fuel + 1) 111 (.pointer (some ⟨g, 0, none⟩)) "forkwright/sp.one").run Tryd.prog w = .ok (101, .pointer (some ⟨g, 0, none⟩)) w ∧
    (method (fuel + 1) 111 (.pointer (some ⟨g, 0, none⟩)) "forkwright/sp.two").run Tryd.prog w = .ok (102, .pointer (some ⟨g, 0, none⟩)) w ∧
    (nilAhead (fuel + 1) 111 (.pointer (some ⟨g, 0, none⟩)) "forkwright/sp.two").run Tryd.prog w = .ok (some false) w :=
  ⟨by kernel_rfl, by kernel_rfl, by kernel_rfl, by kernel_rfl⟩

theorem LvEnd.and {B : Nat} {w : World} {g : Nat} {v : Value} {n : Nat} {xs : List Value} (e : Ending) (w' : World) : LvEnd B w g v n xs e w' ↔ (e = .returned (.tuple #[]) ∧ ∃ v', Lv B w' g v' n xs ∧ Keeps (fun k => k = g ∨ v.ownBlock = some k) w w' ∧ (∀ i, v'.ownBlock = some i → v.ownBlock = some i ∨ w.heap.size ≤ i)) := Iff.rfl

theorem Lv.alloc {B : Nat} {w : World} {g : Nat} {v : Value} {n : Nat} {xs : List Value} (h : Lv B w g v n xs) (o : Obj) : Lv B (w.alloc o) g v n xs := ⟨h.blk.alloc _, h.row.alloc _, by have := h.base; simp; omega, h.at_, h.ne⟩
theorem Lv.drewN {B : Nat} {w : World} {g : Nat} {v : Value} {n : Nat} {xs : List Value} (h : Lv B w g v n xs) (k : Nat) : Lv B (w.drewN k) g v n xs := ⟨h.blk, ⟨h.row.1, h.row.2⟩, h.base, h.at_, h.ne⟩

theorem lv_back {B : Nat} {w w0 : World} {g : Nat} {v : Value} {n : Nat} {xs : List Value} (hk : Keeps (fun _ => False) w w0) {e : Ending} {w' : World} (h : LvEnd B w0 g v n xs e w') : LvEnd B w g v n xs e w' := by
  obtain ⟨h1, v', h2, h3, h4⟩ := h
  have := hk.size
  exact ⟨h1, v', h2, (hk.mono (fun _ h => h.elim)).trans h3, fun i hi => (h4 i hi).imp id (fun h => by omega)⟩

theorem keeps_alloc (w : World) (o : Obj) : Keeps (fun _ => False) w (w.alloc o) := (Keeps.refl _ w).alloc o

theorem tell_leaves : ∀ (t : Sp.T) (B : Nat) (w : World) (g : Nat) (v : Value) (n : Nat) (xs cs : List Value), TmR B w cs t → Lv B w g v n xs → n + t.size ≤ 4194304 →
    Calls Tryd.prog 45 #[.agg cs.toArray, .iface 111 (.pointer (some ⟨g, 0, none⟩))] w (LvEnd B w g v (n + t.size) (xs ++ Sp.acccs t.leaves)) := by
  intro t
  induction t with
  | nil =>
    intro B w g v n xs cs hT hL hn
    have e : xs ++ Sp.acccs Sp.T.nil.leaves = xs := by simp [Sp.T.leaves, Sp.acccs]
    rw [e]
    refine tell_nil hT (f := 100) (fun k w => (meth_lv g k w).1) (fun _ _ => by rfl) ?_
    exact (lv_nothing B _ g v n xs (hL.alloc _)).mono fun e w' h => lv_back (keeps_alloc _ _) h
  | one c b l =>
    intro B w g v n xs cs hT hL hn
    have e : xs ++ Sp.acccs (Sp.T.one c b l).leaves = xs ++ Sp.accc (c, b, l) := by simp [Sp.T.leaves, Sp.acccs]
    rw [e]
    refine tell_one hT (f := 101) (fun k w => (meth_lv g k w).2.1) (fun _ _ => by rfl) ?_
    exact (lv_one B _ g v n xs (hL.alloc _) (c, b, l) (by omega)).mono fun e w' h => lv_back (keeps_alloc _ _) h
  | two par t0 t1 ih0 ih1 =>
    intro B w g v n xs cs hT hL hn
    rw [Sp.T.size_two] at hn ⊢
    refine tell_two hT (f := 102) (fun k w => (meth_lv g k w).2.2.1) (fun k w => (meth_lv g k w).2.2.2) (fun _ _ => by rfl) hL.base ?_
    intro cs0 cs1 r0 r1
    have hk0 : Keeps (fun _ => False) w ((w.alloc (.cells cs.toArray 42)).drewN 1) := (keeps_alloc _ _).drewN 1
    have hL0 : Lv B ((w.alloc (.cells cs.toArray 42)).drewN 1) g v n xs := (hL.alloc _).drewN 1
    have q0 : TmR B ((w.alloc (.cells cs.toArray 42)).drewN 1) cs0 t0 := r0.keep (Nat.le_refl _) (fun p hp => World.cell?_alloc_lt w _ p (by have := hL.base; omega))
    have q1 : TmR B ((w.alloc (.cells cs.toArray 42)).drewN 1) cs1 t1 := r1.keep (Nat.le_refl _) (fun p hp => World.cell?_alloc_lt w _ p (by have := hL.base; omega))
    refine Calls.mono (R := LvEnd B ((w.alloc (.cells cs.toArray 42)).drewN 1) g v (n + (t0.size + t1.size)) (xs ++ Sp.acccs (Sp.T.two par t0 t1).leaves)) ?_ (fun e w' h => lv_back hk0 h)
    generalize ((w.alloc (.cells cs.toArray 42)).drewN 1) = w0 at hL0 q0 q1 ⊢
    clear hk0 hT hL r0 r1
    obtain ⟨a0, a1, a2, a3, A4, a5, a6, rfl, -, -⟩ := q0.form
    obtain ⟨b0, b1, b2, b3, B4, b5, b6, rfl, -, -⟩ := q1.form
    unfold tcells at q0 q1 ⊢
    have hbox0 := Blk.new w0 42 [.int .i64 a0, .int .i64 a1, .bool a2, .int .i64 a3, .slice A4 a5 a6]
    have hbox1 := Blk.new (w0.alloc (.cells #[.int .i64 a0, .int .i64 a1, .bool a2, .int .i64 a3, .slice A4 a5 a6] 42)) 42 [.int .i64 b0, .int .i64 b1, .bool b2, .int .i64 b3, .slice B4 b5 b6]
    have hL2 := (hL0.alloc (.cells #[.int .i64 a0, .int .i64 a1, .bool a2, .int .i64 a3, .slice A4 a5 a6] 42)).alloc (.cells #[.int .i64 b0, .int .i64 b1, .bool b2, .int .i64 b3, .slice B4 b5 b6] 42)
    have hB1 : B ≤ (w0.alloc (.cells #[.int .i64 a0, .int .i64 a1, .bool a2, .int .i64 a3, .slice A4 a5 a6] 42)).heap.size := by have := hL0.base; simp; omega
    have s0 := (q0.alloc hL0.base (.cells #[.int .i64 a0, .int .i64 a1, .bool a2, .int .i64 a3, .slice A4 a5 a6] 42)).alloc hB1 (.cells #[.int .i64 b0, .int .i64 b1, .bool b2, .int .i64 b3, .slice B4 b5 b6] 42)
    have s1 := (q1.alloc hL0.base (.cells #[.int .i64 a0, .int .i64 a1, .bool a2, .int .i64 a3, .slice A4 a5 a6] 42)).alloc hB1 (.cells #[.int .i64 b0, .int .i64 b1, .bool b2, .int .i64 b3, .slice B4 b5 b6] 42)
    have hg1 := hL0.blk.lt
    have hv1 : ∀ i, v.ownBlock = some i → i < w0.heap.size := fun i hi => (hL0.row.lt i hi).2
    have hv2 : ∀ i, v.ownBlock = some i → B ≤ i := own_ge hL0.row
    have hk2 : Keeps (fun _ => False) w0 ((w0.alloc (.cells #[.int .i64 a0, .int .i64 a1, .bool a2, .int .i64 a3, .slice A4 a5 a6] 42)).alloc (.cells #[.int .i64 b0, .int .i64 b1, .bool b2, .int .i64 b3, .slice B4 b5 b6] 42)) := (keeps_alloc _ _).alloc _
    have hsz : ((w0.alloc (.cells #[.int .i64 a0, .int .i64 a1, .bool a2, .int .i64 a3, .slice A4 a5 a6] 42)).alloc (.cells #[.int .i64 b0, .int .i64 b1, .bool b2, .int .i64 b3, .slice B4 b5 b6] 42)).heap.size = w0.heap.size + 1 + 1 := by simp
    have hq1 : (w0.alloc (.cells #[.int .i64 a0, .int .i64 a1, .bool a2, .int .i64 a3, .slice A4 a5 a6] 42)).heap.size = w0.heap.size + 1 := by simp
    rw [hq1] at hbox1
    clear hbox0 hq1 hL0 q0 q1 hB1
    go_enter Tryd.func102, Tryd.ntmps102
    go_wp2_with fail
    refine (ih0 B _ g v n xs _ s0 hL2 (by omega)).mono ?_
    rintro e w1 ⟨rfl, v1, L1, k1, o1⟩
    rw [hsz] at o1
    have hbox := hbox1.keeps k1 (fun h => h.elim (fun e => by omega) (fun e => by have := hv1 _ e; omega))
    have hbel := k1.below (B := B) hL2.base (fun i hi => hi.elim (fun e => by rw [e]; exact hL2.at_) (hv2 i))
    have s1' := s1.later hbel
    have d0 := hbox.cell 0
    have d1 := hbox.cell 1
    have d2 := hbox.cell 2
    have d3 := hbox.cell 3
    have d4 := hbox.cell 4
    simp only [List.getElem?_cons_zero, List.getElem?_cons_succ] at d0 d1 d2 d3 d4
    have kk := hk2.mono (S' := fun k => k = g ∨ v.ownBlock = some k) (fun _ h => h.elim) |>.trans k1
    clear hbox hbox1 s0 s1 hL2 k1 hk2 hbel hsz
    go_wp2_with fail
    refine (ih1 B _ g v1 (n + t0.size) _ _ s1' L1 (by omega)).mono ?_
    rintro e w2 ⟨rfl, v2, L2, k2, o2⟩
    have hw01 := kk.size
    have kf := kk.step k2 (fun i hi h => h.elim .inl (fun e => (o1 i e).elim .inr (fun h => by omega)))
    have e1 : n + (t0.size + t1.size) = n + t0.size + t1.size := by omega
    have e2 : xs ++ Sp.acccs (Sp.T.two par t0 t1).leaves = xs ++ Sp.acccs t0.leaves ++ Sp.acccs t1.leaves := by simp [Sp.T.leaves, Sp.acccs]
    have E1 := Lib.hid e1
    have E2 := Lib.hid e2
    clear e1 e2 d0 d1 d2 d3 d4 s1' L1
    go_wp2
    go_end0
    exact ⟨rfl, v2, by rw [E1.out, E2.out]; exact L2, kf, fun i hi => (o2 i hi).elim (fun h => (o1 i h).imp id (fun h => by omega)) (fun h => .inr (by omega))⟩

theorem leaves_any (w : World) (cs : List Value) (t : Sp.T) (hT : TmR w.heap.size w cs t) (hn : t.size ≤ 4194304) :
    Calls Tryd.prog 41 #[.agg cs.toArray] w fun e w' => ∃ v, e = .returned v ∧ SlV w' 3 v t.size (Sp.acccs t.leaves) ∧ Below w.heap.size w w' := by
  obtain ⟨a0, a1, a2, a3, A4, a5, a6, rfl, -, -⟩ := hT.form
  unfold tcells at hT ⊢
  have s1 := (hT.alloc (Nat.le_refl _) (.cells #[.int .i64 a0, .int .i64 a1, .bool a2, .int .i64 a3, .slice A4 a5 a6] 42)).alloc (by simp) (.cells #[.slice none 0 0] 110)
  have hb2 : Below w.heap.size w ((w.alloc (.cells #[.int .i64 a0, .int .i64 a1, .bool a2, .int .i64 a3, .slice A4 a5 a6] 42)).alloc (.cells #[.slice none 0 0] 110)) := below_alloc (below_alloc (Below.refl _ _) _) _
  have hL : Lv w.heap.size ((w.alloc (.cells #[.int .i64 a0, .int .i64 a1, .bool a2, .int .i64 a3, .slice A4 a5 a6] 42)).alloc (.cells #[.slice none 0 0] 110)) (w.heap.size + 1) (.slice none 0 0) 0 [] := by
    refine ⟨?_, World.ownsRow_nil _ _ _ _, by simp; omega, by omega, by simp [Value.ownBlock]⟩
    have := Blk.new (w.alloc (.cells #[.int .i64 a0, .int .i64 a1, .bool a2, .int .i64 a3, .slice A4 a5 a6] 42)) 110 [.slice none 0 0]
    simpa using this
  clear hT
  go_enter Tryd.func41, Tryd.ntmps41
  go_wp2_with fail
  refine (tell_leaves t w.heap.size _ _ _ 0 [] _ s1 hL (by omega)).mono ?_
  rintro e w1 ⟨rfl, v1, L1, k1, -⟩
  have c0 := L1.blk.cell 0
  simp only [List.getElem?_cons_zero] at c0
  have hb : Below w.heap.size w w1 := hb2.trans (k1.below hL.base (fun i hi => hi.elim (fun e => by omega) (fun e => by simp [Value.ownBlock] at e)))
  have hs := SlV.of_own L1.row
  rw [Nat.zero_add, List.nil_append] at hs
  obtain ⟨A9, c9, rfl, h1, h2, h3, h4⟩ := hs
  have H3 := Lib.hid h3
  clear h3 s1 hL L1 k1 hb2
  go_wp2
  go_ret
  exact ⟨_, rfl, ⟨A9, c9, rfl, h1, h2, H3.out, h4⟩, hb⟩
end Go.Proofs.YtpimcghmpbbckaaDoor


namespace Go.Proofs.YtpimcghmpbbckaaDoor
set_option linter.unusedVariables false
set_option linter.unusedSimpArgs false
set_option maxRecDepth 100000
open Go.RowKit

namespace Sp
def prc (p : Nat × Nat) : List Value := [.int .i64 p.1, .int .i64 p.2]
def prcs (l : List (Nat × Nat)) : List Value := l.flatMap prc
theorem prcs_length (l : List (Nat × Nat)) : (prcs l).length = l.length * 2 := flat_length prc 2 (fun _ => rfl) l
theorem prcs_append (a b : List (Nat × Nat)) : prcs (a ++ b) = prcs a ++ prcs b := by simp [prcs]
theorem prc_one (a : Nat × Nat) : ∀ u ∈ prc a, u.oneCell' = true := by
  intro u hu
  simp only [prc, List.mem_cons, List.not_mem_nil, or_false] at hu
  rcases hu with rfl | rfl <;> rfl
theorem prcs_zero (n : Nat) : prcs (List.replicate n (0, 0)) = List.replicate (n * 2) (.int .i64 0) := by
  induction n with
  | zero => rfl
  | succ n ih => rw [List.replicate_succ, Nat.succ_mul, Nat.add_comm (n * 2) 2]; show prc (0, 0) ++ prcs (List.replicate n (0, 0)) = _; rw [ih, ← List.replicate_append_replicate]; rfl
theorem prcs_take (l : List (Nat × Nat)) : ∀ i, (prcs l).take (i * 2) = prcs (l.take i) := by
  induction l with
  | nil => intro i; simp [prcs]
  | cons x l ih =>
    intro i
    cases i with
    | zero => simp [prcs]
    | succ i => rw [Nat.succ_mul]; show (_ :: _ :: prcs l).take (i * 2 + 2) = _ :: _ :: prcs (l.take i); rw [← ih]; rfl
theorem prcs_drop (l : List (Nat × Nat)) : ∀ i, (prcs l).drop (i * 2) = prcs (l.drop i) := by
  induction l with
  | nil => intro i; simp [prcs]
  | cons x l ih =>
    intro i
    cases i with
    | zero => simp [prcs]
    | succ i => rw [Nat.succ_mul]; show (_ :: _ :: prcs l).drop (i * 2 + 2) = prcs (l.drop i); rw [← ih]; rfl
theorem prcs_put (l : List (Nat × Nat)) (i : Nat) (p : Nat × Nat) : (prcs l).take (i * 2) ++ prc p ++ (prcs l).drop (i * 2 + 2) = prcs (put l i [p]) := by
  have e : i * 2 + 2 = (i + 1) * 2 := by omega
  rw [e, prcs_take, prcs_drop]
  simp [put, prcs]
theorem prcs_get (l : List (Nat × Nat)) (i : Nat) (p : Nat × Nat) (h : l[i]? = some p) : (prcs l)[i * 2]? = some (.int .i64 p.1) ∧ (prcs l)[i * 2 + 1]? = some (.int .i64 p.2) := by
  have h1 := prcs_drop l i
  obtain ⟨hi, rfl⟩ := List.getElem?_eq_some_iff.1 h
  rw [List.drop_eq_getElem_cons hi] at h1
  have h2 : prcs (l[i] :: l.drop (i + 1)) = .int .i64 l[i].1 :: .int .i64 l[i].2 :: prcs (l.drop (i + 1)) := rfl
  rw [h2] at h1
  constructor
  · have := congrArg (fun x => x[0]?) h1
    simpa using this
  · have := congrArg (fun x => x[1]?) h1
    simpa using this
end Sp

/-- what numbers leaves, in block g; its pairs in block h -/
structure Mk (B : Nat) (w : World) (g h : Nat) (ps : List (Nat × Nat)) (next base : Nat) : Prop where
  blk : Blk w g 113 [.int .i64 next, .slice (some ⟨h, 0, none⟩) ps.length ps.length, .int .i64 base]
  row : Blk w h 78 (Sp.prcs ps)
  base : B ≤ w.heap.size
  atg : B ≤ g
  ath : B ≤ h
  ne : g ≠ h

def MkEnd (B : Nat) (w : World) (g h : Nat) (ps : List (Nat × Nat)) (next : Nat) : Ending → World → Prop := fun e w' =>
  e = .returned (.tuple #[]) ∧ ∃ base, Mk B w' g h ps next base ∧ Keeps (fun k => k = g ∨ k = h) w w'

theorem Mk.alloc {B : Nat} {w : World} {g h : Nat} {ps : List (Nat × Nat)} {next base : Nat} (m : Mk B w g h ps next base) (o : Obj) : Mk B (w.alloc o) g h ps next base := ⟨m.blk.alloc _, m.row.alloc _, by have := m.base; simp; omega, m.atg, m.ath, m.ne⟩
theorem Mk.drewN {B : Nat} {w : World} {g h : Nat} {ps : List (Nat × Nat)} {next base : Nat} (m : Mk B w g h ps next base) (k : Nat) : Mk B (w.drewN k) g h ps next base := ⟨m.blk, m.row, m.base, m.atg, m.ath, m.ne⟩
theorem Mk.below {B : Nat} {w w' : World} {g h : Nat} {ps : List (Nat × Nat)} {next base : Nat} (m : Mk B w g h ps next base) (hb : Below w.heap.size w w') : Mk B w' g h ps next base := ⟨m.blk.below hb, m.row.below hb, by have := m.base; have := hb.size; omega, m.atg, m.ath, m.ne⟩
theorem mk_back {B : Nat} {w w0 : World} {g h : Nat} {ps : List (Nat × Nat)} {next : Nat} (hk : Keeps (fun _ => False) w w0) {e : Ending} {w' : World} (he : MkEnd B w0 g h ps next e w') : MkEnd B w g h ps next e w' := by
  obtain ⟨h1, b', h2, h3⟩ := he
  exact ⟨h1, b', h2, (hk.mono (fun _ h => h.elim)).trans h3⟩

theorem mk_nothing (B : Nat) (w : World) (g h : Nat) (ps : List (Nat × Nat)) (next base : Nat) (m : Mk B w g h ps next base) :
    Calls Tryd.prog 103 #[.pointer (some ⟨g, 0, none⟩)] w (MkEnd B w g h ps next) := by
  go_enter Tryd.func103, Tryd.ntmps103
  go_wp2
  go_end0
  exact ⟨rfl, base, m, Keeps.refl _ _⟩

theorem mk_one (B : Nat) (w : World) (g h : Nat) (ps : List (Nat × Nat)) (next base : Nat) (m : Mk B w g h ps next base) (a : Sp.Acc) (hb : base < ps.length) (hn : next ≤ 4194304) (hl : ps.length ≤ 4194304) :
    Calls Tryd.prog 104 #[.pointer (some ⟨g, 0, none⟩), .agg #[.int .i64 a.1, .bool a.2.1, .int .i64 a.2.2]] w (MkEnd B w g h (Sp.put ps base [(base, next)]) (next + 1)) := by
  obtain ⟨a1, a2, a3⟩ := a
  simp only
  have hgh := m.ne
  have hk0 : Keeps (fun k => k = g ∨ k = h) w (w.alloc (.cells (Sp.accc (a1, a2, a3)).toArray 39)) := (Keeps.refl _ w).alloc _
  have m1 := m.alloc (.cells (Sp.accc (a1, a2, a3)).toArray 39)
  have hlen := Sp.prcs_length ps
  have hps : (Sp.put ps base [(base, next)]).length = ps.length := Sp.put_length _ _ _ (by simp; omega)
  go_enter Tryd.func104, Tryd.ntmps104
  go_wp2_with fail
  show Code.wp _ _ _ _ (w.alloc (.cells (Sp.accc (a1, a2, a3)).toArray 39))
  generalize (w.alloc (.cells (Sp.accc (a1, a2, a3)).toArray 39)) = w0 at m1 hk0 ⊢
  clear m
  have c0 := m1.blk.cell 0
  have c1 := m1.blk.cell 1
  have c2 := m1.blk.cell 2
  simp only [List.getElem?_cons_zero, List.getElem?_cons_succ] at c0 c1 c2
  obtain ⟨n, hnn⟩ : ∃ n, n = ps.length := ⟨_, rfl⟩
  have HP := Lib.hid hps
  have HN := Lib.hid hnn
  have HL := Lib.hid hlen
  rw [← hnn] at c1 hb hl
  clear hps hnn hlen
  have hb2 : (base : Int) < (n : Int) := by omega
  have hw : IntKind.i64.wrap ((next : Int) + 1) = ((next + 1 : Nat) : Int) := by rw [IntWalk.i64_in _ (by omega)]; omega
  (refine still_last (by kernel_rfl) (by kernel_rfl) ?_; simp only [List.length_cons, List.length_nil, Nat.reduceAdd, Nat.reduceSub, List.take_succ_cons, List.take_zero, List.drop_succ_cons, List.drop_zero]; repeat still_step; try refine wpStill_nil ?_)
  refine wpl_store_blk (w := w0.drewN 1) m1.row 78 (base * 2) 2 (Sp.prc (base, next)) (by kernel_rfl) rfl (by rw [HL.out, ← HN.out]; omega) (Sp.prc_one _) rfl rfl rfl rfl ?_
  intro w2 hB2 hg2
  rw [Sp.prcs_put] at hB2
  have hb3 := m1.blk.grown (w := w0.drewN 1) hg2 (fun e => hgh (by injection e))
  have d0 := hb3.cell 0
  simp only [List.getElem?_cons_zero, List.getElem?_cons_succ] at d0
  have hk2 : Keeps (fun k => k = g ∨ k = h) w0 w2 := ((Keeps.of_grown hg2).undrewN).mono (fun i hi => .inr (by injection hi))
  clear c0 c1 c2
  go_wp2_with (refine wpl_set_blk hb3 0 (.int .i64 ((next + 1 : Nat) : Int)) (by kernel_rfl) (by simp) rfl rfl rfl rfl rfl rfl ?_; intro w3 hB3 hg3)
  have hk3 : Keeps (fun k => k = g ∨ k = h) w2 w3 := (Keeps.of_grown hg3).mono (fun i hi => .inl (by injection hi))
  have hfin : Mk B w3 g h (Sp.put ps base [(base, next)]) (next + 1) base := ⟨by rw [HP.out]; simpa using hB3, hB2.grown hg3 (fun e => hgh (by injection e with e; exact e.symm)), by have := m1.base; have := hk2.size; have := hk3.size; omega, m1.atg, m1.ath, hgh⟩
  have hkf := (hk0.trans hk2).trans hk3
  clear hB2 hg2 hb3 d0 hB3 hg3 m1 hk0 hk2 hk3
  go_wp2
  go_end0
  exact ⟨rfl, base, hfin, hkf⟩

theorem Mk.setbase {B : Nat} {w w' : World} {g h : Nat} {ps : List (Nat × Nat)} {next base base2 : Nat} (m : Mk B w g h ps next base) (hB : Blk w' g 113 ([.int .i64 next, .slice (some ⟨h, 0, none⟩) ps.length ps.length, .int .i64 base].set 2 (.int .i64 base2))) (hg : w.grownBy w' (some g)) :
    Mk B w' g h ps next base2 ∧ Keeps (fun k => k = g ∨ k = h) w w' := by
  have hk : Keeps (fun k => k = g ∨ k = h) w w' := (Keeps.of_grown hg).mono (fun i hi => .inl (by injection hi))
  exact ⟨⟨by simpa using hB, m.row.grown hg (fun e => m.ne (by injection e with e; exact e.symm)), by have := m.base; have := hk.size; omega, m.atg, m.ath, m.ne⟩, hk⟩

theorem meth_mk (g fuel : Nat) (w : World) : (method (fuel + 1) 114 (.pointer (some ⟨g, 0, none⟩)) "forkwright/sp.nothing").run Tryd.prog w = .ok (103, .pointer (some ⟨g, 0, none⟩)) w ∧
    (method (fuel + 1) 114 (.pointer (some ⟨g, 0, none⟩)) "forkwright/sp.one").run Tryd.prog w = .ok (104, .pointer (some ⟨g, 0, none⟩)) w ∧
    (method (fuel + 1) 114 (.pointer (some ⟨g, 0, none⟩)) "forkwright/sp.two").run Tryd.prog w = .ok (105, .pointer (some ⟨g, 0, none⟩)) w ∧
    (nilAhead (fuel + 1) 114 (.pointer (some ⟨g, 0, none⟩)) "forkwright/sp.two").run Tryd.prog w = .ok (some false) w :=
  ⟨by kernel_rfl, by kernel_rfl, by kernel_rfl, by kernel_rfl⟩

def MarkTell (t : Sp.T) : Prop := ∀ (B : Nat) (w : World) (g h : Nat) (ps : List (Nat × Nat)) (next base : Nat) (cs : List Value), TmR B w cs t → Mk B w g h ps next base → base + t.size ≤ ps.length → next + t.size ≤ 4194304 → ps.length ≤ 4194304 →
    Calls Tryd.prog 45 #[.agg cs.toArray, .iface 114 (.pointer (some ⟨g, 0, none⟩))] w (MkEnd B w g h (Sp.put ps base (t.marks base next)) (next + t.size))

set_option maxHeartbeats 2000000 in
theorem mk_two (par : Bool) (t0 t1 : Sp.T) (ih0 : MarkTell t0) (ih1 : MarkTell t1) (B : Nat) (w0 : World) (g h : Nat) (ps : List (Nat × Nat)) (next base : Nat) (cs0 cs1 : List Value) (q0 : TmR B w0 cs0 t0) (q1 : TmR B w0 cs1 t1) (hM : Mk B w0 g h ps next base)
    (hb : base + (t0.size + t1.size) ≤ ps.length) (hn : next + (t0.size + t1.size) ≤ 4194304) (hl : ps.length ≤ 4194304) :
    Calls Tryd.prog 105 #[.pointer (some ⟨g, 0, none⟩), .bool par, .agg cs0.toArray, .agg cs1.toArray] w0 (MkEnd B w0 g h (Sp.put ps base ((Sp.T.two par t0 t1).marks base next)) (next + (t0.size + t1.size))) := by
  obtain ⟨a0, a1, a2, a3, A4, a5, a6, rfl, -, -⟩ := q0.form
  obtain ⟨b0, b1, b2, b3, B4, b5, b6, rfl, -, -⟩ := q1.form
  unfold tcells at q0 q1 ⊢
  have hbox0 := (Blk.new w0 42 [.int .i64 a0, .int .i64 a1, .bool a2, .int .i64 a3, .slice A4 a5 a6]).alloc (.cells #[.int .i64 b0, .int .i64 b1, .bool b2, .int .i64 b3, .slice B4 b5 b6] 42)
  have hbox1 := Blk.new (w0.alloc (.cells #[.int .i64 a0, .int .i64 a1, .bool a2, .int .i64 a3, .slice A4 a5 a6] 42)) 42 [.int .i64 b0, .int .i64 b1, .bool b2, .int .i64 b3, .slice B4 b5 b6]
  have hM2 := (hM.alloc (.cells #[.int .i64 a0, .int .i64 a1, .bool a2, .int .i64 a3, .slice A4 a5 a6] 42)).alloc (.cells #[.int .i64 b0, .int .i64 b1, .bool b2, .int .i64 b3, .slice B4 b5 b6] 42)
  have hB1 : B ≤ (w0.alloc (.cells #[.int .i64 a0, .int .i64 a1, .bool a2, .int .i64 a3, .slice A4 a5 a6] 42)).heap.size := by have := hM.base; simp; omega
  have s0 := (q0.alloc hM.base (.cells #[.int .i64 a0, .int .i64 a1, .bool a2, .int .i64 a3, .slice A4 a5 a6] 42)).alloc hB1 (.cells #[.int .i64 b0, .int .i64 b1, .bool b2, .int .i64 b3, .slice B4 b5 b6] 42)
  have s1 := (q1.alloc hM.base (.cells #[.int .i64 a0, .int .i64 a1, .bool a2, .int .i64 a3, .slice A4 a5 a6] 42)).alloc hB1 (.cells #[.int .i64 b0, .int .i64 b1, .bool b2, .int .i64 b3, .slice B4 b5 b6] 42)
  have hg1 := hM.blk.lt
  have hh1 := hM.row.lt
  have hk2 : Keeps (fun k => k = g ∨ k = h) w0 ((w0.alloc (.cells #[.int .i64 a0, .int .i64 a1, .bool a2, .int .i64 a3, .slice A4 a5 a6] 42)).alloc (.cells #[.int .i64 b0, .int .i64 b1, .bool b2, .int .i64 b3, .slice B4 b5 b6] 42)) := ((Keeps.refl _ w0).alloc _).alloc _
  have hq1 : (w0.alloc (.cells #[.int .i64 a0, .int .i64 a1, .bool a2, .int .i64 a3, .slice A4 a5 a6] 42)).heap.size = w0.heap.size + 1 := by simp
  rw [hq1] at hbox1
  clear hq1 q0 q1 hB1 hM
  go_enter Tryd.func105, Tryd.ntmps105
  go_wp2_with fail
  try rw [show (w0.alloc (.cells #[.int .i64 a0, .int .i64 a1, .bool a2, .int .i64 a3, .slice A4 a5 a6] 42)).heap.size = w0.heap.size + 1 from by simp]
  generalize ((w0.alloc (.cells #[.int .i64 a0, .int .i64 a1, .bool a2, .int .i64 a3, .slice A4 a5 a6] 42)).alloc (.cells #[.int .i64 b0, .int .i64 b1, .bool b2, .int .i64 b3, .slice B4 b5 b6] 42)) = w2 at hbox0 hbox1 hM2 s0 s1 hk2 ⊢
  obtain ⟨q, hq⟩ : ∃ q, q = w0.heap.size := ⟨_, rfl⟩
  rw [← hq] at hbox0 hbox1 hg1 hh1 ⊢
  have look : ∀ w', Keeps (fun k => k = g ∨ k = h) w2 w' → (w'.cell? ⟨q, 0, none⟩ = some (.int .i64 a0) ∧ w'.cell? ⟨q, 1, none⟩ = some (.int .i64 a1) ∧ w'.cell? ⟨q, 2, none⟩ = some (.bool a2) ∧ w'.cell? ⟨q, 3, none⟩ = some (.int .i64 a3) ∧ w'.cell? ⟨q, 4, none⟩ = some (.slice A4 a5 a6)) ∧
      (w'.cell? ⟨q + 1, 0, none⟩ = some (.int .i64 b0) ∧ w'.cell? ⟨q + 1, 1, none⟩ = some (.int .i64 b1) ∧ w'.cell? ⟨q + 1, 2, none⟩ = some (.bool b2) ∧ w'.cell? ⟨q + 1, 3, none⟩ = some (.int .i64 b3) ∧ w'.cell? ⟨q + 1, 4, none⟩ = some (.slice B4 b5 b6)) ∧
      TmR B w' [.int .i64 a0, .int .i64 a1, .bool a2, .int .i64 a3, .slice A4 a5 a6] t0 ∧ TmR B w' [.int .i64 b0, .int .i64 b1, .bool b2, .int .i64 b3, .slice B4 b5 b6] t1 := fun w' hk => by
    have x0 := hbox0.keeps hk (fun e => by omega)
    have x1 := hbox1.keeps hk (fun e => by omega)
    have hbl := hk.below (B := B) hM2.base (fun i hi => hi.elim (fun e => e ▸ hM2.atg) (fun e => e ▸ hM2.ath))
    exact ⟨⟨by rw [x0.cell]; rfl, by rw [x0.cell]; rfl, by rw [x0.cell]; rfl, by rw [x0.cell]; rfl, by rw [x0.cell]; rfl⟩, ⟨by rw [x1.cell]; rfl, by rw [x1.cell]; rfl, by rw [x1.cell]; rfl, by rw [x1.cell]; rfl, by rw [x1.cell]; rfl⟩, s0.later hbl, s1.later hbl⟩
  have keepS : ∀ w', Below w2.heap.size w2 w' → (Below w2.heap.size w2 w' ∧ w'.cell? ⟨g, 2, none⟩ = some (.int .i64 base) ∧ w'.cell? ⟨q, 0, none⟩ = some (.int .i64 a0) ∧ w'.cell? ⟨q, 1, none⟩ = some (.int .i64 a1) ∧ w'.cell? ⟨q, 2, none⟩ = some (.bool a2) ∧ w'.cell? ⟨q, 3, none⟩ = some (.int .i64 a3) ∧ w'.cell? ⟨q, 4, none⟩ = some (.slice A4 a5 a6)) := fun w' hb =>
    ⟨hb, by rw [(hM2.blk.below hb).cell]; rfl, (look w' (Keeps.of_below hb _)).1⟩
  have hlv : ∀ w', (Below w2.heap.size w2 w' ∧ w'.cell? ⟨g, 2, none⟩ = some (.int .i64 base) ∧ w'.cell? ⟨q, 0, none⟩ = some (.int .i64 a0) ∧ w'.cell? ⟨q, 1, none⟩ = some (.int .i64 a1) ∧ w'.cell? ⟨q, 2, none⟩ = some (.bool a2) ∧ w'.cell? ⟨q, 3, none⟩ = some (.int .i64 a3) ∧ w'.cell? ⟨q, 4, none⟩ = some (.slice A4 a5 a6)) →
      Calls Tryd.prog 41 #[.agg #[.int .i64 a0, .int .i64 a1, .bool a2, .int .i64 a3, .slice A4 a5 a6]] w' fun e w'' => ∃ A c, e = .returned (.slice A t0.size c) ∧ (t0.size ≤ c ∧ c ≤ 9223372036854775807) ∧ Below w2.heap.size w2 w'' ∧ Below w'.heap.size w' w'' := fun w' hS =>
    (leaves_any w' _ t0 ((look w' (Keeps.of_below hS.1 _)).2.2.1.keep (by have := hS.1.size; have := hM2.base; omega) (fun _ _ => rfl)) (by omega)).mono fun e w'' hh => by
      obtain ⟨v, rfl, ⟨A, c, rfl, h1, h2, -, -⟩, h3⟩ := hh
      exact ⟨A, c, rfl, ⟨h1, h2⟩, below_next h3 hS.1, h3⟩
  have hlen0 : ∀ a j, (t0.marks a j).length = t0.size := t0.marks_length
  have hlen1 : ∀ a j, (t1.marks a j).length = t1.size := t1.marks_length
  have hE0 := fun w g h ps next base => ih0 B w g h ps next base [.int .i64 a0, .int .i64 a1, .bool a2, .int .i64 a3, .slice A4 a5 a6]
  have hE1 := fun w g h ps next base => ih1 B w g h ps next base [.int .i64 b0, .int .i64 b1, .bool b2, .int .i64 b3, .slice B4 b5 b6]
  clear hbox0 hbox1 s0 s1 hq ih0 ih1
  go_region_held3 (fun w' => (Below w2.heap.size w2 w' ∧ w'.cell? ⟨g, 2, none⟩ = some (.int .i64 base) ∧ w'.cell? ⟨q, 0, none⟩ = some (.int .i64 a0) ∧ w'.cell? ⟨q, 1, none⟩ = some (.int .i64 a1) ∧ w'.cell? ⟨q, 2, none⟩ = some (.bool a2) ∧ w'.cell? ⟨q, 3, none⟩ = some (.int .i64 a3) ∧ w'.cell? ⟨q, 4, none⟩ = some (.slice A4 a5 a6)))
    ((refine keepS _ ?_; repeat (first | exact Below.refl _ _ | assumption | apply below_alloc | apply below_drew | exact (And.left (by assumption)) | (apply below_next; assumption))))
    ((go_at_call 41; refine (hlv _ (by assumption)).mono ?_; rintro e w6 ⟨A6, c6, rfl, ⟨hle6, hm6⟩, hb5, hb6⟩))
  rename_i hHeld
  have k6 : Keeps (fun k => k = g ∨ k = h) w2 w6 := Keeps.of_below hb5 _
  have m6 := hM2.below hb5
  clear hHeld hb5 hb6 keepS hlv hM2
  have hw : IntKind.i64.wrap ((base : Int) + (t0.size : Int)) = ((base + t0.size : Nat) : Int) := by rw [IntWalk.i64_in _ (by omega)]; omega
  rcases par with _ | _
  · obtain ⟨⟨x0, x1, x2, x3, x4⟩, -, r0, -⟩ := look w6 k6
    go_wp2_with fail
    refine (hE0 w6 g h ps next base r0 m6 (by omega) (by omega) hl).mono ?_
    rintro e w7 ⟨rfl, bs7, m7, k7⟩
    have kk7 := k6.trans k7
    clear x0 x1 x2 x3 x4 r0
    go_wp2_with (refine wpl_set_blk m7.blk 2 (.int .i64 ((base + t0.size : Nat) : Int)) (by kernel_rfl) (by simp) rfl rfl rfl rfl rfl rfl ?_; intro w8 hB8 hg8; obtain ⟨m8, k8⟩ := m7.setbase hB8 hg8; have kk8 := kk7.trans k8; obtain ⟨-, ⟨x0, x1, x2, x3, x4⟩, -, r1⟩ := look w8 kk8; clear hB8 hg8)
    have hpl : (Sp.put ps base (t0.marks base next)).length = ps.length := Sp.put_length _ _ _ (by rw [hlen0]; omega)
    have hput := Sp.put_put ps (t0.marks base next) (t1.marks (base + t0.size) (next + t0.size)) base (by rw [hlen0, hlen1]; omega)
    rw [hlen0] at hput
    have hcall := hE1 w8 g h _ (next + t0.size) (base + t0.size) r1 m8 (by rw [hpl]; omega) (by omega) (by rw [hpl]; exact hl)
    rw [hput] at hcall
    clear hput hpl hE0 hE1 look m8 m7 m6
    refine hcall.mono ?_
    rintro e w9 ⟨rfl, bs9, m9, k9⟩
    clear hcall
    go_wp2
    go_end0
    exact ⟨rfl, bs9, by rw [← Nat.add_assoc]; exact m9, hk2.trans (kk8.trans k9)⟩
  · go_wp2_with (refine wpl_set_blk m6.blk 2 (.int .i64 ((base + t0.size : Nat) : Int)) (by kernel_rfl) (by simp) rfl rfl rfl rfl rfl rfl ?_; intro w7 hB7 hg7; obtain ⟨m7, k7⟩ := m6.setbase hB7 hg7; have kk7 := k6.trans k7; obtain ⟨-, ⟨x0, x1, x2, x3, x4⟩, -, r1⟩ := look w7 kk7; clear hB7 hg7)
    refine (hE1 w7 g h ps next (base + t0.size) r1 m7 (by omega) (by omega) hl).mono ?_
    rintro e w8 ⟨rfl, bs8, m8, k8⟩
    have kk8 := kk7.trans k8
    clear x0 x1 x2 x3 x4 r1
    go_wp2_with (refine wpl_set_blk m8.blk 2 (.int .i64 (base : Int)) (by kernel_rfl) (by simp) rfl rfl rfl rfl rfl rfl ?_; intro w9 hB9 hg9; obtain ⟨m9, k9⟩ := m8.setbase hB9 hg9; have kk9 := kk8.trans k9; obtain ⟨⟨x0, x1, x2, x3, x4⟩, -, r0, -⟩ := look w9 kk9; clear hB9 hg9)
    have hpl : (Sp.put ps (base + t0.size) (t1.marks (base + t0.size) next)).length = ps.length := Sp.put_length _ _ _ (by rw [hlen1]; omega)
    have hput := Sp.put_back ps (t0.marks base (next + t1.size)) (t1.marks (base + t0.size) next) base (by rw [hlen0, hlen1]; omega)
    rw [hlen0] at hput
    have hcall := hE0 w9 g h _ (next + t1.size) base r0 m9 (by rw [hpl]; omega) (by omega) (by rw [hpl]; exact hl)
    rw [hput] at hcall
    clear hput hpl hE0 hE1 look m9 m8 m7 m6
    refine hcall.mono ?_
    rintro e w10 ⟨rfl, bs10, m10, k10⟩
    clear hcall
    go_wp2
    go_end0
    exact ⟨rfl, bs10, by rw [show next + (t0.size + t1.size) = next + t1.size + t0.size from by omega]; exact m10, hk2.trans (kk9.trans k10)⟩

theorem tell_marks (t : Sp.T) : MarkTell t := by
  induction t with
  | nil =>
    intro B w g h ps next base cs hT hM hb hn hl
    have e : Sp.put ps base (Sp.T.nil.marks base next) = ps := Sp.put_nil _ _
    rw [e]
    refine tell_nil hT (f := 103) (fun k w => (meth_mk g k w).1) (fun _ _ => by rfl) ?_
    exact (mk_nothing B _ g h ps next base (hM.alloc _)).mono fun e w' h => mk_back (keeps_alloc _ _) h
  | one c b l =>
    intro B w g h ps next base cs hT hM hb hn hl
    have hb' : base + 1 ≤ ps.length := hb
    have hn' : next + 1 ≤ 4194304 := hn
    refine tell_one hT (f := 104) (fun k w => (meth_mk g k w).2.1) (fun _ _ => by rfl) ?_
    exact (mk_one B _ g h ps next base (hM.alloc _) (c, b, l) (by omega) (by omega) hl).mono fun e w' h => mk_back (keeps_alloc _ _) h
  | two par t0 t1 ih0 ih1 =>
    intro B w g h ps next base cs hT hM hb hn hl
    rw [Sp.T.size_two] at hn hb ⊢
    refine tell_two hT (f := 105) (fun k w => (meth_mk g k w).2.2.1) (fun k w => (meth_mk g k w).2.2.2) (fun _ _ => by rfl) hM.base ?_
    intro cs0 cs1 r0 r1
    have hk0 : Keeps (fun _ => False) w ((w.alloc (.cells cs.toArray 42)).drewN 1) := (keeps_alloc _ _).drewN 1
    have v0 : TmR B ((w.alloc (.cells cs.toArray 42)).drewN 1) cs0 t0 := r0.keep (Nat.le_refl _) (fun p hp => World.cell?_alloc_lt w _ p (by have := hM.base; omega))
    have v1 : TmR B ((w.alloc (.cells cs.toArray 42)).drewN 1) cs1 t1 := r1.keep (Nat.le_refl _) (fun p hp => World.cell?_alloc_lt w _ p (by have := hM.base; omega))
    have hM1 : Mk B ((w.alloc (.cells cs.toArray 42)).drewN 1) g h ps next base := (hM.alloc _).drewN 1
    exact (mk_two par t0 t1 ih0 ih1 B _ g h ps next base cs0 cs1 v0 v1 hM1 hb hn hl).mono fun e w' h => mk_back hk0 h
end Go.Proofs.YtpimcghmpbbckaaDoor


namespace Go.Proofs.YtpimcghmpbbckaaDoor
set_option linter.unusedVariables false
set_option linter.unusedSimpArgs false
set_option maxRecDepth 100000
open Go.RowKit

theorem made_flat (z : Value) (k n : Nat) (hk : 0 < k) : (madeCells (Array.replicate k z) n).toList = List.replicate n z := by
  apply List.ext_getElem?
  intro j
  by_cases hj : j < n
  · have := Nat.mod_lt j hk
    simp [madeCells, hj, this]
  · simp [madeCells, hj]

/-- 'make([]T, n)', T of some cells that are alike -/
theorem wp_make_flat {P : Program} (w : World) {ops : Array Oper} {rest : List Oper} {o : Oper} {a : Act} {Q : Exit → Act → World → Prop}
    (t e : TypeId) (z zc : Value) (size bytes : Nat) (n : Nat) (ht : P.underlying t = some (.slice e)) (hinfo : (P.info? e).map (fun i => (i.zero, i.size, i.bytes)) = some (some z, size, bytes)) (hz : z.cells = Array.replicate size zc) (hsz : 0 < size)
    {L C : Int} (hL : L = (n : Int)) (hC : C = (n : Int)) (b2 : bytes * n ≤ 281474976710656) (b3 : n ≤ 9223372036854775807)
    {l c : Operand} {kl kc : IntKind} (hg : o.guard = none) (hop : o.op = Op.makeSlice t l c) (hl : a.eval l = .int kl L) (hc : a.eval c = .int kc C)
    (hK : ∀ w', Blk w' w.heap.size e (List.replicate (n * size) zc) → Below w.heap.size w w' → w'.heap.size = w.heap.size + 1 → wpList P ops Q rest (a.put o.dst (.slice (some ⟨w.heap.size, 0, none⟩) n n)) w') :
    wpList P ops Q (o :: rest) a w := by
  obtain ⟨i, hi, hz0, hz1, hz2⟩ := info_parts hinfo
  refine wpList_plain hg fun K hK' => ?_
  subst hL
  subst hC
  have h63' : (n : Int) ≤ 9223372036854775807 := by omega
  have hb' : (i.bytes : Int) * (n : Int) ≤ 281474976710656 := by
    have h : ((i.bytes * n : Nat) : Int) ≤ 281474976710656 := by rw [hz2]; omega
    rwa [Int.natCast_mul] at h
  have hr := run_make (P := P) w t e i z ht hi hz0 kl kc n n (by omega) (Int.le_refl _) hb' h63'
  simp only [Int.toNat_natCast, hz1, hz] at hr
  unfold Oper.wp
  simp [execOp, hop, hl, hc, hr, Result.andThen]
  refine hK' _ _ (hK _ ?_ ((Below.refl _ _).alloc (Nat.le_refl _) _) (by simp))
  have := Blk.new w e (madeCells (Array.replicate size zc) (n * size)).toList
  rw [Array.toArray_toList] at this
  rwa [made_flat zc size _ hsz] at this

theorem info_pair : (Tryd.prog.info? 78).map (fun i => (i.zero, i.size, i.bytes)) = some (some (.agg #[.int .i64 0, .int .i64 0]), 2, 16) := by kernel_rfl

theorem marks_any (w : World) (cs : List Value) (t : Sp.T) (hT : TmR w.heap.size w cs t) (hn : t.size ≤ 4194304) :
    Calls Tryd.prog 44 #[.agg cs.toArray] w fun e w' => ∃ h, e = .returned (.slice (some ⟨h, 0, none⟩) t.size t.size) ∧ Blk w' h 78 (Sp.prcs (t.marks 0 0)) ∧ w.heap.size ≤ h ∧ Below w.heap.size w w' := by
  obtain ⟨a0, a1, a2, a3, A4, a5, a6, rfl, -, -⟩ := hT.form
  have hP := Blk.new w 42 (tcells a0 a1 a2 a3 A4 a5 a6)
  have s1 := hT.alloc (Nat.le_refl _) (.cells (tcells a0 a1 a2 a3 A4 a5 a6).toArray 42)
  have hb0 : Below w.heap.size w (w.alloc (.cells (tcells a0 a1 a2 a3 A4 a5 a6).toArray 42)) := below_alloc (Below.refl _ _) _
  unfold tcells at s1 hP hb0 ⊢
  clear hT
  go_enter Tryd.func44, Tryd.ntmps44
  go_wp2_with fail
  refine (leaves_any _ _ t (s1.keep (by simp) (fun _ _ => rfl)) hn).mono ?_
  rintro e w1 ⟨v, rfl, ⟨A7, c7, rfl, hle7, hm7, -, -⟩, hb1⟩
  have hb1' := below_next hb1 hb0
  have hP1 := hP.below (by simpa using hb1)
  have s2 := s1.later (hb1.mono (by simp))
  unfold maxLen at hm7
  have hsz1 : w.heap.size < w1.heap.size := by have := hb1.size; simp at this; omega
  obtain ⟨q, hq⟩ : ∃ q, q = w.heap.size := ⟨_, rfl⟩
  rw [← hq] at hP1 s2 hsz1 hb1' ⊢
  have HQ := Lib.hid hq
  clear hP s1 hb0 hb1 hq
  go_wp2_with (refine wp_make_flat w1 _ _ _ (.int .i64 0) 2 16 t.size Tryd.underlying76 info_pair rfl (by decide) rfl rfl (by omega) (by omega) rfl rfl rfl rfl ?_; intro w2 hR2 hb2 hsz2; have hP3 := (hP1.below hb2).alloc (.cells #[.int .i64 0, .slice (some ⟨w1.heap.size, 0, none⟩) t.size t.size, .int .i64 0] 113); have c0 := hP3.cell 0; have c1 := hP3.cell 1; have c2 := hP3.cell 2; have c3 := hP3.cell 3; have c4 := hP3.cell 4; simp only [List.getElem?_cons_zero, List.getElem?_cons_succ] at c0 c1 c2 c3 c4)
  have hq1 : q ≤ w1.heap.size := by omega
  have hB := Blk.new w2 113 [.int .i64 0, .slice (some ⟨w1.heap.size, 0, none⟩) t.size t.size, .int .i64 0]
  rw [hsz2] at hB
  have hrep : (List.replicate t.size ((0, 0) : Nat × Nat)).length = t.size := List.length_replicate
  have hM : Mk q (w2.alloc (.cells #[.int .i64 0, .slice (some ⟨w1.heap.size, 0, none⟩) t.size t.size, .int .i64 0] 113)) (w1.heap.size + 1) w1.heap.size (List.replicate t.size (0, 0)) 0 0 :=
    ⟨by rw [hrep]; exact hB, by rw [Sp.prcs_zero]; exact hR2.alloc _, by simp; omega, by omega, hq1, by omega⟩
  have s3 := (s2.later (hb2.mono hq1)).alloc (by omega) (.cells #[.int .i64 0, .slice (some ⟨w1.heap.size, 0, none⟩) t.size t.size, .int .i64 0] 113)
  have hb3 : Below q w (w2.alloc (.cells #[.int .i64 0, .slice (some ⟨w1.heap.size, 0, none⟩) t.size t.size, .int .i64 0] 113)) := (hb1'.trans (hb2.mono hq1)).trans ((Below.refl _ _).alloc (by omega) _)
  refine (tell_marks t q _ (w1.heap.size + 1) w1.heap.size _ 0 0 _ s3 hM (by rw [hrep]; omega) (by omega) (by rw [hrep]; exact hn)).mono ?_
  rintro e w4 ⟨rfl, bs, m4, k4⟩
  have hall := Sp.put_all (List.replicate t.size ((0, 0) : Nat × Nat)) (t.marks 0 0) (by rw [hrep, t.marks_length])
  rw [hall] at m4
  have hb4 : Below q w w4 := hb3.trans (k4.below hM.base (fun i hi => hi.elim (fun e => by omega) (fun e => by omega)))
  have d1 := m4.blk.cell 1
  rw [t.marks_length] at d1
  simp only [List.getElem?_cons_zero, List.getElem?_cons_succ] at d1
  have hrow := m4.row
  clear c0 c1 c2 c3 c4 hP3 hB hM s3 hb3 hall m4 k4 hR2 hb1'
  go_wp2
  go_ret
  rw [HQ.out] at hq1 hb4
  exact ⟨_, rfl, hrow, hq1, hb4⟩

theorem before_any (w : World) (cs : List Value) (t : Sp.T) (i j : Int) (hT : TmR w.heap.size w cs t) (hn : t.size ≤ 4194304) :
    Calls Tryd.prog 42 #[.agg cs.toArray, .int .i64 i, .int .i64 j] w fun e w' => e = .returned (.bool (t.before i j)) ∧ Below w.heap.size w w' := by
  obtain ⟨a0, a1, a2, a3, A4, a5, a6, rfl, -, -⟩ := hT.form
  have s1 := hT.alloc (Nat.le_refl _) (.cells (tcells a0 a1 a2 a3 A4 a5 a6).toArray 42)
  have hb0 : Below w.heap.size w (w.alloc (.cells (tcells a0 a1 a2 a3 A4 a5 a6).toArray 42)) := below_alloc (Below.refl _ _) _
  unfold tcells at s1 hb0 ⊢
  clear hT
  go_enter Tryd.func42, Tryd.ntmps42
  go_wp2_with fail
  refine (marks_any _ _ t (s1.keep (by simp) (fun _ _ => rfl)) hn).mono ?_
  rintro e w1 ⟨h, rfl, hrow, -, hb1⟩
  have hbf := below_next hb1 hb0
  clear s1 hb0 hb1
  by_cases hin : 0 ≤ i ∧ 0 ≤ j ∧ i < t.size ∧ j < t.size
  · obtain ⟨h1, h2, h3, h4⟩ := hin
    obtain ⟨a, rfl⟩ := Int.eq_ofNat_of_zero_le h1
    obtain ⟨b, rfl⟩ := Int.eq_ofNat_of_zero_le h2
    have ha : a < t.size := by omega
    have hb : b < t.size := by omega
    obtain ⟨ra, hra⟩ : ∃ r, r = t.rk a := ⟨_, rfl⟩
    obtain ⟨rb, hrb⟩ : ∃ r, r = t.rk b := ⟨_, rfl⟩
    have ga := Sp.prcs_get _ a _ (t.marks_get 0 0 a ha)
    have gb := Sp.prcs_get _ b _ (t.marks_get 0 0 b hb)
    rw [Nat.zero_add, Nat.zero_add] at ga gb
    rw [← hra] at ga
    rw [← hrb] at gb
    have c0 : w1.cell? ⟨h, a * 2, none⟩ = some (.int .i64 (a : Int)) := (hrow.cell (a * 2)).trans ga.1
    have c1 : w1.cell? ⟨h, a * 2 + 1, none⟩ = some (.int .i64 (ra : Int)) := (hrow.cell (a * 2 + 1)).trans ga.2
    have d0 : w1.cell? ⟨h, b * 2, none⟩ = some (.int .i64 (b : Int)) := (hrow.cell (b * 2)).trans gb.1
    have d1 : w1.cell? ⟨h, b * 2 + 1, none⟩ = some (.int .i64 (rb : Int)) := (hrow.cell (b * 2 + 1)).trans gb.2
    have hres : t.before (a : Int) (b : Int) = (decide ((a : Int) < (b : Int)) && decide ((ra : Int) < (rb : Int))) := by
      rw [Bool.eq_iff_iff, Bool.and_eq_true, decide_eq_true_iff, decide_eq_true_iff]
      unfold Sp.T.before Sp.T.bf
      rw [decide_eq_true_iff]
      simp only [Int.toNat_natCast, ← hra, ← hrb]
      omega
    have HR := Lib.hid hres
    clear hres hra hrb ga gb hrow
    have n1 : decide ((a : Int) < 0) = false := by simp
    have n2 : decide ((b : Int) < 0) = false := by simp
    have n3 : decide (t.size ≤ a) = false := by simp; omega
    have n4 : decide (t.size ≤ b) = false := by simp; omega
    by_cases hlt : a < b
    rotate_left
    · have hab : decide ((a : Int) < (b : Int)) = false := by simp; omega
      rw [hab, Bool.false_and] at HR
      have hab2 : decide (a < b) = false := by simp; omega
      clear hlt hab
      go_wp2
      go_quiet (fail)
      go_wp2
      go_ret
      exact ⟨ret_bool (by rw [HR.out]), hbf.trans (below_drewN (Below.refl _ _) _)⟩
    · have hab : decide ((a : Int) < (b : Int)) = true := by simp; omega
      rw [hab, Bool.true_and] at HR
      have hab2 : decide (a < b) = true := by simp; omega
      clear hlt hab
      go_wp2
      go_quiet (fail)
      go_wp2
      go_ret
      exact ⟨ret_bool (by rw [HR.out]; simp), hbf.trans (below_drewN (Below.refl _ _) _)⟩
  · have hres : t.before i j = false := by
      unfold Sp.T.before
      rw [decide_eq_false_iff_not]
      exact fun h => hin h.1
    have HR := Lib.hid hres
    clear hres hrow
    by_cases g1 : i < 0
    · go_wp2
      go_ret
      exact ⟨(show _ = Ending.returned (.bool false) from rfl).trans (by rw [HR.out]), hbf⟩
    by_cases g2 : j < 0
    · go_wp2
      go_ret
      exact ⟨(show _ = Ending.returned (.bool false) from rfl).trans (by rw [HR.out]), hbf⟩
    by_cases g3 : (t.size : Int) ≤ i
    · go_wp2
      go_ret
      exact ⟨(show _ = Ending.returned (.bool false) from rfl).trans (by rw [HR.out]), hbf⟩
    have g4 : (t.size : Int) ≤ j := by omega
    clear hin
    go_wp2
    go_ret
    exact ⟨(show _ = Ending.returned (.bool false) from rfl).trans (by rw [HR.out]), hbf⟩
end Go.Proofs.YtpimcghmpbbckaaDoor


namespace Go.Proofs.YtpimcghmpbbckaaDoor
set_option linter.unusedVariables false
set_option linter.unusedSimpArgs false
set_option maxRecDepth 100000
open Go.RowKit

theorem kids_cells {w : World} {g : Nat} {t : TypeId} {xs ys : List Value} (h : Blk w g t (xs ++ ys)) (hx : xs.length = 5) : (∀ j u, xs[j]? = some u → w.cell? ⟨g, 0 + j, none⟩ = some u) ∧ (∀ j u, ys[j]? = some u → w.cell? ⟨g, 0 + 5 + j, none⟩ = some u) := by
  refine ⟨fun j u hu => ?_, fun j u hu => ?_⟩
  · have hj := (List.getElem?_eq_some_iff.1 hu).1
    rw [h.cell, List.getElem?_append_left (by omega), Nat.zero_add]
    exact hu
  · rw [h.cell, List.getElem?_append_right (by omega), ← hu]
    congr 1
    omega

/-- a term of two, made by the call -/
theorem TmR.made {B : Nat} {w : World} {g : Nat} {xs ys : List Value} {t0 t1 : Sp.T} {tt : TypeId} (par : Bool) (h : Blk w g tt (xs ++ ys)) (hx : xs.length = 5) (hg : g < B) (r0 : TmR B w xs t0) (r1 : TmR B w ys t1) :
    TmR B w (tcells (if par then 3 else 2) 0 false 0 (some ⟨g, 0, none⟩) 2 2) (.two par t0 t1) :=
  .two par 0 false 0 g 0 2 2 xs ys t0 t1 (Nat.le_refl _) (by unfold maxLen; omega) (Nat.le_refl _) hg (kids_cells h hx).1 (kids_cells h hx).2 r0 r1

theorem two_allocs (w : World) (c0 c1 : List Value) (t0 t1 : TypeId) : Blk ((w.alloc (.cells c0.toArray t0)).alloc (.cells c1.toArray t1)) w.heap.size t0 c0 ∧ Blk ((w.alloc (.cells c0.toArray t0)).alloc (.cells c1.toArray t1)) (w.heap.size + 1) t1 c1 ∧ ((w.alloc (.cells c0.toArray t0)).alloc (.cells c1.toArray t1)).heap.size = w.heap.size + 1 + 1 ∧ Keeps (fun _ => False) w ((w.alloc (.cells c0.toArray t0)).alloc (.cells c1.toArray t1)) := by
  have h0 := Blk.new w t0 c0
  have h1 := Blk.new (w.alloc (.cells c0.toArray t0)) t1 c1
  rw [show (w.alloc (.cells c0.toArray t0)).heap.size = w.heap.size + 1 by simp] at h1
  exact ⟨h0.alloc _, h1, by simp, ((Keeps.refl _ w).alloc _).alloc _⟩
theorem four_allocs (w : World) (c0 c1 c2 c3 : List Value) (t0 t1 t2 t3 : TypeId) : Blk ((((w.alloc (.cells c0.toArray t0)).alloc (.cells c1.toArray t1)).alloc (.cells c2.toArray t2)).alloc (.cells c3.toArray t3)) w.heap.size t0 c0 ∧ Blk ((((w.alloc (.cells c0.toArray t0)).alloc (.cells c1.toArray t1)).alloc (.cells c2.toArray t2)).alloc (.cells c3.toArray t3)) (w.heap.size + 1) t1 c1 ∧
    Blk ((((w.alloc (.cells c0.toArray t0)).alloc (.cells c1.toArray t1)).alloc (.cells c2.toArray t2)).alloc (.cells c3.toArray t3)) (w.heap.size + 1 + 1) t2 c2 ∧ Blk ((((w.alloc (.cells c0.toArray t0)).alloc (.cells c1.toArray t1)).alloc (.cells c2.toArray t2)).alloc (.cells c3.toArray t3)) (w.heap.size + 1 + 1 + 1) t3 c3 ∧
    ((((w.alloc (.cells c0.toArray t0)).alloc (.cells c1.toArray t1)).alloc (.cells c2.toArray t2)).alloc (.cells c3.toArray t3)).heap.size = w.heap.size + 1 + 1 + 1 + 1 ∧ Keeps (fun _ => False) w ((((w.alloc (.cells c0.toArray t0)).alloc (.cells c1.toArray t1)).alloc (.cells c2.toArray t2)).alloc (.cells c3.toArray t3)) := by
  obtain ⟨h0, h1, hz, hk⟩ := two_allocs w c0 c1 t0 t1
  obtain ⟨h2, h3, hz2, hk2⟩ := two_allocs ((w.alloc (.cells c0.toArray t0)).alloc (.cells c1.toArray t1)) c2 c3 t2 t3
  rw [hz] at h2 h3 hz2
  exact ⟨(h0.alloc _).alloc _, (h1.alloc _).alloc _, h2, h3, hz2, hk.trans hk2⟩

/-- what is known of a term that lies in a box, while the world goes on -/
structure Boxed (w1 : World) (q : Nat) (k c : Int) (b : Bool) (l : Int) (A : Option Addr) (n cap : Nat) (t : Sp.T) : Prop where
  look : ∀ w', Below w1.heap.size w1 w' → (w'.cell? ⟨q, 0, none⟩ = some (.int .i64 k) ∧ w'.cell? ⟨q, 1, none⟩ = some (.int .i64 c) ∧ w'.cell? ⟨q, 2, none⟩ = some (.bool b) ∧ w'.cell? ⟨q, 3, none⟩ = some (.int .i64 l) ∧ w'.cell? ⟨q, 4, none⟩ = some (.slice A n cap)) ∧
    TmR w'.heap.size w' [.int .i64 k, .int .i64 c, .bool b, .int .i64 l, .slice A n cap] t
theorem Boxed.of {w1 : World} {q : Nat} {k c : Int} {b : Bool} {l : Int} {A : Option Addr} {n cap : Nat} {t : Sp.T} {B : Nat} (hB : Blk w1 q 42 [.int .i64 k, .int .i64 c, .bool b, .int .i64 l, .slice A n cap]) (hT : TmR B w1 [.int .i64 k, .int .i64 c, .bool b, .int .i64 l, .slice A n cap] t) (hb : B ≤ w1.heap.size) : Boxed w1 q k c b l A n cap t :=
  ⟨fun w' h => ⟨⟨by rw [(hB.below h).cell]; rfl, by rw [(hB.below h).cell]; rfl, by rw [(hB.below h).cell]; rfl, by rw [(hB.below h).cell]; rfl, by rw [(hB.below h).cell]; rfl⟩, (hT.later (h.mono hb)).keep (Nat.le_trans hb h.size) (fun _ _ => rfl)⟩⟩

theorem tm_up {B B' : Nat} {w : World} {cs : List Value} {t : Sp.T} (h : TmR B w cs t) (hB : B ≤ B') : TmR B' w cs t := h.keep hB (fun _ _ => rfl)

theorem three_allocs (w : World) (c0 c1 c2 : List Value) (t0 t1 t2 : TypeId) : Blk (((w.alloc (.cells c0.toArray t0)).alloc (.cells c1.toArray t1)).alloc (.cells c2.toArray t2)) w.heap.size t0 c0 ∧ Blk (((w.alloc (.cells c0.toArray t0)).alloc (.cells c1.toArray t1)).alloc (.cells c2.toArray t2)) (w.heap.size + 1) t1 c1 ∧
    Blk (((w.alloc (.cells c0.toArray t0)).alloc (.cells c1.toArray t1)).alloc (.cells c2.toArray t2)) (w.heap.size + 1 + 1) t2 c2 ∧ (((w.alloc (.cells c0.toArray t0)).alloc (.cells c1.toArray t1)).alloc (.cells c2.toArray t2)).heap.size = w.heap.size + 1 + 1 + 1 ∧ Keeps (fun _ => False) w (((w.alloc (.cells c0.toArray t0)).alloc (.cells c1.toArray t1)).alloc (.cells c2.toArray t2)) := by
  obtain ⟨h0, h1, hz, hk⟩ := two_allocs w c0 c1 t0 t1
  have h2 := Blk.new ((w.alloc (.cells c0.toArray t0)).alloc (.cells c1.toArray t1)) t2 c2
  rw [hz] at h2
  exact ⟨h0.alloc _, h1.alloc _, h2, by simp, hk.alloc _⟩

theorem SlV.of_blk {w : World} {g sz n : Nat} {e : TypeId} {cs : List Value} (h : Blk w g e cs) (hl : cs.length = n * sz) (hn : n ≤ 1000000000) : SlV w sz (.slice (some ⟨g, 0, none⟩) n n) n cs :=
  ⟨_, _, rfl, Nat.le_refl _, by unfold maxLen; omega, hl, g, 0, fun _ => ⟨rfl, h.lt⟩, fun j u hu => by rw [Nat.zero_add, h.cell]; exact hu⟩

end Go.Proofs.YtpimcghmpbbckaaDoor


namespace Go.Proofs.YtpimcghmpbbckaaDoor
set_option linter.unusedVariables false
set_option linter.unusedSimpArgs false
set_option maxRecDepth 100000
open Go.RowKit

namespace Sp
/-- a count, rest 2^64 -/
def u64 (n : Nat) : Int := ((n % 18446744073709551616 : Nat) : Int)
theorem u64_mul (a b : Nat) : IntKind.u64.wrap (u64 a * u64 b) = u64 (a * b) := by
  unfold u64
  rw [wrap_u64, ← Int.natCast_mul, Nat.mul_mod a b]
  generalize (a % 18446744073709551616) * (b % 18446744073709551616) = x
  omega
theorem u64_add (a b : Nat) : IntKind.u64.wrap (u64 a + u64 b) = u64 (a + b) := by
  unfold u64
  rw [wrap_u64]
  omega
theorem u64_zero : u64 0 = 0 := rfl
theorem u64_one : u64 1 = 1 := rfl

def row (f : Nat → Nat) (b : Nat) : List Value := (List.range (b + 1)).map fun j => .int .u64 (u64 (f j))
theorem row_length (f : Nat → Nat) (b : Nat) : (row f b).length = b + 1 := by simp [row]
theorem row_get (f : Nat → Nat) (b j : Nat) (h : j ≤ b) : (row f b)[j]? = some (.int .u64 (u64 (f j))) := by
  have : j < b + 1 := by omega
  simp [row, this]
theorem row_congr {f g : Nat → Nat} {b : Nat} (h : ∀ j, j ≤ b → f j = g j) : row f b = row g b := by
  apply List.ext_getElem?
  intro j
  by_cases hj : j ≤ b
  · rw [row_get _ _ _ hj, row_get _ _ _ hj, h j hj]
  · rw [List.getElem?_eq_none (by rw [row_length]; omega), List.getElem?_eq_none (by rw [row_length]; omega)]
theorem row_set (f : Nat → Nat) (b i x : Nat) (h : i ≤ b) : (row f b).set i (.int .u64 (u64 x)) = row (fun j => if j = i then x else f j) b := by
  apply List.ext_getElem?
  intro j
  by_cases hj : j ≤ b
  · rw [row_get _ _ _ hj, List.getElem?_set]
    by_cases e : i = j
    · subst e; simp [row_length]; omega
    · rw [if_neg e, row_get _ _ _ hj, if_neg (fun e' => e e'.symm)]
  · rw [List.getElem?_eq_none (by rw [List.length_set, row_length]; omega), List.getElem?_eq_none (by rw [row_length]; omega)]
theorem row_zero (b : Nat) : List.replicate ((b + 1) * 1) (Value.int .u64 0) = row (fun _ => 0) b := by
  apply List.ext_getElem?
  intro j
  by_cases hj : j ≤ b
  · rw [row_get _ _ _ hj, u64_zero, List.getElem?_replicate, if_pos (by omega)]
  · rw [List.getElem?_eq_none (by simp; omega), List.getElem?_eq_none (by rw [row_length]; omega)]
/-- the row while its k-th turn goes on: those below i are new -/
def mix (k i j : Nat) : Nat := if j < i then ch (k + 1) j else ch k j
theorem mix_start (k b : Nat) : row (ch k) b = row (mix k 1) b := row_congr fun j _ => by
  unfold mix
  by_cases h : j < 1
  · have : j = 0 := by omega
    subst this
    rw [if_pos h, ch_zero, ch_zero]
  · rw [if_neg h]
theorem mix_end (k b : Nat) : row (mix k (b + 1)) b = row (ch (k + 1)) b := row_congr fun j hj => by
  unfold mix; rw [if_pos (by omega)]
theorem mix_step (k m b : Nat) : row (fun j => if j = m + 1 then mix k (m + 1) (m + 1) + mix k (m + 1) m else mix k (m + 1) j) b = row (mix k (m + 1 + 1)) b := row_congr fun j hj => by
  by_cases e : j = m + 1
  · subst e
    rw [if_pos rfl]
    unfold mix
    rw [if_neg (by omega), if_pos (by omega), if_pos (by omega), ch]
  · rw [if_neg e]
    unfold mix
    by_cases h : j < m + 1
    · rw [if_pos h, if_pos (by omega)]
    · rw [if_neg h, if_neg (by omega)]
end Sp

theorem info_u64c : (Tryd.prog.info? 45).map (fun i => (i.zero, i.size, i.bytes)) = some (some (.int .u64 0), 1, 8) := by kernel_rfl

set_option maxRecDepth 100000 in
set_option maxHeartbeats 4000000 in
theorem choose_any (a b : Nat) (w : World) (ha : a ≤ 4194304) (hb : b ≤ 4194304) :
    Calls Tryd.prog 99 #[.int .i64 a, .int .i64 b] w fun e w' => e = .returned (.int .u64 (Sp.u64 (Sp.ch a b))) ∧ Below w.heap.size w w' := by
  obtain ⟨n, hn⟩ : ∃ n, n = b + 1 := ⟨_, rfl⟩
  have HN := Lib.hid hn
  have hnb : n ≤ 4194305 := by omega
  clear hn
  obtain ⟨q, hq⟩ : ∃ q, q = w.heap.size := ⟨_, rfl⟩
  have HQ := Lib.hid hq
  clear hq
  go_enter Tryd.func99, Tryd.ntmps99
  go_wp2_with (at_make; refine wp_make_flat w 80 45 (.int .u64 0) (.int .u64 0) 1 8 n Tryd.underlying80 info_u64c rfl (by decide) (by have := HN.out; omega) (by have := HN.out; omega) (by omega) (by omega) rfl rfl rfl rfl ?_; intro w1 hB1 hb1 hs1)
  rw [← HQ.out] at hB1 hb1 ⊢
  rw [HN.out, Sp.row_zero] at hB1
  have hq1 : q < w1.heap.size := hB1.lt
  clear hs1
  go_loopw [13] (fun i wr => ∃ k : Nat, k ≤ n ∧ i = .int .i64 k ∧ Blk wr q 45 (Sp.row (fun j => if j < k then 1 else 0) b) ∧ Below q w wr) (fun i _ => n - (intOf i).toNat)
  case atStart => exact ⟨0, Nat.zero_le _, rfl, by simpa using hB1, hb1⟩
  case round =>
    clear hB1 hb1 hq1
    obtain ⟨k, hk, rfl, hB, hbw⟩ := hrel
    by_cases hlt : k < n
    · have hkb : k ≤ b := by have := HN.out; omega
      have hset := Sp.row_set (fun j => if j < k then 1 else 0) b k 1 hkb
      have HS := Lib.hid hset
      clear hset
      go_wp2_with (refine wpl_set_blk hB k (.int .u64 1) (by kernel_rfl) (by rw [Sp.row_length]; omega) rfl rfl rfl rfl rfl rfl ?_; intro w2 hB2 hg2)
      have hb2 : Below q w w2 := hbw.trans (below_of_grown hg2 (Nat.le_of_lt hB.lt) (Nat.le_refl _))
      rw [show (1 : Int) = Sp.u64 1 from rfl, HS.out] at hB2
      have hB3 : Blk w2 q 45 (Sp.row (fun j => if j < k + 1 then 1 else 0) b) := by
        rw [Sp.row_congr (g := fun j => if j = k then 1 else if j < k then 1 else 0) (fun j _ => by split <;> split <;> (try split) <;> omega)]
        exact hB2
      clear hB2 hg2 hB hbw
      go_wp2
      go_roundw
      case rel => exact ⟨k + 1, by omega, by go_num, hB3, hb2⟩
      case measure => simp [intOf]; omega
    · have hkn : k = n := by omega
      have hB1 : Blk wr q 45 (Sp.row (Sp.ch 0) b) := by
        rw [Sp.row_congr (g := fun j => if j < k then 1 else 0) (fun j hj => by have := HN.out; rw [if_pos (by omega)]; simp [Sp.ch])]
        exact hB
      clear hB hkn
      go_wp2_with fail
      obtain ⟨wo, rfl⟩ : ∃ wo : World, wo = wr := ⟨_, rfl⟩
      go_loopw [21] (fun i wr => ∃ k : Nat, k ≤ a ∧ i = .int .i64 k ∧ Blk wr q 45 (Sp.row (Sp.ch k) b) ∧ Below q w wr) (fun i _ => a - (intOf i).toNat)
      case atStart => exact ⟨0, Nat.zero_le _, rfl, hB1, hbw⟩
      case round =>
        clear hB1 hbw
        obtain ⟨k, hk, rfl, hB, hbw⟩ := hrel
        by_cases hlt : k < a
        · go_wp2_with fail
          rw [Sp.mix_start] at hB
          obtain ⟨wm, rfl⟩ : ∃ wm : World, wm = wr := ⟨_, rfl⟩
          go_loopw [7] (fun i wr => ∃ j : Nat, 1 ≤ j ∧ j ≤ b + 1 ∧ i = .int .i64 j ∧ Blk wr q 45 (Sp.row (Sp.mix k j) b) ∧ Below q w wr) (fun i _ => b + 1 - (intOf i).toNat)
          case atStart => exact ⟨1, Nat.le_refl _, by omega, rfl, hB, hbw⟩
          case round =>
            clear hB hbw
            obtain ⟨j, hj1, hj2, rfl, hB, hbw⟩ := hrel
            by_cases hl2 : j ≤ b
            · obtain ⟨m, hm⟩ : ∃ m, j = m + 1 := ⟨j - 1, by omega⟩
              have c0 := (hB.cell j).trans (Sp.row_get _ _ _ hl2)
              have c1 := (hB.cell m).trans (Sp.row_get _ _ _ (by omega))
              have hset := Sp.row_set (Sp.mix k (m + 1)) b (m + 1) (Sp.mix k (m + 1) (m + 1) + Sp.mix k (m + 1) m) (by omega)
              rw [Sp.mix_step k m b, ← hm] at hset
              obtain ⟨x, hx⟩ : ∃ x, x = Sp.mix k j j := ⟨_, rfl⟩
              obtain ⟨y, hy⟩ : ∃ y, y = Sp.mix k j m := ⟨_, rfl⟩
              rw [← hx] at c0 hset
              rw [← hy] at c1 hset
              have HS := Lib.hid hset
              have hlen := Sp.row_length (Sp.mix k j) b
              have HL := Lib.hid hlen
              have hsub : IntKind.i64.wrap ((j : Int) - 1) = (m : Int) := by rw [IntWalk.i64_in _ (by omega)]; omega
              have g3 : (m : Int) < (n : Int) := by have := HN.out; omega
              have g2 : (j : Int) < (n : Int) := by have := HN.out; omega
              have g4 : j < (Sp.row (Sp.mix k j) b).length := by omega
              clear hx hy hlen hset hm
              have hadd := Sp.u64_add x y
              go_wp2_with fail
              (refine still_last (by kernel_rfl) (by kernel_rfl) ?_; simp only [List.length_cons, List.length_nil, Nat.reduceAdd, Nat.reduceSub, List.take_succ_cons, List.take_zero, List.drop_succ_cons, List.drop_zero]; repeat still_step; try refine wpStill_nil ?_)
              refine wpl_set_blk (w := wr.drewN 1) hB j (.int .u64 (Sp.u64 (x + y))) (by kernel_rfl) g4 rfl rfl rfl rfl rfl rfl ?_
              intro w2 hB2 hg2
              rw [HS.out] at hB2
              have hb2 : Below q w w2 := hbw.trans (below_of_grown (grown_undrewN hg2) (Nat.le_of_lt hB.lt) (Nat.le_refl _))
              clear hB hg2 c0 c1 hadd hsub hbw
              go_wp2
              go_roundw
              case rel => exact ⟨j + 1, by omega, by omega, by go_num, hB2, hb2⟩
              case measure => simp [intOf]; omega
            · have hjb : j = b + 1 := by omega
              rw [hjb, Sp.mix_end] at hB
              clear hjb
              go_wp2
              go_roundw
              case rel => exact ⟨k + 1, by omega, by go_num, hB, hbw⟩
              case measure => simp [intOf]; omega
        · have hka : k = a := by omega
          rw [hka] at hB
          clear hka
          have c0 := (hB.cell b).trans (Sp.row_get _ _ _ (Nat.le_refl _))
          have g2 : (b : Int) < (n : Int) := by have := HN.out; omega
          rw [HQ.out] at hbw
          clear hB
          go_wp2
          go_ret
          exact ⟨rfl, hbw⟩

/-! ### the counter -/
structure Cn (B : Nat) (w : World) (g : Nat) (u v : Value) : Prop where
  blk : Blk w g 82 [u, v]
  base : B ≤ w.heap.size
  at_ : B ≤ g

def CnEnd (B : Nat) (w : World) (g : Nat) (t : Sp.T) : Ending → World → Prop := fun e w' =>
  e = .returned (.tuple #[]) ∧ Cn B w' g (.int .i64 t.size) (.int .u64 (Sp.u64 t.ways)) ∧ Keeps (fun k => k = g) w w'

theorem Cn.keeps {B : Nat} {w w' : World} {g : Nat} {u v : Value} (c : Cn B w g u v) {S : Nat → Prop} (k : Keeps S w w') (hS : ¬ S g) : Cn B w' g u v := ⟨c.blk.keeps k hS, by have := c.base; have := k.size; omega, c.at_⟩
theorem cn_back {B : Nat} {w w0 : World} {g : Nat} {t : Sp.T} (hk : Keeps (fun _ => False) w w0) {e : Ending} {w' : World} (he : CnEnd B w0 g t e w') : CnEnd B w g t e w' :=
  ⟨he.1, he.2.1, (hk.mono (fun _ h => h.elim)).trans he.2.2⟩
theorem Cn.turn {B : Nat} {w w' : World} {g : Nat} {u v u' v' : Value} (c : Cn B w g u v) (hB : Blk w' g 82 [u', v']) (hg : w.grownBy w' (some g)) : Cn B w' g u' v' ∧ Keeps (fun k => k = g) w w' :=
  ⟨⟨hB, by have := c.base; have := hg.size; omega, c.at_⟩, (Keeps.of_grown hg).mono (fun i hi => by injection hi)⟩
theorem two_one {u v : Value} (hu : u.oneCell' = true) (hv : v.oneCell' = true) : ∀ x ∈ [u, v], x.oneCell' = true := by
  intro x hx
  simp only [List.mem_cons, List.not_mem_nil, or_false] at hx
  rcases hx with rfl | rfl
  · exact hu
  · exact hv

theorem cn_nothing (B : Nat) (w : World) (g : Nat) (u v : Value) (c : Cn B w g u v) :
    Calls Tryd.prog 96 #[.pointer (some ⟨g, 0, none⟩)] w (CnEnd B w g .nil) := by
  go_enter Tryd.func96, Tryd.ntmps96
  go_wp2_with (refine wpl_put_blk c.blk [.int .i64 0, .int .u64 1] (by kernel_rfl) rfl (two_one rfl rfl) rfl rfl rfl rfl ?_; intro w2 hB2 hg2)
  have hf := c.turn hB2 hg2
  clear hB2 hg2 c
  go_wp2
  go_end0
  exact ⟨rfl, hf.1, hf.2⟩
theorem cn_one (B : Nat) (w : World) (g : Nat) (u v : Value) (c : Cn B w g u v) (a : Sp.Acc) :
    Calls Tryd.prog 97 #[.pointer (some ⟨g, 0, none⟩), .agg #[.int .i64 a.1, .bool a.2.1, .int .i64 a.2.2]] w (CnEnd B w g (.one a.1 a.2.1 a.2.2)) := by
  obtain ⟨a1, a2, a3⟩ := a
  simp only
  have c1 := c.keeps ((Keeps.refl (fun _ => False) w).alloc (.cells #[.int .i64 a1, .bool a2, .int .i64 a3] 39)) (fun h => h)
  have k1 : Keeps (fun k => k = g) w (w.alloc (.cells #[.int .i64 a1, .bool a2, .int .i64 a3] 39)) := (Keeps.refl _ w).alloc _
  clear c
  go_enter Tryd.func97, Tryd.ntmps97
  go_wp2_with (refine wpl_put_blk c1.blk [.int .i64 1, .int .u64 1] (by kernel_rfl) rfl (two_one rfl rfl) rfl rfl rfl rfl ?_; intro w2 hB2 hg2)
  have hf := c1.turn hB2 hg2
  clear hB2 hg2
  go_wp2
  go_end0
  exact ⟨rfl, hf.1, k1.trans hf.2⟩

theorem meth_cn (g fuel : Nat) (w : World) : (method (fuel + 1) 84 (.pointer (some ⟨g, 0, none⟩)) "forkwright/sp.nothing").run Tryd.prog w = .ok (96, .pointer (some ⟨g, 0, none⟩)) w ∧
    (method (fuel + 1) 84 (.pointer (some ⟨g, 0, none⟩)) "forkwright/sp.one").run Tryd.prog w = .ok (97, .pointer (some ⟨g, 0, none⟩)) w ∧
    (method (fuel + 1) 84 (.pointer (some ⟨g, 0, none⟩)) "forkwright/sp.two").run Tryd.prog w = .ok (98, .pointer (some ⟨g, 0, none⟩)) w ∧
    (nilAhead (fuel + 1) 84 (.pointer (some ⟨g, 0, none⟩)) "forkwright/sp.two").run Tryd.prog w = .ok (some false) w :=
  ⟨by kernel_rfl, by kernel_rfl, by kernel_rfl, by kernel_rfl⟩

def CountTell (t : Sp.T) : Prop := ∀ (B : Nat) (w : World) (g : Nat) (u v : Value) (cs : List Value), TmR B w cs t → Cn B w g u v → t.size ≤ 4194304 →
    Calls Tryd.prog 45 #[.agg cs.toArray, .iface 84 (.pointer (some ⟨g, 0, none⟩))] w (CnEnd B w g t)

set_option maxHeartbeats 4000000 in
theorem cn_two (par : Bool) (t0 t1 : Sp.T) (ih0 : CountTell t0) (ih1 : CountTell t1) (B : Nat) (w0 : World) (g : Nat) (u v : Value) (cs0 cs1 : List Value) (q0 : TmR B w0 cs0 t0) (q1 : TmR B w0 cs1 t1) (hC : Cn B w0 g u v) (hn : t0.size + t1.size ≤ 4194304) :
    Calls Tryd.prog 98 #[.pointer (some ⟨g, 0, none⟩), .bool par, .agg cs0.toArray, .agg cs1.toArray] w0 (CnEnd B w0 g (.two par t0 t1)) := by
  obtain ⟨a0, a1, a2, a3, A4, a5, a6, rfl, -, -⟩ := q0.form
  obtain ⟨b0, b1, b2, b3, B4, b5, b6, rfl, -, -⟩ := q1.form
  unfold tcells at q0 q1 ⊢
  obtain ⟨hx0, hx1, hx2, hx3, hz, hk0⟩ := four_allocs w0 [.int .i64 a0, .int .i64 a1, .bool a2, .int .i64 a3, .slice A4 a5 a6] [.int .i64 b0, .int .i64 b1, .bool b2, .int .i64 b3, .slice B4 b5 b6] [.int .i64 0, .int .u64 0] [.int .i64 0, .int .u64 0] 42 42 82 82
  have hbB := hk0.below (B := B) hC.base (fun i h => h.elim)
  have hg0 := hC.blk.lt
  have s0 := q0.later hbB
  have s1 := q1.later hbB
  have hC1 := hC.keeps hk0 (fun h => h)
  have hB0 := hC.base
  clear q0 q1 hC hbB
  go_enter Tryd.func98, Tryd.ntmps98
  go_wp2_with fail
  obtain ⟨q, hq⟩ : ∃ q, q = w0.heap.size := ⟨_, rfl⟩
  generalize ((((w0.alloc (.cells [Value.int .i64 a0, .int .i64 a1, .bool a2, .int .i64 a3, .slice A4 a5 a6].toArray 42)).alloc (.cells [Value.int .i64 b0, .int .i64 b1, .bool b2, .int .i64 b3, .slice B4 b5 b6].toArray 42)).alloc (.cells [Value.int .i64 0, .int .u64 0].toArray 82)).alloc (.cells [Value.int .i64 0, .int .u64 0].toArray 82)) = W at hx0 hx1 hx2 hx3 hz hk0 s0 s1 hC1 ⊢
  rw [← hq] at hx0 hx1 hx2 hx3 hz hg0 hB0 ⊢
  obtain ⟨qa, hqa⟩ : ∃ k, k = q + 1 + 1 := ⟨_, rfl⟩
  obtain ⟨qb, hqb⟩ : ∃ k, k = q + 1 + 1 + 1 := ⟨_, rfl⟩
  rw [← hqb] at hx3
  rw [← hqa] at hx2
  have hqab : qa + 1 = qb := by omega
  simp only [← hqa, hqab]
  clear hqab
  have cA : Cn B W qa (.int .i64 0) (.int .u64 0) := ⟨hx2, by omega, by omega⟩
  have cB : Cn B W qb (.int .i64 0) (.int .u64 0) := ⟨hx3, by omega, by omega⟩
  have look : ∀ w', Keeps (fun k => k = g ∨ k = qa ∨ k = qb) W w' → (w'.cell? ⟨q, 0, none⟩ = some (.int .i64 a0) ∧ w'.cell? ⟨q, 1, none⟩ = some (.int .i64 a1) ∧ w'.cell? ⟨q, 2, none⟩ = some (.bool a2) ∧ w'.cell? ⟨q, 3, none⟩ = some (.int .i64 a3) ∧ w'.cell? ⟨q, 4, none⟩ = some (.slice A4 a5 a6)) ∧
      (w'.cell? ⟨q + 1, 0, none⟩ = some (.int .i64 b0) ∧ w'.cell? ⟨q + 1, 1, none⟩ = some (.int .i64 b1) ∧ w'.cell? ⟨q + 1, 2, none⟩ = some (.bool b2) ∧ w'.cell? ⟨q + 1, 3, none⟩ = some (.int .i64 b3) ∧ w'.cell? ⟨q + 1, 4, none⟩ = some (.slice B4 b5 b6)) ∧
      TmR B w' [.int .i64 b0, .int .i64 b1, .bool b2, .int .i64 b3, .slice B4 b5 b6] t1 := fun w' hk => by
    have x0 := hx0.keeps hk (fun e => by omega)
    have x1 := hx1.keeps hk (fun e => by omega)
    have hbl := hk.below (B := B) (by omega) (fun i hi => by have := hC1.at_; omega)
    exact ⟨⟨by rw [x0.cell]; rfl, by rw [x0.cell]; rfl, by rw [x0.cell]; rfl, by rw [x0.cell]; rfl, by rw [x0.cell]; rfl⟩, ⟨by rw [x1.cell]; rfl, by rw [x1.cell]; rfl, by rw [x1.cell]; rfl, by rw [x1.cell]; rfl, by rw [x1.cell]; rfl⟩, s1.later hbl⟩
  have ka0 : qa ≠ qb := by omega
  have ka1 : qa ≠ g := by omega
  have ka2 : qb ≠ g := by omega
  have kg0 : Keeps (fun k => k = g) w0 W := hk0.mono (fun _ h => h.elim)
  have hlast : ∀ w', Keeps (fun k => k = g ∨ k = qa ∨ k = qb) W w' → Keeps (fun k => k = g) w0 w' := fun w' hk => kg0.step hk (fun i hi h => by omega)
  clear hx0 hx1 hx2 hx3 hk0 hqa hqb hq kg0
  obtain ⟨⟨x0, x1, x2, x3, x4⟩, -, -⟩ := look W (Keeps.refl _ _)
  have hcall := ih0 B W qa _ _ _ s0 cA (by omega)
  clear ih0 s0
  refine hcall.mono ?_
  rintro e w1 ⟨rfl, cA1, k1⟩
  have kk1 : Keeps (fun k => k = g ∨ k = qa ∨ k = qb) W w1 := k1.mono (fun i h => .inr (.inl h))
  have cB1 := cB.keeps k1 (fun e => ka0 e.symm)
  have cG1 := hC1.keeps k1 (fun e => ka1 e.symm)
  clear x0 x1 x2 x3 x4 hcall cA cB hC1 k1
  obtain ⟨-, ⟨x0, x1, x2, x3, x4⟩, r1⟩ := look w1 kk1
  go_wp2_with fail
  refine (ih1 B w1 qb _ _ _ r1 cB1 (by omega)).mono ?_
  rintro e w2 ⟨rfl, cB2, k2⟩
  have kk2 : Keeps (fun k => k = g ∨ k = qa ∨ k = qb) W w2 := kk1.trans (k2.mono (fun i h => .inr (.inr h)))
  have cA2 := cA1.keeps k2 (fun e => ka0 e)
  have cG2 := cG1.keeps k2 (fun e => ka2 e.symm)
  clear x0 x1 x2 x3 x4 r1 cA1 cB1 cG1 k2 ih1 look
  have ya0 := cA2.blk.cell 0
  have ya1 := cA2.blk.cell 1
  have yb0 := cB2.blk.cell 0
  have yb1 := cB2.blk.cell 1
  simp only [List.getElem?_cons_zero, List.getElem?_cons_succ] at ya0 ya1 yb0 yb1
  obtain ⟨sa, hsa⟩ : ∃ s, s = t0.size := ⟨_, rfl⟩
  obtain ⟨sb, hsb⟩ : ∃ s, s = t1.size := ⟨_, rfl⟩
  obtain ⟨ya, hya⟩ : ∃ s, s = t0.ways := ⟨_, rfl⟩
  obtain ⟨yb, hyb⟩ : ∃ s, s = t1.ways := ⟨_, rfl⟩
  have hfin : (Sp.T.two par t0 t1).size = sa + sb ∧ (Sp.T.two par t0 t1).ways = ya * yb * (if par then Sp.ch sa sb else 1) := by rw [Sp.T.size_two, hsa, hsb, hya, hyb]; exact ⟨rfl, rfl⟩
  have HF := Lib.hid hfin
  rw [← hsa] at ya0 hn
  rw [← hsb] at yb0 hn
  rw [← hya] at ya1
  rw [← hyb] at yb1
  have hmul := Sp.u64_mul ya yb
  rw [← hsa, ← hya] at cA2
  rw [← hsb, ← hyb] at cB2
  clear hsa hsb hya hyb hfin
  rcases par with _ | _
  · go_wp2_with (refine wpl_put_blk cG2.blk [.int .i64 ((sa : Int) + (sb : Int)), .int .u64 (Sp.u64 (ya * yb))] (by kernel_rfl) rfl (two_one rfl rfl) rfl rfl rfl rfl ?_; intro w3 hB3 hg3)
    obtain ⟨cG3, kg3⟩ := cG2.turn hB3 hg3
    have kk3 : Keeps (fun k => k = g ∨ k = qa ∨ k = qb) W w3 := kk2.trans (kg3.mono (fun i h => .inl h))
    clear hB3 hg3 cG2 cA2 cB2 kg3 kk2 ya0 ya1 yb0 yb1 hmul
    go_end0
    refine ⟨rfl, ?_, hlast _ kk3⟩
    rw [HF.out.1, HF.out.2]
    simpa using cG3
  · go_wp2_with (refine wpl_put_blk cG2.blk [.int .i64 ((sa : Int) + (sb : Int)), .int .u64 (Sp.u64 (ya * yb))] (by kernel_rfl) rfl (two_one rfl rfl) rfl rfl rfl rfl ?_; intro w3 hB3 hg3)
    obtain ⟨cG3, kg3⟩ := cG2.turn hB3 hg3
    have cA3 := cA2.keeps kg3 (fun e => ka1 e)
    have cB3 := cB2.keeps kg3 (fun e => ka2 e)
    have kk3 : Keeps (fun k => k = g ∨ k = qa ∨ k = qb) W w3 := kk2.trans (kg3.mono (fun i h => .inl h))
    clear hB3 hg3 cG2 cA2 cB2 kg3 kk2 ya0 ya1 yb0 yb1 hmul
    have hmul := Sp.u64_mul (ya * yb) (Sp.ch sa sb)
    have keepS : ∀ w', Below w3.heap.size w3 w' → (Below w3.heap.size w3 w' ∧ w'.cell? ⟨g, 1, none⟩ = some (.int .u64 (Sp.u64 (ya * yb))) ∧ w'.cell? ⟨qa, 0, none⟩ = some (.int .i64 sa) ∧ w'.cell? ⟨qb, 0, none⟩ = some (.int .i64 sb)) := fun w' hb =>
      ⟨hb, by rw [(cG3.blk.below hb).cell]; rfl, by rw [(cA3.blk.below hb).cell]; rfl, by rw [(cB3.blk.below hb).cell]; rfl⟩
    refine wp_walk_last (by kernel_rfl) (by kernel_rfl) (fun _ _ => True) (fun w' => (Below w3.heap.size w3 w' ∧ w'.cell? ⟨g, 1, none⟩ = some (.int .u64 (Sp.u64 (ya * yb))) ∧ w'.cell? ⟨qa, 0, none⟩ = some (.int .i64 sa) ∧ w'.cell? ⟨qb, 0, none⟩ = some (.int .i64 sb))) (keepS _ (below_drew (Below.refl _ _))) ?_
    simp only [List.length_cons, List.length_nil, Nat.reduceAdd, Nat.reduceSub, List.take_succ_cons, List.take_zero, List.drop_succ_cons, List.drop_zero]
    repeat (first | (refine settle_skip (fun _ => by rfl) ?_; (simp only [Act.put, List.setIfInBounds_toArray, List.set_cons_zero, List.set_cons_succ])) | (refine' settle_run (fun _ _ => trivial) (fun _ => by rfl) ?_ ?_; rotate_left; (focus (intro ρ w hS hF; (try dsimp only at hS); go_split_ands; go_simp; try with_reducible rfl)); (simp only [Act.put, List.setIfInBounds_toArray, List.set_cons_zero, List.set_cons_succ])) | (refine' settle_step (fun _ => by rfl) ?_ ?_; rotate_left; (focus (intro ρ w hS hF K hK; (simp only [Act.put, List.setIfInBounds_toArray, List.set_cons_zero, List.set_cons_succ] at hK); go_simp; first | (go_at_call 99; refine (choose_any sa sb _ (by omega) (by omega)).mono ?_; rintro e w6 ⟨rfl, hb6⟩; have hS' := keepS _ (below_next hb6 hS.1); have hE' := True.intro; exact hK _ hS' hE'))); (simp only [Act.put, List.setIfInBounds_toArray, List.set_cons_zero, List.set_cons_succ])))
    refine settle_nil ?_
    intro ρ w4 hS _
    have cG4 : Cn B w4 g (.int .i64 ((sa : Int) + (sb : Int))) (.int .u64 (Sp.u64 (ya * yb))) := ⟨cG3.blk.below hS.1, by have := cG3.base; have := hS.1.size; omega, cG3.at_⟩
    have kk4 : Keeps (fun k => k = g ∨ k = qa ∨ k = qb) W w4 := kk3.step (Keeps.of_below hS.1 (fun _ => False)) (fun i _ h => h.elim)
    clear keepS hS cG3 cA3 cB3 kk3 hmul
    refine wpl_set_blk cG4.blk 1 (.int .u64 (Sp.u64 (ya * yb * Sp.ch sa sb))) (by kernel_rfl) (by simp) rfl rfl rfl rfl rfl rfl ?_
    intro w5 hB5 hg5
    obtain ⟨cG5, kg5⟩ := cG4.turn (by simpa using hB5) hg5
    have hl := hlast _ (kk4.trans (kg5.mono (fun i h => .inl h)))
    clear hB5 hg5 cG4 kk4 kg5 hlast
    go_wp2
    go_end0
    refine ⟨rfl, ?_, hl⟩
    rw [HF.out.1, HF.out.2]
    simpa using cG5

theorem tell_counts (t : Sp.T) : CountTell t := by
  induction t with
  | nil =>
    intro B w g u v cs hT hC hn
    refine tell_nil hT (f := 96) (fun k w => (meth_cn g k w).1) (fun _ _ => by rfl) ?_
    exact (cn_nothing B _ g u v (hC.keeps (keeps_alloc _ _) (fun h => h))).mono fun e w' h => cn_back (keeps_alloc _ _) h
  | one c b l =>
    intro B w g u v cs hT hC hn
    refine tell_one hT (f := 97) (fun k w => (meth_cn g k w).2.1) (fun _ _ => by rfl) ?_
    exact (cn_one B _ g u v (hC.keeps (keeps_alloc _ _) (fun h => h)) (c, b, l)).mono fun e w' h => cn_back (keeps_alloc _ _) h
  | two par t0 t1 ih0 ih1 =>
    intro B w g u v cs hT hC hn
    rw [Sp.T.size_two] at hn
    refine tell_two hT (f := 98) (fun k w => (meth_cn g k w).2.2.1) (fun k w => (meth_cn g k w).2.2.2) (fun _ _ => by rfl) hC.base ?_
    intro cs0 cs1 r0 r1
    have hk0 : Keeps (fun _ => False) w ((w.alloc (.cells cs.toArray 42)).drewN 1) := (keeps_alloc _ _).drewN 1
    have v0 : TmR B ((w.alloc (.cells cs.toArray 42)).drewN 1) cs0 t0 := r0.keep (Nat.le_refl _) (fun p hp => World.cell?_alloc_lt w _ p (by have := hC.base; omega))
    have v1 : TmR B ((w.alloc (.cells cs.toArray 42)).drewN 1) cs1 t1 := r1.keep (Nat.le_refl _) (fun p hp => World.cell?_alloc_lt w _ p (by have := hC.base; omega))
    exact (cn_two par t0 t1 ih0 ih1 B _ g u v cs0 cs1 v0 v1 (hC.keeps hk0 (fun h => h)) hn).mono fun e w' h => cn_back hk0 h

theorem count_any (w : World) (cs : List Value) (t : Sp.T) (hT : TmR w.heap.size w cs t) (hn : t.size ≤ 4194304) :
    Calls Tryd.prog 19 #[.agg cs.toArray] w fun e w' => e = .returned (.int .u64 (Sp.u64 t.ways)) ∧ Below w.heap.size w w' := by
  obtain ⟨a0, a1, a2, a3, A4, a5, a6, rfl, -, -⟩ := hT.form
  unfold tcells at hT ⊢
  obtain ⟨hx0, hx1, hz, hk0⟩ := two_allocs w [.int .i64 a0, .int .i64 a1, .bool a2, .int .i64 a3, .slice A4 a5 a6] [.int .i64 0, .int .u64 0] 42 82
  have s1 := hT.later (hk0.below (Nat.le_refl _) (fun i h => h.elim))
  clear hT
  go_enter Tryd.func19, Tryd.ntmps19
  go_wp2_with fail
  have hC : Cn w.heap.size ((w.alloc (.cells #[.int .i64 a0, .int .i64 a1, .bool a2, .int .i64 a3, .slice A4 a5 a6] 42)).alloc (.cells #[.int .i64 0, .int .u64 0] 82)) (w.heap.size + 1) (.int .i64 0) (.int .u64 0) := ⟨hx1, by rw [hz]; omega, by omega⟩
  refine (tell_counts t _ _ (w.heap.size + 1) _ _ _ s1 hC hn).mono ?_
  rintro e w1 ⟨rfl, c1, k1⟩
  have hb : Below w.heap.size w w1 := (hk0.below (Nat.le_refl _) (fun i h => h.elim)).trans (k1.below hC.base (fun i hi => by omega))
  have y1 := c1.blk.cell 1
  simp only [List.getElem?_cons_zero, List.getElem?_cons_succ] at y1
  clear hx0 hx1 hz hk0 s1 hC c1 k1
  go_wp2
  go_ret
  exact ⟨rfl, hb⟩
end Go.Proofs.YtpimcghmpbbckaaDoor


namespace Go.Proofs.YtpimcghmpbbckaaDoor
set_option linter.unusedVariables false
set_option linter.unusedSimpArgs false
set_option maxRecDepth 100000
open Go.RowKit

namespace Sp
theorem acccs_get (l : List Acc) (i : Nat) (p : Acc) (h : l[i]? = some p) : (acccs l)[i * 3]? = some (.int .i64 p.1) ∧ (acccs l)[i * 3 + 1]? = some (.bool p.2.1) ∧ (acccs l)[i * 3 + 2]? = some (.int .i64 p.2.2) :=
  ⟨flat_get accc 3 (fun _ => rfl) l i 0 p h (by omega), flat_get accc 3 (fun _ => rfl) l i 1 p h (by omega), flat_get accc 3 (fun _ => rfl) l i 2 p h (by omega)⟩
theorem take_snoc_eq {α : Type} {xs ys : List α} {k : Nat} {x y : α} (hx : xs[k]? = some x) (hy : ys[k]? = some y) (ht : xs.take k = ys.take k) (e : x = y) : xs.take (k + 1) = ys.take (k + 1) := by
  have hsn : ∀ (z : α) (l : List α), l[k]? = some z → l.take (k + 1) = l.take k ++ [z] := fun z l h => by
    obtain ⟨h', rfl⟩ := List.getElem?_eq_some_iff.1 h
    exact List.take_succ_eq_append_getElem h'
  rw [hsn _ _ hx, hsn _ _ hy, ht, e]
theorem ne_of_get {α : Type} {xs ys : List α} {k : Nat} {x y : α} (hx : xs[k]? = some x) (hy : ys[k]? = some y) (e : x ≠ y) : xs ≠ ys := by
  rintro rfl
  rw [hx] at hy
  injection hy with hy
  exact e hy
end Sp
end Go.Proofs.YtpimcghmpbbckaaDoor


namespace Go.Proofs.YtpimcghmpbbckaaDoor
set_option linter.unusedVariables false
set_option linter.unusedSimpArgs false
set_option maxRecDepth 100000
open Go.RowKit


set_option maxHeartbeats 2000000 in
theorem equal_pairs (v v' : Value) (xs ys : List (Nat × Nat)) (w : World) (h : SlV w 2 v xs.length (Sp.prcs xs)) (h' : SlV w 2 v' ys.length (Sp.prcs ys)) :
    Calls Tryd.prog 43 #[v, v'] w fun e w' => e = .returned (.bool (decide (xs = ys))) ∧ ∃ m, w' = w.drewN m := by
  obtain ⟨A, c, rfl, hle, hm, hlen, hc⟩ := h
  obtain ⟨A', c', rfl, hle', hm', hlen', hc'⟩ := h'
  clear hlen hlen'
  unfold maxLen at hm hm'
  by_cases hn : xs.length = ys.length
  · have hne : ((xs.length : Int) != ys.length) = false := by simp [hn]
    have HN := Lib.hid hn
    clear hn
    go_enter Tryd.func43, Tryd.ntmps43
    go_wp2
    go_loopw [13] (fun i wr => ∃ k : Nat, k ≤ xs.length ∧ i = .int .i64 k ∧ (∃ a, wr = w.drewN a) ∧ xs.take k = ys.take k) (fun i _ => xs.length - (intOf i).toNat)
    case atStart => exact ⟨0, Nat.zero_le _, rfl, ⟨0, rfl⟩, rfl⟩
    case round =>
      obtain ⟨k, hk, rfl, ⟨a, rfl⟩, ht⟩ := hrel
      have HT := Lib.hid ht
      clear ht
      by_cases hlt : k < xs.length
      · have hlt' : k < ys.length := by rw [← HN.out]; exact hlt
        obtain ⟨⟨x1, x2⟩, hx⟩ : ∃ x, xs[k]? = some x := ⟨_, List.getElem?_eq_getElem hlt⟩
        obtain ⟨⟨y1, y2⟩, hy⟩ : ∃ x, ys[k]? = some x := ⟨_, List.getElem?_eq_getElem hlt'⟩
        obtain ⟨gx1, gx2⟩ := Sp.prcs_get _ _ _ hx
        obtain ⟨gy1, gy2⟩ := Sp.prcs_get _ _ _ hy
        obtain ⟨b, o, rfl, hb, hcc⟩ := hc.at_ (fun e => by rw [e] at gx1; simp at gx1)
        obtain ⟨b', o', rfl, hb', hcc'⟩ := hc'.at_ (fun e => by rw [e] at gy1; simp at gy1)
        have c1 := hcc _ _ gx1
        have c2 := hcc _ _ gx2
        have d1 := hcc' _ _ gy1
        have d2 := hcc' _ _ gy2
        rw [← Nat.add_assoc] at c2 d2
        have HX := Lib.hid hx
        have HY := Lib.hid hy
        clear hc hc' hcc hcc' hx hy gx1 gx2 gy1 gy2
        by_cases e : x1 = y1 ∧ x2 = y2
        · obtain ⟨rfl, rfl⟩ := e
          go_wp2
          go_quiet (fail)
          go_wp2
          go_roundw
          case rel => exact ⟨k + 1, by omega, by go_num, ⟨_, rfl⟩, Sp.take_snoc_eq HX.out HY.out HT.out rfl⟩
          case measure => simp [intOf]; omega
        · have hnl : xs ≠ ys := Sp.ne_of_get HX.out HY.out (fun h => by injection h with h1 h2; exact e ⟨h1, h2⟩)
          have HNL := Lib.hid hnl
          obtain ⟨X1, hX1⟩ : ∃ z : Int, z = x1 := ⟨_, rfl⟩
          obtain ⟨X2, hX2⟩ : ∃ z : Int, z = x2 := ⟨_, rfl⟩
          obtain ⟨Y1, hY1⟩ : ∃ z : Int, z = y1 := ⟨_, rfl⟩
          obtain ⟨Y2, hY2⟩ : ∃ z : Int, z = y2 := ⟨_, rfl⟩
          have he : (X1 == Y1 && X2 == Y2) = false := by
            rw [Bool.eq_false_iff]
            intro h
            simp only [Bool.and_eq_true, beq_iff_eq] at h
            exact e ⟨by omega, by omega⟩
          rw [← hX1] at c1
          rw [← hX2] at c2
          rw [← hY1] at d1
          rw [← hY2] at d2
          clear e hnl hX1 hX2 hY1 hY2
          rcases h1 : X1 == Y1 with _ | _
          · clear he
            go_wp2
            go_quiet (fail)
            go_wp2
            go_ret
            exact ⟨ret_bool (by simp [HNL.out]), ⟨_, World.drewN_drewN _ _ _⟩⟩
          · have h2 : (X2 == Y2) = false := by rw [h1] at he; simpa using he
            clear he
            go_wp2
            go_quiet (fail)
            go_wp2
            go_ret
            exact ⟨ret_bool (by simp [HNL.out]), ⟨_, World.drewN_drewN _ _ _⟩⟩
      · have HK := Lib.hid (show k = xs.length by omega)
        clear hc hc'
        go_wp2
        go_ret
        refine ⟨ret_bool ?_, ⟨_, rfl⟩⟩
        symm
        simp only [decide_eq_true_eq]
        have := HT.out
        rw [HK.out, List.take_length, HN.out, List.take_length] at this
        exact this
  · have hne : ((xs.length : Int) != ys.length) = true := by simp; omega
    have hnl : xs ≠ ys := fun e => hn (by rw [e])
    have HNL := Lib.hid hnl
    clear hnl hc hc'
    go_enter Tryd.func43, Tryd.ntmps43
    go_wp2
    go_ret
    exact ⟨ret_bool (by simp [HNL.out]), ⟨0, rfl⟩⟩

end Go.Proofs.YtpimcghmpbbckaaDoor


namespace Go.Proofs.YtpimcghmpbbckaaDoor
set_option linter.unusedVariables false
set_option linter.unusedSimpArgs false
set_option maxRecDepth 100000
open Go.RowKit

def five : Sp.T := .two false (.two true (.one 1 false 0) (.one 2 false 0)) (.one 3 false 0)
theorem leaf_any (n : Int) (w : World) : Calls Tryd.prog 40 #[.int .i64 n] w fun e w' => e = .returned (.agg #[.int .i64 1, .int .i64 n, .bool false, .int .i64 0, .slice none 0 0]) ∧ Below w.heap.size w w' := by
  go_enter Tryd.func40, Tryd.ntmps40
  have hB0 := Blk.new w 42 [.int .i64 0, .int .i64 0, .bool false, .int .i64 0, .slice none 0 0]
  go_wp2_with (refine wpl_put_blk hB0 [.int .i64 1, .int .i64 n, .bool false, .int .i64 0, .slice none 0 0] (by kernel_rfl) rfl (by intro v hv; simp only [List.mem_cons, List.not_mem_nil, or_false] at hv; rcases hv with rfl | rfl | rfl | rfl | rfl <;> rfl) rfl rfl rfl rfl ?_; intro w2 hB2 hg2)
  have hb : Below w.heap.size w w2 := (below_alloc (Below.refl _ _) _).trans (below_of_grown hg2 (by simp) (Nat.le_refl _))
  exact ret_blk hB2 rfl rfl Tryd.underlying42 rfl (by kernel_rfl) rfl ⟨rfl, hb⟩

end Go.Proofs.YtpimcghmpbbckaaDoor


namespace Go.Proofs.YtpimcghmpbbckaaDoor
set_option linter.unusedVariables false
set_option linter.unusedSimpArgs false
set_option maxRecDepth 100000
open Go.RowKit

theorem five_more : five.leaves.length = 3 ∧ five.before 0 2 = true ∧ five.before 0 1 = false ∧ five.ways = 2 ∧ five.marks 0 0 = [(0, 1), (1, 0), (2, 2)] :=
  ⟨by decide, by decide, by decide, by simp [five, Sp.T.ways, Sp.ch, Sp.T.size, Sp.T.leaves], by decide⟩

set_option maxRecDepth 100000 in
set_option maxHeartbeats 4000000 in
theorem alive4_any (w : World) : Calls Tryd.prog 16 #[] w fun e w' => e = .returned (.bool true) ∧ Below w.heap.size w w' := by
  go_enter Tryd.func16, Tryd.ntmps16
  go_wp2_with fail
  refine (leaf_any 1 _).mono ?_
  rintro e w1 ⟨rfl, hb1⟩
  go_wp2_with fail
  refine (leaf_any 2 _).mono ?_
  rintro e w2 ⟨rfl, hb2⟩
  have k1 := Blk.new w2 42 ([.int .i64 1, .int .i64 1, .bool false, .int .i64 0, .slice none 0 0] ++ [.int .i64 1, .int .i64 2, .bool false, .int .i64 0, .slice none 0 0])
  have hb12 : Below w.heap.size w w2 := (by repeat (first | exact Below.refl _ _ | assumption | apply below_alloc | apply below_drew | (apply below_next; assumption)))
  go_wp2_with fail
  refine (leaf_any 3 _).mono ?_
  rintro e w3 ⟨rfl, hb3⟩
  have k1' := k1.below (w' := w3) (by simpa using hb3)
  have hb13 : Below w.heap.size w w3 := below_next hb3 (below_alloc hb12 _)
  have hlt1 := k1'.lt
  obtain ⟨P, hP⟩ : ∃ P, P = w2.heap.size := ⟨_, rfl⟩
  rw [← hP] at k1' hlt1 ⊢
  clear hb3 hb12 hb2 hb1 k1 hP
  obtain ⟨hx0, hx1, hz, hk0⟩ := two_allocs w3 ([.int .i64 3, .int .i64 0, .bool false, .int .i64 0, .slice (some ⟨P, 0, none⟩) 2 2] ++ [.int .i64 1, .int .i64 3, .bool false, .int .i64 0, .slice none 0 0]) [.int .i64 2, .int .i64 0, .bool false, .int .i64 0, .slice (some ⟨w3.heap.size, 0, none⟩) 2 2] 42 42
  have k1'' := k1'.keeps hk0 (fun h => h)
  have hbW := hb13.trans (hk0.below hb13.size (fun i h => h.elim))
  simp only [List.cons_append, List.nil_append] at hx0 hx1 hz hk0 k1'' hbW
  go_wp2_with fail
  obtain ⟨qs, hqs⟩ : ∃ q, q = w3.heap.size := ⟨_, rfl⟩
  generalize ((w3.alloc (.cells [Value.int .i64 3, .int .i64 0, .bool false, .int .i64 0, .slice (some ⟨P, 0, none⟩) 2 2, .int .i64 1, .int .i64 3, .bool false, .int .i64 0, .slice none 0 0].toArray 42)).alloc (.cells [Value.int .i64 2, .int .i64 0, .bool false, .int .i64 0, .slice (some ⟨w3.heap.size, 0, none⟩) 2 2].toArray 42)) = W at hx0 hx1 hz hk0 k1'' hbW ⊢
  rw [← hqs] at hx0 hx1 hz ⊢
  clear hqs hk0 k1' hb13 hlt1
  have k1W : Blk W P 42 ([.int .i64 1, .int .i64 1, .bool false, .int .i64 0, .slice none 0 0] ++ [.int .i64 1, .int .i64 2, .bool false, .int .i64 0, .slice none 0 0]) := k1''
  have k2W : Blk W qs 42 ([.int .i64 3, .int .i64 0, .bool false, .int .i64 0, .slice (some ⟨P, 0, none⟩) 2 2] ++ [.int .i64 1, .int .i64 3, .bool false, .int .i64 0, .slice none 0 0]) := hx0
  have lf : ∀ n : Int, TmR W.heap.size W [.int .i64 1, .int .i64 n, .bool false, .int .i64 0, .slice none 0 0] (.one n false 0) := fun n => .one n false 0 none 0 0 (Nat.le_refl _) (Nat.zero_le _)
  have rp : TmR W.heap.size W (tcells 3 0 false 0 (some ⟨P, 0, none⟩) 2 2) (.two true (.one 1 false 0) (.one 2 false 0)) := TmR.made true k1W rfl k1W.lt (lf 1) (lf 2)
  have rt : TmR W.heap.size W [.int .i64 2, .int .i64 0, .bool false, .int .i64 0, .slice (some ⟨qs, 0, none⟩) 2 2] five := TmR.made false k2W rfl k2W.lt rp (lf 3)
  have look : ∀ w', Below W.heap.size W w' → (w'.cell? ⟨qs + 1, 0, none⟩ = some (.int .i64 2) ∧ w'.cell? ⟨qs + 1, 1, none⟩ = some (.int .i64 0) ∧ w'.cell? ⟨qs + 1, 2, none⟩ = some (.bool false) ∧ w'.cell? ⟨qs + 1, 3, none⟩ = some (.int .i64 0) ∧ w'.cell? ⟨qs + 1, 4, none⟩ = some (.slice (some ⟨qs, 0, none⟩) 2 2)) ∧ TmR w'.heap.size w' [.int .i64 2, .int .i64 0, .bool false, .int .i64 0, .slice (some ⟨qs, 0, none⟩) 2 2] five := fun w' hb =>
    ⟨⟨by rw [(hx1.below hb).cell]; rfl, by rw [(hx1.below hb).cell]; rfl, by rw [(hx1.below hb).cell]; rfl, by rw [(hx1.below hb).cell]; rfl, by rw [(hx1.below hb).cell]; rfl⟩, (rt.later hb).keep hb.size (fun _ _ => rfl)⟩
  obtain ⟨m1, m2, m3, m4, m5⟩ := five_more
  have f1 := fun w' hT => leaves_any w' [.int .i64 2, .int .i64 0, .bool false, .int .i64 0, .slice (some ⟨qs, 0, none⟩) 2 2] five hT (by decide)
  have f2 := fun w' i j hT => before_any w' [.int .i64 2, .int .i64 0, .bool false, .int .i64 0, .slice (some ⟨qs, 0, none⟩) 2 2] five i j hT (by decide)
  have f3 := fun w' hT => count_any w' [.int .i64 2, .int .i64 0, .bool false, .int .i64 0, .slice (some ⟨qs, 0, none⟩) 2 2] five hT (by decide)
  have f4 := fun w' hT => marks_any w' [.int .i64 2, .int .i64 0, .bool false, .int .i64 0, .slice (some ⟨qs, 0, none⟩) 2 2] five hT (by decide)
  rw [show five.size = 3 from m1] at f1 f4
  rw [m4] at f3
  rw [m5] at f4
  have F1 := Lib.hid f1
  have F2 := Lib.hid f2
  have F3 := Lib.hid f3
  have F4 := Lib.hid f4
  have M2 := Lib.hid m2
  have M3 := Lib.hid m3
  have L := Lib.hid look
  clear f1 f2 f3 f4 m1 m2 m3 m4 m5 lf rp rt k1W k2W k1'' hx0 hx1 look
  refine (F1.out _ (L.out _ (Below.refl _ _)).2).mono ?_
  rintro e w4 ⟨v4, rfl, ⟨A4, c4, rfl, hle4, hm4, -, -⟩, hb4⟩
  unfold maxLen at hm4
  obtain ⟨⟨d0, d1, d2, d3, d4⟩, hT⟩ := L.out _ hb4
  go_wp2_with fail
  refine (F2.out _ _ _ hT).mono ?_
  rintro e w5 ⟨rfl, hb5⟩
  rw [M2.out]
  have hb45 := below_next hb5 hb4
  clear d0 d1 d2 d3 d4 hT hb5 hb4
  obtain ⟨⟨d0, d1, d2, d3, d4⟩, hT⟩ := L.out _ hb45
  go_wp2_with fail
  refine (F2.out _ _ _ hT).mono ?_
  rintro e w6 ⟨rfl, hb6⟩
  rw [M3.out]
  have hb46 := below_next hb6 hb45
  clear d0 d1 d2 d3 d4 hT hb6 hb45
  obtain ⟨⟨d0, d1, d2, d3, d4⟩, hT⟩ := L.out _ hb46
  go_wp2_with fail
  refine (F3.out _ hT).mono ?_
  rintro e w7 ⟨rfl, hb7⟩
  rw [show Sp.u64 2 = 2 from rfl]
  have hb47 := below_next hb7 hb46
  clear d0 d1 d2 d3 d4 hT hb7 hb46
  obtain ⟨⟨d0, d1, d2, d3, d4⟩, hT⟩ := L.out _ hb47
  go_wp2_with fail
  refine (F4.out _ hT).mono ?_
  rintro e w8 ⟨h, rfl, hrow, -, hb8⟩
  have hb48 := below_next hb8 hb47
  clear d0 d1 d2 d3 d4 hT hb8 hb47
  have s1 := SlV.of_blk (sz := 2) (n := 3) (hrow.alloc (.cells #[.int .i64 0, .int .i64 1, .int .i64 1, .int .i64 0, .int .i64 2, .int .i64 2] 78)) rfl (by omega)
  have s2 := SlV.lit w8 (Sp.prcs [(0, 1), (1, 0), (2, 2)]) 78 2 3 rfl (by omega)
  have hbe : Below w.heap.size w (w8.alloc (.cells #[.int .i64 0, .int .i64 1, .int .i64 1, .int .i64 0, .int .i64 2, .int .i64 2] 78)) := below_alloc (below_self hbW hb48) _
  clear hrow hb48 hbW
  go_wp2_with fail
  refine (equal_pairs _ _ [(0, 1), (1, 0), (2, 2)] [(0, 1), (1, 0), (2, 2)] _ s1 s2).mono ?_
  rintro e w9 ⟨rfl, m9, rfl⟩
  clear s1 s2
  go_wp2
  go_ret
  exact ⟨rfl, below_drewN hbe _⟩
end Go.Proofs.YtpimcghmpbbckaaDoor


namespace Go.Proofs.YtpimcghmpbbckaaDoor
set_option linter.unusedVariables false
set_option linter.unusedSimpArgs false
set_option maxRecDepth 100000
open Go.RowKit

/-- a cell and a slot are the results -/
theorem results_cell_tmp {P : Go.Program} {fn : Func} {p u : Tmp} {ty : TypeId} (h : fn.results = #[.cell p ty, .tmp u]) (tmps : Array Value) (w : World) (g : Nat) (t : TypeId) (cs : Array Value) (fr : Nat × Nat) (d : TypeDesc)
    (hp : tmps.getD p undef = .pointer (some ⟨g, 0, none⟩)) (hg : w.heap[g]? = some (.cells cs t fr))
    (hu : P.underlying ty = some d) (hd : (match d with | .struct _ | .array _ _ => true | _ => false) = true) (hi : (P.info? ty).map (·.size) = some cs.size) :
    (results fn tmps).run P w = .ok (.tuple #[.agg cs, tmps.getD u undef]) w := by
  have hp' : tmps[p]?.getD undef = .pointer (some ⟨g, 0, none⟩) := by simpa using hp
  simp [results, h, hp', asAddr, run_loadVar_row w g t ty cs fr d hg hu hd hi]
theorem ret_blk2 {P : Go.Program} {fn : Func} {R : Ending → World → Prop} {a : Act} {w : World} {p u : Tmp} {ty : TypeId} {g : Nat} {t : TypeId} {cs : List Value} (hB : Blk w g t cs) (hr : fn.results = #[.cell p ty, .tmp u]) (hp : a.tmps.getD p undef = .pointer (some ⟨g, 0, none⟩)) {d : TypeDesc}
    (hu : P.underlying ty = some d) (hd : (match d with | .struct _ | .array _ _ => true | _ => false) = true) (hi : (P.info? ty).map (·.size) = some cs.length) (hdf : a.defers = []) (hR : R (.returned (.tuple #[.agg cs.toArray, a.tmps.getD u undef])) w) : bodyPost P fn R .ret a w :=
  bodyPost_ret (results_cell_tmp hr _ _ g t cs.toArray (0, 0) d hp hB hu hd (by simpa using hi)) hdf hR
/-- a graph, as it comes back -/
def IsG (N : Nat) (es : List Gr.Ed) (v : Value) (w : World) : Prop := ∃ u, v = .agg #[.int .i64 (N : Int), u] ∧ SlV w 2 u es.length (edcs es)
theorem IsG.below {N : Nat} {es : List Gr.Ed} {v : Value} {w w' : World} (h : IsG N es v w) (hb : Below w.heap.size w w') : IsG N es v w' := by
  obtain ⟨u, h1, h2⟩ := h
  exact ⟨u, h1, h2.below hb⟩
def FG (B : Nat) (N : Nat) (es : List Gr.Ed) : Fact (fun w w' => Below w.heap.size w w') := ⟨fun v w => ∃ u, v = .agg #[.int .i64 (N : Int), u] ∧ SlV w 2 u es.length (edcs es) ∧ New B u, fun _ _ _ ⟨u, h1, h2, h3⟩ k => ⟨u, h1, h2.below k, h3⟩⟩
def FSlE (B : Nat) (es : List Gr.Ed) : Fact (fun w w' => Below w.heap.size w w') := ⟨fun v w => SlV w 2 v es.length (edcs es) ∧ New B v, fun _ _ _ h k => ⟨h.1.below k, h.2⟩⟩

theorem SlV.form {w : World} {sz n : Nat} {v : Value} {xs : List Value} (h : SlV w sz v n xs) : ∃ A c, v = .slice A n c := by
  obtain ⟨A, c, e, -⟩ := h
  exact ⟨A, c, e⟩

/-- numbers are not turned when a block of no numbers is -/
theorem SlV.other {w w' : World} {sz n g : Nat} {v : Value} {xs : List Value} (h : SlV w sz v n xs) (k : Keeps (fun k => k = g) w w') (hg : ∀ p, ptr v = some p → xs ≠ [] → p.block ≠ g) : SlV w' sz v n xs := by
  obtain ⟨A, c, rfl, h1, h2, h3, b, o, h4, h5⟩ := h
  refine ⟨A, c, rfl, h1, h2, h3, b, o, fun hn => ⟨(h4 hn).1, Nat.lt_of_lt_of_le (h4 hn).2 k.size⟩, fun j u hu => ?_⟩
  have hn : xs ≠ [] := fun e => by rw [e] at hu; simp at hu
  obtain ⟨hA, hb⟩ := h4 hn
  exact (World.cell?_of_block (a := ⟨b, o + j, none⟩) (k.block b hb (hg _ (by rw [hA]; rfl) hn))).trans (h5 j u hu)
end Go.Proofs.YtpimcghmpbbckaaDoor


namespace Go.Proofs.YtpimcghmpbbckaaDoor
set_option linter.unusedVariables false
set_option linter.unusedSimpArgs false
set_option maxRecDepth 100000
open Go.RowKit

def gRow (v : Value) (es : List Gr.Ed) : List Rw := [⟨34, 2, v, es.length, edcs es⟩]
theorem info_edge3 : (Tryd.prog.info? 34).map (fun i => (i.zero, i.size, i.bytes)) = some (some (.agg #[.int .i64 0, .int .i64 0]), 2, 16) := by kernel_rfl

set_option maxRecDepth 100000 in
set_option maxHeartbeats 4000000 in
theorem spgraph_yes (w : World) (cs : List Value) (t : Sp.T) (hT : TmR w.heap.size w cs t) (hn : t.size ≤ 200) :
    Calls Tryd.prog 17 #[.agg cs.toArray] w fun e w' => ∃ A c, e = .returned (.tuple #[.agg #[.int .i64 (t.size : Int), .slice A (Gr.gE t.rk t.size).length c], .int .i64 0]) ∧ SlV w' 2 (.slice A (Gr.gE t.rk t.size).length c) (Gr.gE t.rk t.size).length (edcs (Gr.gE t.rk t.size)) ∧ Below w.heap.size w w' := by
  obtain ⟨a0, a1, a2, a3, A4, a5, a6, rfl, -, -⟩ := hT.form
  unfold tcells at hT ⊢
  have hba : Below w.heap.size w ((w.alloc (.cells #[.int .i64 a0, .int .i64 a1, .bool a2, .int .i64 a3, .slice A4 a5 a6] 42)).alloc (.cells #[.int .i64 0, .slice none 0 0] 24)) := below_alloc (below_alloc (Below.refl _ _) _) _
  have x0 := (Blk.new w 42 [.int .i64 a0, .int .i64 a1, .bool a2, .int .i64 a3, .slice A4 a5 a6]).alloc (.cells #[.int .i64 0, .slice none 0 0] 24)
  have y0 := Blk.new (w.alloc (.cells #[.int .i64 a0, .int .i64 a1, .bool a2, .int .i64 a3, .slice A4 a5 a6] 42)) 24 [.int .i64 0, .slice none 0 0]
  simp only [World.size_alloc] at y0
  obtain ⟨n, hnt⟩ : ∃ n, n = t.size := ⟨_, rfl⟩
  have hm := fun w' (hb : Below w.heap.size w w') => marks_any w' _ t (tm_up (hT.later hb) hb.size) (by omega)
  rw [← hnt] at hn hm ⊢
  have HN := Lib.hid hnt
  clear hT hnt
  go_enter Tryd.func17, Tryd.ntmps17
  go_upto_region 1 with (fail)
  generalize (w.alloc (.cells #[.int .i64 a0, .int .i64 a1, .bool a2, .int .i64 a3, .slice A4 a5 a6] 42)).alloc (.cells #[.int .i64 0, .slice none 0 0] 24) = W0 at x0 y0 hba ⊢
  have d0 : W0.cell? ⟨w.heap.size, 0, none⟩ = some (.int .i64 a0) := (x0.cell 0).trans rfl
  have d1 : W0.cell? ⟨w.heap.size, 1, none⟩ = some (.int .i64 a1) := (x0.cell 1).trans rfl
  have d2 : W0.cell? ⟨w.heap.size, 2, none⟩ = some (.bool a2) := (x0.cell 2).trans rfl
  have d3 : W0.cell? ⟨w.heap.size, 3, none⟩ = some (.int .i64 a3) := (x0.cell 3).trans rfl
  have d4 : W0.cell? ⟨w.heap.size, 4, none⟩ = some (.slice A4 a5 a6) := (x0.cell 4).trans rfl
  go_wp2_with fail
  refine (hm W0 hba).mono ?_
  rintro e w1 ⟨h, rfl, hB1, hh, hb1⟩
  have y1 := y0.below hb1
  have hb01 := below_next hb1 hba
  clear d0 d1 d2 d3 d4 x0 y0 hm hb1 hba
  have hg200 : decide ((200 : Int) < (n : Int)) = false := by simp; omega
  have p5 := Blk.new w1 24 [.int .i64 (n : Int), .slice none 0 0]
  have hb5 : Below w1.heap.size w1 (w1.alloc (.cells #[.int .i64 (n : Int), .slice none 0 0] 24)) := below_alloc (Below.refl _ _) _
  go_upto_region 5 with (fail)
  obtain ⟨pg, hpg⟩ : ∃ p, p = w1.heap.size := ⟨_, rfl⟩
  simp only [← hpg] at p5 ⊢
  generalize w1.alloc (.cells #[.int .i64 (n : Int), .slice none 0 0] 24) = w2 at p5 hb5 ⊢
  have y2 := y1.below hb5
  have hB2 := hB1.below hb5
  have hb02 := below_next hb5 hb01
  have hp2 := p5.lt
  have hhp : h < pg := by have := hB1.lt; omega
  have hy1 : w.heap.size + 1 < w1.heap.size := y1.lt
  have hO : Own (w.heap.size + 2) w2 pg 24 [.int .i64 (n : Int), .slice none 0 0] (gRow (.slice none 0 0) []) := by
    refine ⟨p5, fun r hr => ?_, fun i j r s hi hj hij => ?_, fun r hr => ?_, by omega, by omega⟩
    · rw [List.mem_singleton.1 hr]; exact World.ownsRow_nil _ _ _ _
    · intro k hk
      have := List.mem_of_getElem? hi
      rw [List.mem_singleton.1 this] at hk
      simp [Value.ownBlock] at hk
    · rw [List.mem_singleton.1 hr]; simp [Value.ownBlock]
  have hOT := OwnTo.start hO
  obtain ⟨T0, hT0⟩ : ∃ T, T = Tw pg (gRow (.slice none 0 0) []) := ⟨_, rfl⟩
  have hTe : Hid (∀ k, T0 k → k = pg) := Lib.hid fun k hk => by
    rw [hT0] at hk
    rcases hk with rfl | ⟨r, hr, hk⟩
    · rfl
    · rw [List.mem_singleton.1 hr] at hk; simp [Value.ownBlock] at hk
  rw [← hT0] at hOT
  have HB := Lib.hid (And.intro y2 (And.intro hB2 hb02))
  have HPG := Lib.hid (And.intro hpg (And.intro hhp hy1))
  clear hT0 hO hg200 y1 hB1 hb01 hb5 hp2 hh y2 hB2 hb02 p5 hpg hhp hy1
  go_wp2_with fail
  go_loopw [21] (fun i wr => ∃ (k : Nat) (v : Value), k ≤ n ∧ i = .int .i64 (k : Int) ∧ OwnTo (w.heap.size + 2) w2 T0 wr pg 24 [.int .i64 (n : Int), v] (gRow v (Gr.gEk t.rk n k))) (fun i _ => n - (intOf i).toNat)
  case atStart => exact ⟨0, _, Nat.zero_le _, rfl, hOT⟩
  case round =>
    obtain ⟨k, v, hk, rfl, hOk⟩ := hrel
    by_cases hlt : k < n
    · have hBr := HB.out.2.1.keeps hOk.kp (fun e => by have := hTe.out _ e; have := HPG.out.2.1; omega)
      have hgk := Sp.T.marks_get t 0 0 k (by rw [← HN.out]; exact hlt)
      rw [Nat.zero_add, Nat.zero_add] at hgk
      obtain ⟨c0, c1⟩ := Sp.prcs_get _ _ _ hgk
      have d0 : wr.cell? ⟨h, k * 2, none⟩ = some (.int .i64 (k : Int)) := (hBr.cell _).trans c0
      have d1 : wr.cell? ⟨h, k * 2 + 1, none⟩ = some (.int .i64 (t.rk k : Int)) := (hBr.cell _).trans c1
      obtain ⟨F, hF⟩ : ∃ F, F = t.rk := ⟨_, rfl⟩
      rw [← hF] at d1 hOk
      have HF := Lib.hid hF
      have pa := Blk.new wr 78 [.int .i64 (k : Int), .int .i64 (F k : Int)]
      have hO3 := hOk.later (below_alloc (Below.refl _ _) (.cells #[.int .i64 (k : Int), .int .i64 (F k : Int)] 78))
      obtain ⟨AA, hAA, hAr⟩ : ∃ a : Addr, (if n = k + 1 then (some ⟨h, 0, none⟩ : Option Addr) else some ⟨h, (k + 1) * 2, none⟩) = some a ∧ Hid (k + 1 < n → a = ⟨h, (k + 1) * 2, none⟩) := by
        by_cases e : n = k + 1
        · exact ⟨⟨h, 0, none⟩, by simp [e], Lib.hid fun h => by omega⟩
        · exact ⟨⟨h, (k + 1) * 2, none⟩, by simp [e], Lib.hid fun _ => rfl⟩
      clear hOk hgk c0 c1 hF hBr hOT
      have hk1 : k + 1 ≤ n := hlt
      go_upto_region 8 with (fail)
      obtain ⟨qa, hqa⟩ : ∃ q, q = wr.heap.size := ⟨_, rfl⟩
      rw [← hqa] at pa ⊢
      generalize wr.alloc (.cells #[.int .i64 (k : Int), .int .i64 (F k : Int)] 78) = w3 at pa hO3 ⊢
      clear d0 d1 hqa
      go_wp2_with fail
      clear hAA
      go_loopw [31] (fun i wr => ∃ (j : Nat) (v : Value), j ≤ n - (k + 1) ∧ i = .int .i64 (j : Int) ∧ OwnTo (w.heap.size + 2) w2 T0 wr pg 24 [.int .i64 (n : Int), v] (gRow v (Gr.gEk F n k ++ Gr.rowJ F k j)) ∧ Blk wr qa 78 [.int .i64 (k : Int), .int .i64 (F k : Int)]) (fun i _ => n - (intOf i).toNat)
      case atStart => exact ⟨0, v, Nat.zero_le _, rfl, by rw [Gr.rowJ_zero, List.append_nil]; exact hO3, pa⟩
      case round =>
        clear hO3 pa
        obtain ⟨j, v, hj, rfl, hOj, pa⟩ := hrel
        by_cases hjl : j < n - (k + 1)
        · obtain rfl := hAr.out (by omega)
          have hBr := HB.out.2.1.keeps hOj.kp (fun e => by have := hTe.out _ e; have := HPG.out.2.1; omega)
          obtain ⟨m, hm⟩ : ∃ m, m = k + 1 + j := ⟨_, rfl⟩
          have hgk := Sp.T.marks_get t 0 0 m (by rw [← HN.out]; omega)
          rw [Nat.zero_add, Nat.zero_add, ← HF.out] at hgk
          obtain ⟨c0, c1⟩ := Sp.prcs_get _ _ _ hgk
          have d0 : wr.cell? ⟨h, (k + 1) * 2 + j * 2, none⟩ = some (.int .i64 (m : Int)) := by rw [show (k + 1) * 2 + j * 2 = m * 2 by omega]; exact (hBr.cell _).trans c0
          have d1 : wr.cell? ⟨h, (k + 1) * 2 + j * 2 + 1, none⟩ = some (.int .i64 (F m : Int)) := by rw [show (k + 1) * 2 + j * 2 + 1 = m * 2 + 1 by omega]; exact (hBr.cell _).trans c1
          have pb := Blk.new wr 78 [.int .i64 (m : Int), .int .i64 (F m : Int)]
          have hO4 := hOj.later (below_alloc (Below.refl _ _) (.cells #[.int .i64 (m : Int), .int .i64 (F m : Int)] 78))
          have pa4 := pa.alloc (.cells #[.int .i64 (m : Int), .int .i64 (F m : Int)] 78)
          have HM := Lib.hid hm
          clear hOj hgk c0 c1 hBr pa hm
          go_upto_region 11 with (fail)
          obtain ⟨qb, hqb⟩ : ∃ q, q = wr.heap.size := ⟨_, rfl⟩
          rw [← hqb] at pb ⊢
          generalize wr.alloc (.cells #[.int .i64 (m : Int), .int .i64 (F m : Int)] 78) = w5 at pb hO4 pa4 ⊢
          clear d0 d1 hqb
          have e0 : w5.cell? ⟨qa, 1, none⟩ = some (.int .i64 (F k : Int)) := (pa4.cell 1).trans rfl
          have e1 : w5.cell? ⟨qb, 1, none⟩ = some (.int .i64 (F m : Int)) := (pb.cell 1).trans rfl
          clear pb
          by_cases hc : F k < F m
          · have hcb : decide ((F k : Int) < (F m : Int)) = true := by simpa using hc
            have hy := Gr.rowJ_yes (f := F) (i := k) (j := j) (by rw [← HM.out]; exact hc)
            have hrow : w5.ownsRow (w.heap.size + 2) 34 2 v (Gr.gEk F n k ++ Gr.rowJ F k j).length (edcs (Gr.gEk F n k ++ Gr.rowJ F k j)) := hO4.own.row 0 rfl
            obtain ⟨VA, vc, rfl, -, -⟩ := own_slice hrow
            have hbp := hO4.own.blk
            have f1 : w5.cell? ⟨pg, 1, none⟩ = some (.slice VA (Gr.gEk F n k ++ Gr.rowJ F k j).length vc) := (hbp.cell 1).trans rfl
            have hlen : (Gr.gEk F n k ++ Gr.rowJ F k j).length ≤ 80000 := by
              rw [List.length_append]
              have := Gr.gEk_len F n k
              have := Gr.rowJ_len F k j
              have := Nat.mul_le_mul (show k ≤ 200 by omega) hn
              omega
            obtain ⟨es, hes⟩ : ∃ es, es = Gr.gEk F n k ++ Gr.rowJ F k j := ⟨_, rfl⟩
            rw [← hes] at hrow hbp f1 hlen hO4
            have hy' : edcs (Gr.gEk F n k ++ Gr.rowJ F k (j + 1)) = edcs es ++ [.int .i64 (k : Int), .int .i64 ((k : Int) + 1 + (j : Int))] ∧ (Gr.gEk F n k ++ Gr.rowJ F k (j + 1)).length = es.length + 1 := by
              rw [hy, ← List.append_assoc, ← hes, List.length_append]
              refine ⟨?_, rfl⟩
              simp only [edcs, List.flatMap_append, List.flatMap_cons, List.flatMap_nil, List.append_nil, edc]
              congr 4
            have HES := Lib.hid (And.intro hes (And.intro hy' hO4))
            have n63 : es.length + 1 ≤ maxLen := by unfold maxLen; omega
            have n47 : (es.length + 1) * 16 ≤ 140737488355328 := by omega
            have hbase := hO4.own.base
            have hvne : (Value.slice VA es.length vc).ownBlock ≠ some pg := hO4.own.ng _ (List.mem_singleton.2 rfl)
            clear hes hy hy' hO4 hlen
            go_wp2_with (first | (at_builtin; (refine wp_push w5 _ _ _ _ _ _ _ _ Tryd.underlying22 info_edge3 rfl (by decide) hrow [.int .i64 (k : Int), .int .i64 ((k : Int) + 1 + (j : Int))] rfl (by simp [Value.oneCell']) n63 n47 hbase rfl rfl rfl rfl ?_); intro v' w6 hown' hgrow hnew _; have hbp6 := hbp.grown hgrow (fun e => hvne e.symm); obtain ⟨A', c', rfl, hle', hm'⟩ := own_slice hown'; have g1 := hbp6.cell 1; have fz := hbp6.frozen 1; simp only [List.getElem?_cons_zero, List.getElem?_cons_succ] at g1) | fail)
            have hput : OwnTo (w.heap.size + 2) w2 T0 (w6.setCell ⟨pg, 1, none⟩ (.slice A' (es.length + 1) c')) pg 24 [.int .i64 (n : Int), .slice A' (es.length + 1) c'] (gRow (.slice A' (es.length + 1) c') (Gr.gEk F n k ++ Gr.rowJ F k (j + 1))) := by
              have h1 : w6.ownsRow (w.heap.size + 2) 34 2 (.slice A' (es.length + 1) c') (Gr.gEk F n k ++ Gr.rowJ F k (j + 1)).length (edcs (Gr.gEk F n k ++ Gr.rowJ F k (j + 1))) := by
                rw [HES.out.2.1.1, HES.out.2.1.2]; exact hown'
              have h2 := HES.out.2.2.step (HES.out.2.2.own.put_to (i := 0) rfl (v' := .slice A' (es.length + 1) c') h1 hgrow (hnew.imp id fun e => ⟨_, by simp, e⟩) (hbp6.set_ 1 (.slice A' (es.length + 1) c')) (grown_setCell w6 pg 1 _))
              exact h2
            have hqn : Blk (w6.setCell ⟨pg, 1, none⟩ (.slice A' (es.length + 1) c')) qa 78 [.int .i64 (k : Int), .int .i64 (F k : Int)] := by
              have h1 := pa4.grown hgrow (fun e => own_blk_ne hrow pa4 (by decide) e.symm)
              refine h1.far (fun e => ?_) _
              have e' : qa = pg := e
              rw [e'] at h1
              have h2 : Blk w6 pg 24 _ := hbp6
              unfold Blk at h1 h2
              rw [h1] at h2
              injection h2 with h2
              injection h2 with _ h2
              revert h2
              decide
            have HO := Lib.hid (And.intro hput hqn)
            clear hput hqn hown' hgrow hnew hbp6 hbp hrow g1 fz
            go_roundw
            case rel => exact ⟨j + 1, _, by omega, by go_num, HO.out.1, HO.out.2⟩
            case measure => simp [intOf]; omega
          · have hcb : decide (F k < F m) = false := by simpa using hc
            have hy := Gr.rowJ_no (f := F) (i := k) (j := j) (by rw [← HM.out]; exact hc)
            rw [← hy] at hO4
            have HO := Lib.hid (And.intro hO4 pa4)
            clear hO4 pa4 hy hc
            go_wp2_with fail
            go_roundw
            case rel => exact ⟨j + 1, v, by omega, by go_num, HO.out.1, HO.out.2⟩
            case measure => simp [intOf]; omega
        · obtain rfl : j = n - (k + 1) := by omega
          rw [← Gr.gEk_succ] at hOj
          have HO := Lib.hid hOj
          clear hOj pa
          rw [HF.out] at HO
          go_wp2_with fail
          go_roundw
          case rel => exact ⟨k + 1, v, by omega, by go_num, HO.out⟩
          case measure => simp [intOf]; omega
    · obtain rfl : k = n := by omega
      have hrow : wr.ownsRow (w.heap.size + 2) 34 2 v (Gr.gEk t.rk k k).length (edcs (Gr.gEk t.rk k k)) := hOk.own.row 0 rfl
      obtain ⟨VA, vc, rfl, -, -⟩ := own_slice hrow
      have c0 : wr.cell? ⟨pg, 0, none⟩ = some (.int .i64 (k : Int)) := (hOk.own.blk.cell 0).trans rfl
      have c1 : wr.cell? ⟨pg, 1, none⟩ = some (.slice VA (Gr.gEk t.rk k k).length vc) := (hOk.own.blk.cell 1).trans rfl
      have yB := HB.out.1.keeps hOk.kp (fun e => by have := hTe.out _ e; have := HPG.out; omega)
      have hbw : Below w.heap.size w wr := HB.out.2.2.trans (hOk.kp.below HB.out.2.2.size (fun i hi => by have := hTe.out _ hi; have := HPG.out; omega))
      obtain ⟨ln, hln⟩ : ∃ l, l = (Gr.gEk t.rk k k).length := ⟨_, rfl⟩
      rw [← hln] at hrow c1
      have HX := Lib.hid (And.intro hrow (And.intro hbw hln))
      have hlq : w.heap.size + 1 < wr.heap.size := yB.lt
      clear hrow hbw hln hOk hOT
      go_wp2_with (refine wpl_put_blk yB [.int .i64 (k : Int), .slice VA ln vc] (by kernel_rfl) rfl (by intro v hv; simp at hv; rcases hv with rfl | rfl <;> rfl) rfl rfl rfl rfl ?_; intro w6 hB6 hg6)
      have hb6 := HX.out.2.1.trans (below_of_grown hg6 HX.out.2.1.size (by omega))
      have s6 := SlV.of_own (own_keeps HX.out.1 (Keeps.of_grown hg6) (fun i hi e => own_blk_ne HX.out.1 yB (by decide) (by rw [hi]; exact e)))
      have e := HX.out.2.2
      subst e
      refine ret_blk2 hB6 rfl rfl Tryd.underlying24 rfl (by kernel_rfl) rfl ?_
      exact ⟨VA, vc, rfl, s6, hb6⟩
end Go.Proofs.YtpimcghmpbbckaaDoor


namespace Go.Proofs.YtpimcghmpbbckaaDoor
set_option linter.unusedVariables false
set_option linter.unusedSimpArgs false
set_option maxRecDepth 100000
open Go.RowKit

set_option maxRecDepth 100000 in
set_option maxHeartbeats 4000000 in
theorem spgraph_no (w : World) (cs : List Value) (t : Sp.T) (hT : TmR w.heap.size w cs t) (hn : t.size ≤ 4194304) (hbig : 200 < t.size) :
    Calls Tryd.prog 17 #[.agg cs.toArray] w fun e w' => e = .returned (.tuple #[.agg #[.int .i64 0, .slice none 0 0], .int .i64 2]) ∧ Below w.heap.size w w' := by
  obtain ⟨a0, a1, a2, a3, A4, a5, a6, rfl, -, -⟩ := hT.form
  unfold tcells at hT ⊢
  have hba : Below w.heap.size w ((w.alloc (.cells #[.int .i64 a0, .int .i64 a1, .bool a2, .int .i64 a3, .slice A4 a5 a6] 42)).alloc (.cells #[.int .i64 0, .slice none 0 0] 24)) := below_alloc (below_alloc (Below.refl _ _) _) _
  have x0 := (Blk.new w 42 [.int .i64 a0, .int .i64 a1, .bool a2, .int .i64 a3, .slice A4 a5 a6]).alloc (.cells #[.int .i64 0, .slice none 0 0] 24)
  have y0 := Blk.new (w.alloc (.cells #[.int .i64 a0, .int .i64 a1, .bool a2, .int .i64 a3, .slice A4 a5 a6] 42)) 24 [.int .i64 0, .slice none 0 0]
  simp only [World.size_alloc] at y0
  have hm := fun w' (hb : Below w.heap.size w w') => marks_any w' _ t (tm_up (hT.later hb) hb.size) hn
  obtain ⟨n, hnt⟩ : ∃ n, n = t.size := ⟨_, rfl⟩
  rw [← hnt] at hm hbig
  clear hT hnt
  go_enter Tryd.func17, Tryd.ntmps17
  go_upto_region 1 with (fail)
  generalize (w.alloc (.cells #[.int .i64 a0, .int .i64 a1, .bool a2, .int .i64 a3, .slice A4 a5 a6] 42)).alloc (.cells #[.int .i64 0, .slice none 0 0] 24) = W0 at x0 y0 hba ⊢
  have d0 : W0.cell? ⟨w.heap.size, 0, none⟩ = some (.int .i64 a0) := (x0.cell 0).trans rfl
  have d1 : W0.cell? ⟨w.heap.size, 1, none⟩ = some (.int .i64 a1) := (x0.cell 1).trans rfl
  have d2 : W0.cell? ⟨w.heap.size, 2, none⟩ = some (.bool a2) := (x0.cell 2).trans rfl
  have d3 : W0.cell? ⟨w.heap.size, 3, none⟩ = some (.int .i64 a3) := (x0.cell 3).trans rfl
  have d4 : W0.cell? ⟨w.heap.size, 4, none⟩ = some (.slice A4 a5 a6) := (x0.cell 4).trans rfl
  go_wp2_with fail
  refine (hm W0 hba).mono ?_
  rintro e w1 ⟨h, rfl, hB1, hh, hb1⟩
  have y1 := y0.below hb1
  have hb01 := below_next hb1 hba
  clear d0 d1 d2 d3 d4 x0 y0 hm hb1 hba hB1 hh
  have hg200 : decide ((200 : Int) < (n : Int)) = true := by simp; omega
  go_wp2_with (refine wpl_put_blk y1 [.int .i64 0, .slice none 0 0] (by kernel_rfl) rfl (by intro v hv; simp at hv; rcases hv with rfl | rfl <;> rfl) rfl rfl rfl rfl ?_; intro w6 hB6 hg6)
  have hb6 : Below w.heap.size w w6 := hb01.trans (below_of_grown hg6 hb01.size (by omega))
  refine ret_blk2 hB6 rfl rfl Tryd.underlying24 rfl (by kernel_rfl) rfl ?_
  exact ⟨rfl, hb6⟩
end Go.Proofs.YtpimcghmpbbckaaDoor


namespace Go.Proofs.YtpimcghmpbbckaaDoor
set_option linter.unusedVariables false
set_option linter.unusedSimpArgs false
set_option maxRecDepth 100000
open Go.ChangeShapes Go.WideShapes Go.ChangeAt Go.RowKit

theorem own : ownKnob Tryd.prog.godebug = none := by kernel_rfl
theorem laidOut : laidOutB Tryd.prog = true := by kernel_rfl

/-- the form's own reach, of a slice that was opened -/
theorem reach_rows {H : Type} {ts : List TypeId} {ds : List (DataW H)} {n by_ : Nat} {d : DataW H} {t e : TypeId} (hsz : (DataW.weightsEach Tryd.prog ts ds).all (· ≤ reachBytes) = true) {j : Nat} (ht : ts[j]? = some t) (hd : ds[j]? = some d)
    (hu : Tryd.prog.underlying t = some (.slice e)) (hb : Tryd.prog.bytesOf e = by_) (h : (d = .nil ∧ n = 0) ∨ ∃ (el sp : List (DataW H)), d = .slice el sp ∧ el.length = n) : n * by_ ≤ 140737488351232 := by
  rcases h with ⟨_, rfl⟩ | ⟨el, sp, rfl, rfl⟩
  · simp
  · have := sized_slice hsz ht hd hu
    rw [hb] at this
    have h2 : el.length * by_ ≤ (el.length + sp.length) * by_ := Nat.mul_le_mul_right _ (by omega)
    simp only [reachBytes] at this
    omega
end Go.Proofs.YtpimcghmpbbckaaDoor


namespace Go.Proofs.YtpimcghmpbbckaaDoor
set_option linter.unusedVariables false
set_option linter.unusedSimpArgs false
set_option maxRecDepth 100000
open Go.ChangeShapes Go.WideShapes Go.ChangeAt Go.RowKit
set_option linter.unusedVariables false

theorem gTab : Tryd.prog.globalNamed "math/bits.deBruijn64tab" = some 0 := by kernel_rfl
theorem gTabType : (Tryd.prog.globals[0]?).map (·.type) = some 129 := by kernel_rfl
theorem cellsTab : Tryd.prog.cellsOf 129 = 64 := by kernel_rfl
theorem cellsByte : Tryd.prog.cellsOf 5 = 1 := by kernel_rfl
def tabInts : List Int := Lib.deBruijn64tab.map fun (x : Nat) => (x : Int)
theorem tab_is {W : World} (h : Lib.TabIs Tryd.prog W "math/bits.deBruijn64tab" .u8 tabInts) : Tab W := fun j hj => by
  have := h.cell gTab j (by unfold tabInts; rw [List.length_map]; exact hj)
  rw [this]
  unfold tabInts
  simp [List.getD, hj]
noncomputable def laidWorld (os : Os) : World :=
  { World.holding Tryd.prog os ⟨#[], #[], []⟩ with heap := (World.holding Tryd.prog os ⟨#[], #[], []⟩).heap.modify 0 fun
      | .cells _ t frozen => .cells (tabInts.map fun z => Value.int .u8 z).toArray t frozen
      | o => o }

end Go.Proofs.YtpimcghmpbbckaaDoor


namespace Go.Proofs.YtpimcghmpbbckaaDoor
set_option linter.unusedVariables false
set_option linter.unusedSimpArgs false
set_option maxRecDepth 100000
open Go.ChangeShapes Go.WideShapes Go.ChangeAt Go.RowKit

theorem open_arg_cnt {H : Type} {enc : TypeId × Value → H} {W : World} {base : Nat} {v : Value} {d : DataW H} {p : List MemPlace} (hv : Value.okWide Tryd.prog W .any base 42 v) (h : DataW.Trod enc Tryd.prog W 0 (fun _ => true) true 42 v d p) (hlt : ∀ x ∈ p, x.block < W.heap.size) :
    ∃ (cs : List Value) (t : Sp.T), v = .agg cs.toArray ∧ TmR W.heap.size W cs t ∧ t.cnt ≤ Rows.uptoBulk d := by
  have hT : Tryd.prog.underlying 42 = some (.struct (fieldsOf Tryd.prog 42)) := by kernel_rfl
  obtain ⟨cs, rfl, hcs⟩ := okWide_struct hT hv
  obtain ⟨fuel, hf⟩ := h
  obtain ⟨t, h1, h2⟩ := open_term fuel cs.toList (d, p) (by simpa [Value.cells] using hf) hlt
  exact ⟨cs.toList, t, by simp, h1, h2⟩
theorem open_arg_term {H : Type} {enc : TypeId × Value → H} {W : World} {base : Nat} {v : Value} {d : DataW H} {p : List MemPlace} (hv : Value.okWide Tryd.prog W .any base 42 v) (h : DataW.Trod enc Tryd.prog W 0 (fun _ => true) true 42 v d p) (hlt : ∀ x ∈ p, x.block < W.heap.size) :
    ∃ (cs : List Value) (t : Sp.T), v = .agg cs.toArray ∧ TmR W.heap.size W cs t ∧ t.size ≤ Rows.uptoBulk d := by
  obtain ⟨cs, t, h1, h2, h3⟩ := open_arg_cnt hv h hlt
  exact ⟨cs, t, h1, h2, Nat.le_trans t.size_le_cnt h3⟩
/-- an argument that is a struct of n integers -/
theorem open_arg_ints {H : Type} {enc : TypeId × Value → H} {W : World} {base : Nat} {v : Value} {d : DataW H} {p : List MemPlace} {e : TypeId} {n : Nat} {fs : Array Field} (he : Tryd.prog.underlying e = some (.struct fs)) (hn : fs.size = n) (hC : Tryd.prog.cellsOf e = n) (hf : intFields Tryd.prog fs = true) (hv : Value.okWide Tryd.prog W .any base e v) (h : DataW.Trod enc Tryd.prog W 0 (fun _ => true) true e v d p) :
    ∃ r : List Int, v = .agg (irow r).toArray ∧ r.length = n ∧ Wfs .i64 r := by
  obtain ⟨cs, rfl, hcs⟩ := okWide_struct he hv
  obtain ⟨fuel, hfu⟩ := h
  obtain ⟨r, h1, h2, h3⟩ := struct_ints he hn hC hf (by simpa [Value.cells] using hfu)
  exact ⟨r, by rw [← h2], h1, h3⟩

theorem open_arg_two {H : Type} {enc : TypeId × Value → H} {W : World} {base : Nat} {v : Value} {d : DataW H} {p : List MemPlace} {e : TypeId} {fs : Array Field} (he : Tryd.prog.underlying e = some (.struct fs)) (hn : fs.size = 2) (hC : Tryd.prog.cellsOf e = 2) (hf : intFields Tryd.prog fs = true) (hv : Value.okWide Tryd.prog W .any base e v) (h : DataW.Trod enc Tryd.prog W 0 (fun _ => true) true e v d p) :
    ∃ a b : Int, v = .agg #[.int .i64 a, .int .i64 b] := by
  obtain ⟨r, h1, h2, -⟩ := open_arg_ints he hn hC hf hv h
  match r, h2 with
  | [a, b], _ => exact ⟨a, b, h1⟩

theorem bulk_pos {H : Type} (d : DataW H) : 1 ≤ Rows.uptoBulk d := by
  cases d with
  | lit x => cases x <;> simp [Rows.uptoBulk]
  | _ => simp [Rows.uptoBulk]
theorem bulk_len {H : Type} : ∀ l : List (DataW H), l.length ≤ Rows.uptoBulkAll l
  | [] => by simp
  | x :: l => by
    rw [Rows.uptoBulkAll, List.length_cons]
    have := bulk_pos x
    have := bulk_len l
    omega
theorem bulk_rows {H : Type} {d : DataW H} {n : Nat} (h : (d = .nil ∧ n = 0) ∨ ∃ (el sp : List (DataW H)), d = .slice el sp ∧ el.length = n) : n ≤ Rows.uptoBulk d := by
  rcases h with ⟨_, rfl⟩ | ⟨e, sp, rfl, he⟩
  · exact Nat.zero_le _
  · have := bulk_len e
    rw [Rows.uptoBulk]
    omega
end Go.Proofs.YtpimcghmpbbckaaDoor
