/-
  What does not race comes to the same, whoever steals from whom: the law, walked.
-/
import Derived.Test.YtcoijmnnnfogdaaSmP3
import Derived.Laws.StructEq
import Derived.Test.YtcoijmnnnfogdaaSmP1
import Derived.Test.YtcoijmnnnfogdaaSmP2
import Derived.Test.YtcoijmnnnfogdaaChecked
import Derived.Deep.RegionLaw
import Derived.IntWalk
import Derived.Maps.OwnOps
import Derived.Maps.Views

namespace Go.Proofs.Ytcoijmnnnfogdaa
set_option linter.unusedVariables false
set_option linter.unusedSimpArgs false
set_option maxRecDepth 100000
open Go.RowKit

theorem take_snoc_eq' {α : Type} {xs ys : List α} {k : Nat} {x y : α} (hx : xs[k]? = some x) (hy : ys[k]? = some y) (ht : xs.take k = ys.take k) (e : x = y) : xs.take (k + 1) = ys.take (k + 1) := by
  have hsn : ∀ (z : α) (l : List α), l[k]? = some z → l.take (k + 1) = l.take k ++ [z] := fun z l h => by
    obtain ⟨h', rfl⟩ := List.getElem?_eq_some_iff.1 h
    exact List.take_succ_eq_append_getElem h'
  rw [hsn _ _ hx, hsn _ _ hy, ht, e]
theorem ne_of_get' {α : Type} {xs ys : List α} {k : Nat} {x y : α} (hx : xs[k]? = some x) (hy : ys[k]? = some y) (e : x ≠ y) : xs ≠ ys := by
  rintro rfl
  rw [hx] at hy
  injection hy with hy
  exact e hy

set_option maxHeartbeats 2000000 in
theorem equal_dones (v v' : Value) (xs ys : List (Nat × Int)) (w : World) (h : SlV w 2 v xs.length (donecs xs)) (h' : SlV w 2 v' ys.length (donecs ys)) :
    Calls Try.prog 23 #[v, v'] w fun e w' => e = .returned (.bool (decide (xs = ys))) ∧ ∃ m, w' = w.drewN m := by
  obtain ⟨A, c, rfl, hle, hm, hlen, hc⟩ := h
  obtain ⟨A', c', rfl, hle', hm', hlen', hc'⟩ := h'
  clear hlen hlen'
  unfold maxLen at hm hm'
  by_cases hn : xs.length = ys.length
  · have hne : ((xs.length : Int) != ys.length) = false := by simp [hn]
    have HN := Lib.hid hn
    clear hn
    go_enter Try.func23, Try.ntmps23
    go_wp2
    go_loopw [13] (fun i wr => ∃ k : Nat, k ≤ xs.length ∧ i = .int .i64 k ∧ (∃ a, wr = w.drewN a) ∧ xs.take k = ys.take k) (fun i _ => xs.length - (intOf i).toNat)
    case atStart => exact ⟨0, Nat.zero_le _, rfl, ⟨0, rfl⟩, rfl⟩
    case round =>
      obtain ⟨k, hk, rfl, ⟨a, rfl⟩, ht⟩ := hrel
      have HT := Lib.hid ht
      clear ht
      by_cases hlt : k < xs.length
      · have hlt' : k < ys.length := by rw [← HN.out]; exact hlt
        obtain ⟨⟨x1, x2⟩, hx⟩ : ∃ x, xs[k]? = some x := ⟨_, List.getElem?_eq_getElem hlt⟩
        obtain ⟨⟨y1, y2⟩, hy⟩ : ∃ x, ys[k]? = some x := ⟨_, List.getElem?_eq_getElem hlt'⟩
        obtain ⟨gx1, gx2⟩ := donecs_get _ _ _ hx
        obtain ⟨gy1, gy2⟩ := donecs_get _ _ _ hy
        obtain ⟨b, o, rfl, hb, hcc⟩ := hc.at_ (fun e => by rw [e] at gx1; simp at gx1)
        obtain ⟨b', o', rfl, hb', hcc'⟩ := hc'.at_ (fun e => by rw [e] at gy1; simp at gy1)
        have c1 := hcc _ _ gx1
        have c2 := hcc _ _ gx2
        have d1 := hcc' _ _ gy1
        have d2 := hcc' _ _ gy2
        rw [← Nat.add_assoc] at c2 d2
        have HX := Lib.hid hx
        have HY := Lib.hid hy
        clear hc hc' hcc hcc' hx hy gx1 gx2 gy1 gy2
        by_cases e : x1 = y1 ∧ x2 = y2
        · obtain ⟨rfl, rfl⟩ := e
          go_wp2
          go_quiet (fail)
          go_wp2
          go_roundw
          case rel => exact ⟨k + 1, by omega, by go_num, ⟨_, rfl⟩, take_snoc_eq' HX.out HY.out HT.out rfl⟩
          case measure => simp [intOf]; omega
        · have hnl : xs ≠ ys := ne_of_get' HX.out HY.out (fun h => by injection h with h1 h2; exact e ⟨h1, h2⟩)
          have HNL := Lib.hid hnl
          obtain ⟨X1, hX1⟩ : ∃ z : Int, z = x1 := ⟨_, rfl⟩
          obtain ⟨X2, hX2⟩ : ∃ z : Int, z = x2 := ⟨_, rfl⟩
          obtain ⟨Y1, hY1⟩ : ∃ z : Int, z = y1 := ⟨_, rfl⟩
          obtain ⟨Y2, hY2⟩ : ∃ z : Int, z = y2 := ⟨_, rfl⟩
          have he : (X1 == Y1 && X2 == Y2) = false := by
            rw [Bool.eq_false_iff]
            intro h
            simp only [Bool.and_eq_true, beq_iff_eq] at h
            exact e ⟨by omega, by omega⟩
          rw [← hX1] at c1
          rw [← hX2] at c2
          rw [← hY1] at d1
          rw [← hY2] at d2
          clear e hnl hX1 hX2 hY1 hY2
          rcases h1 : X1 == Y1 with _ | _
          · clear he
            go_wp2
            go_quiet (fail)
            go_wp2
            go_ret
            exact ⟨ret_bool (by simp [HNL.out]), ⟨_, World.drewN_drewN _ _ _⟩⟩
          · have h2 : (X2 == Y2) = false := by rw [h1] at he; simpa using he
            clear he
            go_wp2
            go_quiet (fail)
            go_wp2
            go_ret
            exact ⟨ret_bool (by simp [HNL.out]), ⟨_, World.drewN_drewN _ _ _⟩⟩
      · have HK := Lib.hid (show k = xs.length by omega)
        clear hc hc'
        go_wp2
        go_ret
        refine ⟨ret_bool ?_, ⟨_, rfl⟩⟩
        symm
        simp only [decide_eq_true_eq]
        have := HT.out
        rw [HK.out, List.take_length, HN.out, List.take_length] at this
        exact this
  · have hne : ((xs.length : Int) != ys.length) = true := by simp; omega
    have hnl : xs ≠ ys := fun e => hn (by rw [e])
    have HNL := Lib.hid hnl
    clear hnl hc hc'
    go_enter Try.func23, Try.ntmps23
    go_wp2
    go_ret
    exact ⟨ret_bool (by simp [HNL.out]), ⟨0, rfl⟩⟩
end Go.Proofs.Ytcoijmnnnfogdaa


namespace Go.Proofs.Ytcoijmnnnfogdaa
set_option linter.unusedVariables false
set_option linter.unusedSimpArgs false
set_option maxRecDepth 100000
open Go.RowKit

theorem kids_cells {w : World} {g : Nat} {t : TypeId} {xs ys : List Value} (h : Blk w g t (xs ++ ys)) (hx : xs.length = 5) : (∀ j u, xs[j]? = some u → w.cell? ⟨g, 0 + j, none⟩ = some u) ∧ (∀ j u, ys[j]? = some u → w.cell? ⟨g, 0 + 5 + j, none⟩ = some u) := by
  refine ⟨fun j u hu => ?_, fun j u hu => ?_⟩
  · have hj := (List.getElem?_eq_some_iff.1 hu).1
    rw [h.cell, List.getElem?_append_left (by omega), Nat.zero_add]
    exact hu
  · rw [h.cell, List.getElem?_append_right (by omega), ← hu]
    congr 1
    omega

/-- a term of two, made by the call -/
theorem TmR.made {B : Nat} {w : World} {g : Nat} {xs ys : List Value} {t0 t1 : Sp.T} {tt : TypeId} (par : Bool) (h : Blk w g tt (xs ++ ys)) (hx : xs.length = 5) (hg : g < B) (r0 : TmR B w xs t0) (r1 : TmR B w ys t1) :
    TmR B w (tcells (if par then 3 else 2) 0 false 0 (some ⟨g, 0, none⟩) 2 2) (.two par t0 t1) :=
  .two par 0 false 0 g 0 2 2 xs ys t0 t1 (Nat.le_refl _) (by unfold maxLen; omega) (Nat.le_refl _) hg (kids_cells h hx).1 (kids_cells h hx).2 r0 r1

theorem two_allocs (w : World) (c0 c1 : List Value) (t0 t1 : TypeId) : Blk ((w.alloc (.cells c0.toArray t0)).alloc (.cells c1.toArray t1)) w.heap.size t0 c0 ∧ Blk ((w.alloc (.cells c0.toArray t0)).alloc (.cells c1.toArray t1)) (w.heap.size + 1) t1 c1 ∧ ((w.alloc (.cells c0.toArray t0)).alloc (.cells c1.toArray t1)).heap.size = w.heap.size + 1 + 1 ∧ Keeps (fun _ => False) w ((w.alloc (.cells c0.toArray t0)).alloc (.cells c1.toArray t1)) := by
  have h0 := Blk.new w t0 c0
  have h1 := Blk.new (w.alloc (.cells c0.toArray t0)) t1 c1
  rw [show (w.alloc (.cells c0.toArray t0)).heap.size = w.heap.size + 1 by simp] at h1
  exact ⟨h0.alloc _, h1, by simp, ((Keeps.refl _ w).alloc _).alloc _⟩
theorem four_allocs (w : World) (c0 c1 c2 c3 : List Value) (t0 t1 t2 t3 : TypeId) : Blk ((((w.alloc (.cells c0.toArray t0)).alloc (.cells c1.toArray t1)).alloc (.cells c2.toArray t2)).alloc (.cells c3.toArray t3)) w.heap.size t0 c0 ∧ Blk ((((w.alloc (.cells c0.toArray t0)).alloc (.cells c1.toArray t1)).alloc (.cells c2.toArray t2)).alloc (.cells c3.toArray t3)) (w.heap.size + 1) t1 c1 ∧
    Blk ((((w.alloc (.cells c0.toArray t0)).alloc (.cells c1.toArray t1)).alloc (.cells c2.toArray t2)).alloc (.cells c3.toArray t3)) (w.heap.size + 1 + 1) t2 c2 ∧ Blk ((((w.alloc (.cells c0.toArray t0)).alloc (.cells c1.toArray t1)).alloc (.cells c2.toArray t2)).alloc (.cells c3.toArray t3)) (w.heap.size + 1 + 1 + 1) t3 c3 ∧
    ((((w.alloc (.cells c0.toArray t0)).alloc (.cells c1.toArray t1)).alloc (.cells c2.toArray t2)).alloc (.cells c3.toArray t3)).heap.size = w.heap.size + 1 + 1 + 1 + 1 ∧ Keeps (fun _ => False) w ((((w.alloc (.cells c0.toArray t0)).alloc (.cells c1.toArray t1)).alloc (.cells c2.toArray t2)).alloc (.cells c3.toArray t3)) := by
  obtain ⟨h0, h1, hz, hk⟩ := two_allocs w c0 c1 t0 t1
  obtain ⟨h2, h3, hz2, hk2⟩ := two_allocs ((w.alloc (.cells c0.toArray t0)).alloc (.cells c1.toArray t1)) c2 c3 t2 t3
  rw [hz] at h2 h3 hz2
  exact ⟨(h0.alloc _).alloc _, (h1.alloc _).alloc _, h2, h3, hz2, hk.trans hk2⟩

/-- what is known of a term that lies in a box, while the world goes on -/
structure Boxed (w1 : World) (q : Nat) (k c : Int) (b : Bool) (l : Int) (A : Option Addr) (n cap : Nat) (t : Sp.T) : Prop where
  look : ∀ w', Below w1.heap.size w1 w' → (w'.cell? ⟨q, 0, none⟩ = some (.int .i64 k) ∧ w'.cell? ⟨q, 1, none⟩ = some (.int .i64 c) ∧ w'.cell? ⟨q, 2, none⟩ = some (.bool b) ∧ w'.cell? ⟨q, 3, none⟩ = some (.int .i64 l) ∧ w'.cell? ⟨q, 4, none⟩ = some (.slice A n cap)) ∧
    TmR w'.heap.size w' [.int .i64 k, .int .i64 c, .bool b, .int .i64 l, .slice A n cap] t
theorem Boxed.of {w1 : World} {q : Nat} {k c : Int} {b : Bool} {l : Int} {A : Option Addr} {n cap : Nat} {t : Sp.T} {B : Nat} (hB : Blk w1 q 26 [.int .i64 k, .int .i64 c, .bool b, .int .i64 l, .slice A n cap]) (hT : TmR B w1 [.int .i64 k, .int .i64 c, .bool b, .int .i64 l, .slice A n cap] t) (hb : B ≤ w1.heap.size) : Boxed w1 q k c b l A n cap t :=
  ⟨fun w' h => ⟨⟨by rw [(hB.below h).cell]; rfl, by rw [(hB.below h).cell]; rfl, by rw [(hB.below h).cell]; rfl, by rw [(hB.below h).cell]; rfl, by rw [(hB.below h).cell]; rfl⟩, (hT.later (h.mono hb)).keep (Nat.le_trans hb h.size) (fun _ _ => rfl)⟩⟩

theorem tm_up {B B' : Nat} {w : World} {cs : List Value} {t : Sp.T} (h : TmR B w cs t) (hB : B ≤ B') : TmR B' w cs t := h.keep hB (fun _ _ => rfl)

theorem three_allocs (w : World) (c0 c1 c2 : List Value) (t0 t1 t2 : TypeId) : Blk (((w.alloc (.cells c0.toArray t0)).alloc (.cells c1.toArray t1)).alloc (.cells c2.toArray t2)) w.heap.size t0 c0 ∧ Blk (((w.alloc (.cells c0.toArray t0)).alloc (.cells c1.toArray t1)).alloc (.cells c2.toArray t2)) (w.heap.size + 1) t1 c1 ∧
    Blk (((w.alloc (.cells c0.toArray t0)).alloc (.cells c1.toArray t1)).alloc (.cells c2.toArray t2)) (w.heap.size + 1 + 1) t2 c2 ∧ (((w.alloc (.cells c0.toArray t0)).alloc (.cells c1.toArray t1)).alloc (.cells c2.toArray t2)).heap.size = w.heap.size + 1 + 1 + 1 ∧ Keeps (fun _ => False) w (((w.alloc (.cells c0.toArray t0)).alloc (.cells c1.toArray t1)).alloc (.cells c2.toArray t2)) := by
  obtain ⟨h0, h1, hz, hk⟩ := two_allocs w c0 c1 t0 t1
  have h2 := Blk.new ((w.alloc (.cells c0.toArray t0)).alloc (.cells c1.toArray t1)) t2 c2
  rw [hz] at h2
  exact ⟨h0.alloc _, h1.alloc _, h2, by simp, hk.alloc _⟩

theorem SlV.of_blk {w : World} {g sz n : Nat} {e : TypeId} {cs : List Value} (h : Blk w g e cs) (hl : cs.length = n * sz) (hn : n ≤ 1000000000) : SlV w sz (.slice (some ⟨g, 0, none⟩) n n) n cs :=
  ⟨_, _, rfl, Nat.le_refl _, by unfold maxLen; omega, hl, g, 0, fun _ => ⟨rfl, h.lt⟩, fun j u hu => by rw [Nat.zero_add, h.cell]; exact hu⟩

end Go.Proofs.Ytcoijmnnnfogdaa


namespace Go.Proofs.Ytcoijmnnnfogdaa
set_option linter.unusedVariables false
set_option linter.unusedSimpArgs false
set_option maxRecDepth 100000
open Go.RowKit

def five : Sp.T := .two false (.two true (.one 1 false 0) (.one 2 false 0)) (.one 3 false 0)
theorem leaf_any (n : Int) (w : World) : Calls Try.prog 22 #[.int .i64 n] w fun e w' => e = .returned (.agg #[.int .i64 1, .int .i64 n, .bool false, .int .i64 0, .slice none 0 0]) ∧ Below w.heap.size w w' := by
  go_enter Try.func22, Try.ntmps22
  have hB0 := Blk.new w 26 [.int .i64 0, .int .i64 0, .bool false, .int .i64 0, .slice none 0 0]
  go_wp2_with (refine wpl_put_blk hB0 [.int .i64 1, .int .i64 n, .bool false, .int .i64 0, .slice none 0 0] (by kernel_rfl) rfl (by intro v hv; simp only [List.mem_cons, List.not_mem_nil, or_false] at hv; rcases hv with rfl | rfl | rfl | rfl | rfl <;> rfl) rfl rfl rfl rfl ?_; intro w2 hB2 hg2)
  have hb : Below w.heap.size w w2 := (below_alloc (Below.refl _ _) _).trans (below_of_grown hg2 (by simp) (Nat.le_refl _))
  exact ret_blk hB2 rfl rfl Try.underlying26 rfl (by kernel_rfl) rfl ⟨rfl, hb⟩

end Go.Proofs.Ytcoijmnnnfogdaa


namespace Go.Proofs.Ytcoijmnnnfogdaa
set_option linter.unusedVariables false
set_option linter.unusedSimpArgs false
set_option maxRecDepth 100000
open Go.RowKit

def tee : Sp.T := .two true (.one 1 false 0) (.two true (.one 2 false 0) (.one 3 false 0))
def teeP : List Stl.Pk := [⟨1, 0⟩, ⟨1, 0⟩, ⟨0, 0⟩]
theorem tee_is : Stl.sz tee = 5 ∧ tee.size = 3 ∧ Stl.logS tee 2 (Stl.start 0 tee) teeP = [(1, 1), (0, 0)] := by
  refine ⟨by decide, by decide, by decide⟩

theorem alive22_any (w : World) : Calls Try.prog 8 #[] w fun e w' => e = .returned (.bool true) ∧ Below w.heap.size w w' := by
  go_enter Try.func8, Try.ntmps8
  go_wp2_with fail
  refine (leaf_any 1 _).mono ?_
  rintro e w1 ⟨rfl, hb1⟩
  go_wp2_with fail
  refine (leaf_any 2 _).mono ?_
  rintro e w2 ⟨rfl, hb2⟩
  go_wp2_with fail
  refine (leaf_any 3 _).mono ?_
  rintro e w3 ⟨rfl, hb3⟩
  have hb13 : Below w.heap.size w w3 := (by repeat (first | exact Below.refl _ _ | assumption | apply below_alloc | apply below_drew | (apply below_next; assumption)))
  clear hb1 hb2 hb3
  obtain ⟨x0, x1, x2, hz, hk⟩ := three_allocs w3 [.int .i64 1, .int .i64 2, .bool false, .int .i64 0, .slice none 0 0, .int .i64 1, .int .i64 3, .bool false, .int .i64 0, .slice none 0 0] [.int .i64 1, .int .i64 1, .bool false, .int .i64 0, .slice none 0 0, .int .i64 3, .int .i64 0, .bool false, .int .i64 0, .slice (some ⟨w3.heap.size, 0, none⟩) 2 2] [.int .i64 3, .int .i64 0, .bool false, .int .i64 0, .slice (some ⟨w3.heap.size + 1, 0, none⟩) 2 2] 26 26 26
  have hbW := hb13.trans (hk.below hb13.size (fun i h => h.elim))
  go_upto_region 2 with (fail)
  obtain ⟨q0, hq0⟩ : ∃ q, q = w3.heap.size := ⟨_, rfl⟩
  generalize (((w3.alloc (.cells [Value.int .i64 1, .int .i64 2, .bool false, .int .i64 0, .slice none 0 0, .int .i64 1, .int .i64 3, .bool false, .int .i64 0, .slice none 0 0].toArray 26)).alloc (.cells [Value.int .i64 1, .int .i64 1, .bool false, .int .i64 0, .slice none 0 0, .int .i64 3, .int .i64 0, .bool false, .int .i64 0, .slice (some ⟨w3.heap.size, 0, none⟩) 2 2].toArray 26)).alloc (.cells [Value.int .i64 3, .int .i64 0, .bool false, .int .i64 0, .slice (some ⟨w3.heap.size + 1, 0, none⟩) 2 2].toArray 26)) = W at x0 x1 x2 hz hk hbW ⊢
  rw [← hq0] at x0 x1 x2 hz ⊢
  have lf : ∀ n : Int, TmR W.heap.size W [.int .i64 1, .int .i64 n, .bool false, .int .i64 0, .slice none 0 0] (.one n false 0) := fun n => .one n false 0 none 0 0 (Nat.le_refl _) (Nat.zero_le _)
  have r1 : TmR W.heap.size W (tcells 3 0 false 0 (some ⟨q0, 0, none⟩) 2 2) (.two true (.one 2 false 0) (.one 3 false 0)) := TmR.made (xs := [.int .i64 1, .int .i64 2, .bool false, .int .i64 0, .slice none 0 0]) (ys := [.int .i64 1, .int .i64 3, .bool false, .int .i64 0, .slice none 0 0]) true x0 rfl x0.lt (lf 2) (lf 3)
  have rt : TmR W.heap.size W [.int .i64 3, .int .i64 0, .bool false, .int .i64 0, .slice (some ⟨q0 + 1, 0, none⟩) 2 2] tee := TmR.made (xs := [.int .i64 1, .int .i64 1, .bool false, .int .i64 0, .slice none 0 0]) (ys := [.int .i64 3, .int .i64 0, .bool false, .int .i64 0, .slice (some ⟨q0, 0, none⟩) 2 2]) true x1 rfl x1.lt (lf 1) r1
  obtain ⟨s1, s2, s3⟩ := tee_is
  have hr := run_any tee teeP (W.alloc (.cells (pkcs teeP).toArray 59)) W.heap.size [.int .i64 3, .int .i64 0, .bool false, .int .i64 0, .slice (some ⟨q0 + 1, 0, none⟩) 2 2] 2 (.slice (some ⟨W.heap.size, 0, none⟩) 3 3) (rt.alloc (Nat.le_refl _) _) (by simp) (by omega) (by omega) (by decide) (by omega) (by omega) (SlV.lit W (pkcs teeP) 59 2 3 rfl (by omega))
  rw [s2, s3] at hr
  have hbP : Below w.heap.size w (W.alloc (.cells (pkcs teeP).toArray 59)) := below_alloc hbW _
  have c0 : W.cell? ⟨q0 + 1 + 1, 0, none⟩ = some (.int .i64 3) := by rw [x2.cell]; rfl
  have c1 : W.cell? ⟨q0 + 1 + 1, 1, none⟩ = some (.int .i64 0) := by rw [x2.cell]; rfl
  have c2 : W.cell? ⟨q0 + 1 + 1, 2, none⟩ = some (.bool false) := by rw [x2.cell]; rfl
  have c3 : W.cell? ⟨q0 + 1 + 1, 3, none⟩ = some (.int .i64 0) := by rw [x2.cell]; rfl
  have c4 : W.cell? ⟨q0 + 1 + 1, 4, none⟩ = some (.slice (some ⟨q0 + 1, 0, none⟩) 2 2) := by rw [x2.cell]; rfl
  have HR := Lib.hid hr
  clear hr lf r1 rt s1 s2 s3 x0 x1 x2 hz hk hq0
  go_wp2_with fail
  refine HR.out.mono ?_
  rintro e w4 ⟨D, rfl, hD, hb4⟩
  have hD4 := SlV.of_own hD
  have hDS := SlV.alloc hD4 (.cells (donecs [(1, 1), (0, 0)]).toArray 35)
  have hL := SlV.lit w4 (donecs [(1, 1), (0, 0)]) 35 2 2 rfl (by omega)
  have hbE := below_alloc (below_next hb4 hbP) (.cells (donecs [(1, 1), (0, 0)]).toArray 35)
  clear hb4 hbP hD hD4 c0 c1 c2 c3 c4
  go_wp2_with fail
  refine (equal_dones _ _ [(1, 1), (0, 0)] [(1, 1), (0, 0)] _ hDS hL).mono ?_
  rintro e w5 ⟨rfl, m5, rfl⟩
  clear hDS hL
  go_wp2
  go_ret
  exact ⟨rfl, below_drewN hbE _⟩
end Go.Proofs.Ytcoijmnnnfogdaa


namespace Go.Proofs.Ytcoijmnnnfogdaa.Rc
set_option linter.unusedVariables false
set_option linter.unusedSimpArgs false
set_option maxRecDepth 100000
open Go.RowKit
open Sp (T Acc)

theorem lw_bound {t : T} {N : Nat} (c : Int) (pre : List Nat) (h : ∀ y ∈ pre, y < N) : 0 ≤ lw t pre c ∧ lw t pre c ≤ N := by
  unfold lw
  rw [lw_last]
  rcases e : (pre.filter (isw t c)).getLast? with _ | y
  · simp
  · have := List.mem_of_getLast? e
    have := h y (List.mem_filter.1 this).1
    simp
    omega
def outV (t : T) (ns : List Nat) (x : Nat) : Int := lw t (ns.take (pos ns x)) (acc t x).1 - 1
def outL (t : T) (ns : List Nat) (k : Nat) : List Value := (List.range t.size).map fun x => .int .i64 (if x ∈ ns.take k then outV t ns x else 0)
theorem outL_length (t : T) (ns : List Nat) (k : Nat) : (outL t ns k).length = t.size := by simp [outL]
theorem outL_get {t : T} {ns : List Nat} {k x : Nat} (h : x < t.size) : (outL t ns k)[x]? = some (.int .i64 (if x ∈ ns.take k then outV t ns x else 0)) := by
  unfold outL
  rw [List.getElem?_map, List.getElem?_range h]
  rfl
theorem outL_zero (t : T) (ns : List Nat) : outL t ns 0 = List.replicate t.size (.int .i64 0) := by
  unfold outL
  apply List.ext_getElem?
  intro i
  by_cases h : i < t.size
  · simp [h]
  · simp [h]
theorem outL_all {t : T} {ns : List Nat} (h : Right t ns) : outL t ns t.size = ints .i64 (seeL t ns) := by
  unfold outL seeL ints
  rw [List.map_map]
  refine List.map_congr_left fun x hx => ?_
  rw [List.take_of_length_le (by rw [h.len]; exact Nat.le_refl _), if_pos (h.all (List.mem_range.1 hx))]
  rfl
theorem outV_at {t : T} {ns : List Nat} (hn : ns.Nodup) {k n : Nat} (hk : ns[k]? = some n) : outV t ns n = lw t (ns.take k) (acc t n).1 - 1 := by
  unfold outV
  rw [pos_eq hn hk]
theorem outL_set {t : T} {ns : List Nat} (hn : ns.Nodup) {k n : Nat} (hk : ns[k]? = some n) (hs : n < t.size) : (outL t ns k).set n (.int .i64 (lw t (ns.take k) (acc t n).1 - 1)) = outL t ns (k + 1) := by
  have htk : ns.take (k + 1) = ns.take k ++ [n] := by
    obtain ⟨h', rfl⟩ := List.getElem?_eq_some_iff.1 hk
    exact List.take_succ_eq_append_getElem h'
  apply List.ext_getElem?
  intro i
  by_cases hi : i < t.size
  · rw [outL_get hi, htk]
    by_cases e : i = n
    · subst e
      rw [List.getElem?_set_self (by rw [outL_length]; exact hs), if_pos (by simp), outV_at hn hk]
    · rw [List.getElem?_set_ne (fun h => e h.symm), outL_get hi]
      have : (i ∈ ns.take k ++ [n]) ↔ i ∈ ns.take k := by simp [e]
      simp only [this]
  · rw [List.getElem?_eq_none (by rw [List.length_set, outL_length]; omega), List.getElem?_eq_none (by rw [outL_length]; omega)]
theorem lw_step {t : T} {ns : List Nat} {k n : Nat} (hk : ns[k]? = some n) : lw t (ns.take (k + 1)) = fun c => if isw t c n then ((n : Int) + 1) else lw t (ns.take k) c := by
  have htk : ns.take (k + 1) = ns.take k ++ [n] := by
    obtain ⟨h', rfl⟩ := List.getElem?_eq_some_iff.1 hk
    exact List.take_succ_eq_append_getElem h'
  funext c
  rw [htk, lw_snoc]
theorem lw_step_no {t : T} {ns : List Nat} {k n : Nat} (hk : ns[k]? = some n) (hw : (acc t n).2.1 = false) : lw t (ns.take (k + 1)) = lw t (ns.take k) := by
  rw [lw_step hk]
  funext c
  unfold isw
  rw [hw]
  rfl
theorem lw_step_yes {t : T} {ns : List Nat} {k n : Nat} (hk : ns[k]? = some n) (hw : (acc t n).2.1 = true) : lw t (ns.take (k + 1)) = fun c => if c = (acc t n).1 then ((n : Int) + 1) else lw t (ns.take k) c := by
  rw [lw_step hk]
  funext c
  unfold isw
  rw [hw, Bool.true_and]
  by_cases e : c = (acc t n).1
  · rw [if_pos (by rw [beq_iff_eq]; exact e.symm), if_pos e]
  · rw [if_neg (by rw [beq_iff_eq]; exact fun h => e h.symm), if_neg e]
end Go.Proofs.Ytcoijmnnnfogdaa.Rc


namespace Go.Proofs.Ytcoijmnnnfogdaa
set_option linter.unusedVariables false
set_option linter.unusedSimpArgs false
set_option maxRecDepth 100000
open Go.RowKit
namespace Sp
def accc (a : Acc) : List Value := [.int .i64 a.1, .bool a.2.1, .int .i64 a.2.2]
def acccs (l : List Acc) : List Value := l.flatMap accc
theorem acccs_length (l : List Acc) : (acccs l).length = l.length * 3 := flat_length accc 3 (fun _ => rfl) l
theorem acccs_append (a b : List Acc) : acccs (a ++ b) = acccs a ++ acccs b := by simp [acccs]
theorem acc_one (a : Acc) : ∀ u ∈ accc a, u.oneCell' = true := by
  intro u hu
  simp only [accc, List.mem_cons, List.not_mem_nil, or_false] at hu
  rcases hu with rfl | rfl | rfl <;> rfl
theorem info_acc : (Try.prog.info? 23).map (fun i => (i.zero, i.size, i.bytes)) = some (some (.agg #[.int .i64 0, .bool false, .int .i64 0]), 3, 24) := by kernel_rfl
end Sp
end Go.Proofs.Ytcoijmnnnfogdaa


namespace Go.Proofs.Ytcoijmnnnfogdaa
set_option linter.unusedVariables false
set_option linter.unusedSimpArgs false
set_option maxRecDepth 100000
open Go.RowKit

/-- what gathers leaves, in block g: the row that it has so far -/
structure Lv (B : Nat) (w : World) (g : Nat) (v : Value) (n : Nat) (xs : List Value) : Prop where
  blk : Blk w g 76 [v]
  row : w.ownsRow B 23 3 v n xs
  base : B ≤ w.heap.size
  at_ : B ≤ g
  ne : v.ownBlock ≠ some g

def LvEnd (B : Nat) (w : World) (g : Nat) (v : Value) (n : Nat) (xs : List Value) : Ending → World → Prop := fun e w' =>
  e = .returned (.tuple #[]) ∧ ∃ v', Lv B w' g v' n xs ∧ Keeps (fun k => k = g ∨ v.ownBlock = some k) w w' ∧ (∀ i, v'.ownBlock = some i → v.ownBlock = some i ∨ w.heap.size ≤ i)

theorem lv_put {B : Nat} {w w0 w4 : World} {g n n' : Nat} {v v' : Value} {xs xs' : List Value} {o : Obj} (hL : Lv B w0 g v n xs) (hk0 : Keeps (fun k => k = g ∨ v.ownBlock = some k) w w0) (hg4 : (w0.alloc o).drew.grownBy w4 v.ownBlock) (hown : w4.ownsRow B 23 3 v' n' xs')
    (hv4 : v'.ownBlock = v.ownBlock ∨ v'.ownBlock = some (w0.alloc o).drew.heap.size) : ∃ v'', Lv B (w4.setCell ⟨g, 0, none⟩ v') g v'' n' xs' ∧ Keeps (fun k => k = g ∨ v.ownBlock = some k) w (w4.setCell ⟨g, 0, none⟩ v') ∧ (∀ i, v''.ownBlock = some i → v.ownBlock = some i ∨ w.heap.size ≤ i) := by
  have kk : Keeps (fun k => v.ownBlock = some k) w0 w4 := (((Keeps.refl _ w0).alloc o).drewN 1).trans ((Keeps.of_grown hg4).mono (fun i hi => hi.symm))
  have hne : v'.ownBlock ≠ some g := fun e => by
    rcases hv4 with h | h
    · exact hL.ne (h ▸ e)
    · rw [h] at e
      injection e with e
      have := hL.blk.lt
      simp at e; omega
  have hb4 := hL.blk.keeps kk hL.ne
  have ks : Keeps (fun k => k = g) w4 (w4.setCell ⟨g, 0, none⟩ v') := (Keeps.of_grown (grown_setCell w4 g 0 v')).mono (fun i hi => by injection hi)
  refine ⟨v', ⟨?_, own_keeps hown ks (fun i hi e => hne (e ▸ hi)), by have := hL.base; have := kk.size; have := ks.size; omega, hL.at_, hne⟩, (hk0.trans (kk.mono (fun i hi => .inr hi))).trans (ks.mono (fun i hi => .inl hi)), fun i hi => ?_⟩
  · have := hb4.set_ 0 v'
    simpa using this
  · rcases hv4 with h | h
    · exact .inl (h ▸ hi)
    · rw [h] at hi
      injection hi with hi
      have := hk0.size
      simp at hi
      exact .inr (by omega)

theorem lv_nothing (B : Nat) (w : World) (g : Nat) (v : Value) (n : Nat) (xs : List Value) (h : Lv B w g v n xs) :
    Calls Try.prog 97 #[.pointer (some ⟨g, 0, none⟩)] w (LvEnd B w g v n xs) := by
  go_enter Try.func97, Try.ntmps97
  go_wp2
  go_end0
  exact ⟨rfl, v, h, Keeps.refl _ _, fun i hi => .inl hi⟩

theorem lv_one (B : Nat) (w : World) (g : Nat) (v : Value) (n : Nat) (xs : List Value) (h : Lv B w g v n xs) (a : Sp.Acc) (hn : n ≤ 4194304) :
    Calls Try.prog 98 #[.pointer (some ⟨g, 0, none⟩), .agg #[.int .i64 a.1, .bool a.2.1, .int .i64 a.2.2]] w (LvEnd B w g v (n + 1) (xs ++ Sp.accc a)) := by
  obtain ⟨a1, a2, a3⟩ := a
  simp only
  go_enter Try.func98, Try.ntmps98
  go_wp2_with fail
  have hB := Blk.new w 23 (Sp.accc (a1, a2, a3))
  have hL : Lv B (w.alloc (.cells (Sp.accc (a1, a2, a3)).toArray 23)) g v n xs := ⟨h.blk.alloc _, h.row.alloc _, by have := h.base; simp; omega, h.at_, h.ne⟩
  have hk0 : Keeps (fun k => k = g ∨ v.ownBlock = some k) w (w.alloc (.cells (Sp.accc (a1, a2, a3)).toArray 23)) := (Keeps.refl _ w).alloc _
  have hvw : ∀ i, v.ownBlock = some i → i < w.heap.size := fun i hi => (h.row.lt i hi).2
  have hgw := h.blk.lt
  obtain ⟨q, hq⟩ : ∃ q, q = w.heap.size := ⟨_, rfl⟩
  have hB' : Blk (w.alloc (.cells (Sp.accc (a1, a2, a3)).toArray 23)) q 23 (Sp.accc (a1, a2, a3)) := by rw [hq]; exact hB
  have hqs : q < (w.alloc (.cells (Sp.accc (a1, a2, a3)).toArray 23)).heap.size := by rw [hq]; simp
  show Code.wp _ _ _ _ (w.alloc (.cells (Sp.accc (a1, a2, a3)).toArray 23))
  rw [← hq]
  generalize (w.alloc (.cells (Sp.accc (a1, a2, a3)).toArray 23)) = w0 at hB' hL hk0 hqs ⊢
  clear hB h hq
  have c0 := hL.blk.cell 0
  simp only [List.getElem?_cons_zero] at c0
  have d0 := hB'.cell 0
  have d1 := hB'.cell 1
  have d2 := hB'.cell 2
  simp only [Sp.accc, List.getElem?_cons_zero, List.getElem?_cons_succ] at d0 d1 d2
  have n63 : n + 1 ≤ maxLen := by unfold maxLen; omega
  have n47 : (n + 1) * 24 ≤ 140737488355328 := by omega
  have fz : ∀ w', Keeps (fun k => v.ownBlock = some k) w0 w' → w'.frozen? ⟨g, 0, none⟩ = false ∧ w'.cell? ⟨g, 0, none⟩ = some v := fun w' hk => by
    have hb := hL.blk.keeps hk hL.ne
    exact ⟨hb.frozen 0, by rw [hb.cell]; rfl⟩
  have hrow : ∀ o : Obj, (w0.alloc o).drew.ownsRow B 23 3 v n xs := fun o => (hL.row.alloc o).drew
  have hba : ∀ o : Obj, B ≤ (w0.alloc o).drew.heap.size := fun o => by have := hL.base; simp; omega
  have hgl := hL.blk.lt
  go_region_law (refine step_append _ _ _ _ _ _ _ _ Try.underlying42 Sp.info_acc rfl (by decide) (hrow _) (show Cells _ _ _ (Sp.accc (a1, a2, a3)) from Cells.new w0 _ 23) rfl (Sp.acc_one _) n63 n47 (hba _) rfl rfl rfl rfl ?_; intro v4 w4 hown4 hg4 hv4 hb4; obtain ⟨A4, k4, rfl, hle4, hm4⟩ := own_slice hown4; obtain ⟨f4, c4⟩ := fz w4 (((Keeps.refl _ w0).alloc _).drewN 1 |>.trans ((Keeps.of_grown hg4).mono (fun i hi => hi.symm))))
  all_goals
    have hend := lv_put hL hk0 hg4 hown4 hv4
    clear hb4 hg4 hown4 hv4 hrow hba fz f4 c4 c0 d0 d1 d2 hB' hL hk0
    go_end0
    exact ⟨rfl, hend⟩

/-- what tell does, whoever is told -/
theorem tell_nil {B : Nat} {w : World} {cs : List Value} (hT : TmR B w cs .nil) {ty : TypeId} {p : Value} {f : FuncId} {R : World → Prop} (hme : ∀ (k : Nat) (w : World), (method (k + 1) ty p "forkwright/sp.nothing").run Try.prog w = .ok (f, p) w) (hcf : ∀ (args : Array Value) (w : World), (callFunc f args).run Try.prog w = .ok (.enter f args) w)
    (hc : Calls Try.prog f #[p] (w.alloc (.cells cs.toArray 26)) fun e w' => e = .returned (.tuple #[]) ∧ R w') :
    Calls Try.prog 32 #[.agg cs.toArray, .iface ty p] w fun e w' => e = .returned (.tuple #[]) ∧ R w' := by
  cases hT with
  | nil k c b l A m cap hm hcap hk1 hk2 =>
  unfold tcells at hc ⊢
  unfold maxLen at hcap
  have e1 : (k == 1) = false := by simpa using hk1
  by_cases k2 : k = 2
  · subst k2
    have hm2 : ¬ 2 ≤ m := fun h => hk2 ⟨.inl rfl, h⟩
    clear hk2 hk1
    go_enter Try.func32, Try.ntmps32
    go_wp2_with fail
    refine hc.mono ?_
    rintro e w1 ⟨rfl, hR⟩
    go_wp2
    go_end0
    exact ⟨rfl, hR⟩
  · have e2 : (k == 2) = false := by simpa using k2
    by_cases k3 : k = 3
    · subst k3
      have hm2 : ¬ 2 ≤ m := fun h => hk2 ⟨.inr rfl, h⟩
      clear hk2 hk1
      go_enter Try.func32, Try.ntmps32
      go_wp2_with fail
      refine hc.mono ?_
      rintro e w1 ⟨rfl, hR⟩
      go_wp2
      go_end0
      exact ⟨rfl, hR⟩
    · have e3 : (k == 3) = false := by simpa using k3
      clear hk2 hk1
      go_enter Try.func32, Try.ntmps32
      go_wp2_with fail
      refine hc.mono ?_
      rintro e w1 ⟨rfl, hR⟩
      go_wp2
      go_end0
      exact ⟨rfl, hR⟩

theorem tell_one {B : Nat} {w : World} {cs : List Value} {c : Int} {b : Bool} {l : Int} (hT : TmR B w cs (.one c b l)) {ty : TypeId} {p : Value} {f : FuncId} {R : World → Prop} (hme : ∀ (k : Nat) (w : World), (method (k + 1) ty p "forkwright/sp.one").run Try.prog w = .ok (f, p) w) (hcf : ∀ (args : Array Value) (w : World), (callFunc f args).run Try.prog w = .ok (.enter f args) w)
    (hc : Calls Try.prog f #[p, .agg #[.int .i64 c, .bool b, .int .i64 l]] (w.alloc (.cells cs.toArray 26)) fun e w' => e = .returned (.tuple #[]) ∧ R w') :
    Calls Try.prog 32 #[.agg cs.toArray, .iface ty p] w fun e w' => e = .returned (.tuple #[]) ∧ R w' := by
  cases hT with
  | one c b l A m cap hm hcap =>
  unfold tcells at hc ⊢
  unfold maxLen at hcap
  go_enter Try.func32, Try.ntmps32
  go_wp2_with fail
  refine hc.mono ?_
  rintro e w1 ⟨rfl, hR⟩
  go_wp2
  go_end0
  exact ⟨rfl, hR⟩

set_option maxHeartbeats 2000000 in
theorem tell_two {B : Nat} {w : World} {cs : List Value} {par : Bool} {t0 t1 : Sp.T} (hT : TmR B w cs (.two par t0 t1)) {ty : TypeId} {p : Value} {f : FuncId} {R : World → Prop} (hme : ∀ (k : Nat) (w : World), (method (k + 1) ty p "forkwright/sp.two").run Try.prog w = .ok (f, p) w) (hna : ∀ (k : Nat) (w : World), (nilAhead (k + 1) ty p "forkwright/sp.two").run Try.prog w = .ok (some false) w) (hcf : ∀ (args : Array Value) (w : World), (callFunc f args).run Try.prog w = .ok (.enter f args) w)
    (hB : B ≤ w.heap.size) (hc : ∀ cs0 cs1, TmR B w cs0 t0 → TmR B w cs1 t1 → Calls Try.prog f #[p, .bool par, .agg cs0.toArray, .agg cs1.toArray] ((w.alloc (.cells cs.toArray 26)).drewN 1) fun e w' => e = .returned (.tuple #[]) ∧ R w') :
    Calls Try.prog 32 #[.agg cs.toArray, .iface ty p] w fun e w' => e = .returned (.tuple #[]) ∧ R w' := by
  cases hT with
  | two par c b l g o m cap cs0 cs1 t0 t1 hm hcap h2 hg h5 h6 r0 r1 =>
  have hcc := hc cs0 cs1 r0 r1
  have hgw : g < w.heap.size := by omega
  clear hc
  obtain ⟨a0, a1, a2, a3, A4, a5, a6, rfl, -, -⟩ := r0.form
  obtain ⟨b0, b1, b2, b3, B4, b5, b6, rfl, -, -⟩ := r1.form
  have x0 := h5 0 _ rfl
  have x1 := h5 1 _ rfl
  have x2 := h5 2 _ rfl
  have x3 := h5 3 _ rfl
  have x4 := h5 4 _ rfl
  have y0 := h6 0 _ rfl
  have y1 := h6 1 _ rfl
  have y2 := h6 2 _ rfl
  have y3 := h6 3 _ rfl
  have y4 := h6 4 _ rfl
  rw [Nat.add_zero] at x0 y0
  clear h5 h6 r0 r1
  unfold tcells at hcc ⊢
  unfold maxLen at hcap
  have m0 : (0 : Int) < (m : Int) := by omega
  have m1 : (1 : Int) < (m : Int) := by omega
  have m2 : 0 < m := by omega
  have m3 : 1 < m := by omega
  rcases par with _ | _
  · simp only [Bool.false_eq_true, if_false] at hcc
    go_enter Try.func32, Try.ntmps32
    go_wp2_with fail
    (refine still_last (by kernel_rfl) (by kernel_rfl) ?_; simp only [List.length_cons, List.length_nil, Nat.reduceAdd, Nat.reduceSub, List.take_succ_cons, List.take_zero, List.drop_succ_cons, List.drop_zero]; repeat still_step; try refine wpStill_nil ?_)
    go_wp2_with fail
    refine hcc.mono ?_
    rintro e w1 ⟨rfl, hR⟩
    go_wp2
    go_end0
    exact ⟨rfl, hR⟩
  · simp only [if_true] at hcc
    go_enter Try.func32, Try.ntmps32
    go_wp2_with fail
    (refine still_last (by kernel_rfl) (by kernel_rfl) ?_; simp only [List.length_cons, List.length_nil, Nat.reduceAdd, Nat.reduceSub, List.take_succ_cons, List.take_zero, List.drop_succ_cons, List.drop_zero]; repeat still_step; try refine wpStill_nil ?_)
    go_wp2_with fail
    refine hcc.mono ?_
    rintro e w1 ⟨rfl, hR⟩
    go_wp2
    go_end0
    exact ⟨rfl, hR⟩

end Go.Proofs.Ytcoijmnnnfogdaa


namespace Go.Proofs.Ytcoijmnnnfogdaa
set_option linter.unusedVariables false
set_option linter.unusedSimpArgs false
set_option maxRecDepth 100000
open Go.RowKit

theorem meth_lv (g fuel : Nat) (w : World) : (method (fuel + 1) 78 (.pointer (some ⟨g, 0, none⟩)) "forkwright/sp.nothing").run Try.prog w = .ok (97, .pointer (some ⟨g, 0, none⟩)) w ∧
    (method (fuel + 1) 78 (.pointer (some ⟨g, 0, none⟩)) "forkwright/sp.one").run Try.prog w = .ok (98, .pointer (some ⟨g, 0, none⟩)) w ∧
    (method (fuel + 1) 78 (.pointer (some ⟨g, 0, none⟩)) "forkwright/sp.two").run Try.prog w = .ok (99, .pointer (some ⟨g, 0, none⟩)) w ∧
    (nilAhead (fuel + 1) 78 (.pointer (some ⟨g, 0, none⟩)) "forkwright/sp.two").run Try.prog w = .ok (some false) w :=
  ⟨by kernel_rfl, by kernel_rfl, by kernel_rfl, by kernel_rfl⟩

theorem LvEnd.and {B : Nat} {w : World} {g : Nat} {v : Value} {n : Nat} {xs : List Value} (e : Ending) (w' : World) : LvEnd B w g v n xs e w' ↔ (e = .returned (.tuple #[]) ∧ ∃ v', Lv B w' g v' n xs ∧ Keeps (fun k => k = g ∨ v.ownBlock = some k) w w' ∧ (∀ i, v'.ownBlock = some i → v.ownBlock = some i ∨ w.heap.size ≤ i)) := Iff.rfl

theorem Lv.alloc {B : Nat} {w : World} {g : Nat} {v : Value} {n : Nat} {xs : List Value} (h : Lv B w g v n xs) (o : Obj) : Lv B (w.alloc o) g v n xs := ⟨h.blk.alloc _, h.row.alloc _, by have := h.base; simp; omega, h.at_, h.ne⟩
theorem Lv.drewN {B : Nat} {w : World} {g : Nat} {v : Value} {n : Nat} {xs : List Value} (h : Lv B w g v n xs) (k : Nat) : Lv B (w.drewN k) g v n xs := ⟨h.blk, ⟨h.row.1, h.row.2⟩, h.base, h.at_, h.ne⟩

theorem lv_back {B : Nat} {w w0 : World} {g : Nat} {v : Value} {n : Nat} {xs : List Value} (hk : Keeps (fun _ => False) w w0) {e : Ending} {w' : World} (h : LvEnd B w0 g v n xs e w') : LvEnd B w g v n xs e w' := by
  obtain ⟨h1, v', h2, h3, h4⟩ := h
  have := hk.size
  exact ⟨h1, v', h2, (hk.mono (fun _ h => h.elim)).trans h3, fun i hi => (h4 i hi).imp id (fun h => by omega)⟩

theorem keeps_alloc (w : World) (o : Obj) : Keeps (fun _ => False) w (w.alloc o) := (Keeps.refl _ w).alloc o

theorem tell_leaves : ∀ (t : Sp.T) (B : Nat) (w : World) (g : Nat) (v : Value) (n : Nat) (xs cs : List Value), TmR B w cs t → Lv B w g v n xs → n + t.size ≤ 4194304 →
    Calls Try.prog 32 #[.agg cs.toArray, .iface 78 (.pointer (some ⟨g, 0, none⟩))] w (LvEnd B w g v (n + t.size) (xs ++ Sp.acccs t.leaves)) := by
  intro t
  induction t with
  | nil =>
    intro B w g v n xs cs hT hL hn
    have e : xs ++ Sp.acccs Sp.T.nil.leaves = xs := by simp [Sp.T.leaves, Sp.acccs]
    rw [e]
    refine tell_nil hT (f := 97) (fun k w => (meth_lv g k w).1) (fun _ _ => by rfl) ?_
    exact (lv_nothing B _ g v n xs (hL.alloc _)).mono fun e w' h => lv_back (keeps_alloc _ _) h
  | one c b l =>
    intro B w g v n xs cs hT hL hn
    have e : xs ++ Sp.acccs (Sp.T.one c b l).leaves = xs ++ Sp.accc (c, b, l) := by simp [Sp.T.leaves, Sp.acccs]
    rw [e]
    refine tell_one hT (f := 98) (fun k w => (meth_lv g k w).2.1) (fun _ _ => by rfl) ?_
    exact (lv_one B _ g v n xs (hL.alloc _) (c, b, l) (by omega)).mono fun e w' h => lv_back (keeps_alloc _ _) h
  | two par t0 t1 ih0 ih1 =>
    intro B w g v n xs cs hT hL hn
    rw [Sp.T.size_two] at hn ⊢
    refine tell_two hT (f := 99) (fun k w => (meth_lv g k w).2.2.1) (fun k w => (meth_lv g k w).2.2.2) (fun _ _ => by rfl) hL.base ?_
    intro cs0 cs1 r0 r1
    have hk0 : Keeps (fun _ => False) w ((w.alloc (.cells cs.toArray 26)).drewN 1) := (keeps_alloc _ _).drewN 1
    have hL0 : Lv B ((w.alloc (.cells cs.toArray 26)).drewN 1) g v n xs := (hL.alloc _).drewN 1
    have q0 : TmR B ((w.alloc (.cells cs.toArray 26)).drewN 1) cs0 t0 := r0.keep (Nat.le_refl _) (fun p hp => World.cell?_alloc_lt w _ p (by have := hL.base; omega))
    have q1 : TmR B ((w.alloc (.cells cs.toArray 26)).drewN 1) cs1 t1 := r1.keep (Nat.le_refl _) (fun p hp => World.cell?_alloc_lt w _ p (by have := hL.base; omega))
    refine Calls.mono (R := LvEnd B ((w.alloc (.cells cs.toArray 26)).drewN 1) g v (n + (t0.size + t1.size)) (xs ++ Sp.acccs (Sp.T.two par t0 t1).leaves)) ?_ (fun e w' h => lv_back hk0 h)
    generalize ((w.alloc (.cells cs.toArray 26)).drewN 1) = w0 at hL0 q0 q1 ⊢
    clear hk0 hT hL r0 r1
    obtain ⟨a0, a1, a2, a3, A4, a5, a6, rfl, -, -⟩ := q0.form
    obtain ⟨b0, b1, b2, b3, B4, b5, b6, rfl, -, -⟩ := q1.form
    unfold tcells at q0 q1 ⊢
    have hbox0 := Blk.new w0 26 [.int .i64 a0, .int .i64 a1, .bool a2, .int .i64 a3, .slice A4 a5 a6]
    have hbox1 := Blk.new (w0.alloc (.cells #[.int .i64 a0, .int .i64 a1, .bool a2, .int .i64 a3, .slice A4 a5 a6] 26)) 26 [.int .i64 b0, .int .i64 b1, .bool b2, .int .i64 b3, .slice B4 b5 b6]
    have hL2 := (hL0.alloc (.cells #[.int .i64 a0, .int .i64 a1, .bool a2, .int .i64 a3, .slice A4 a5 a6] 26)).alloc (.cells #[.int .i64 b0, .int .i64 b1, .bool b2, .int .i64 b3, .slice B4 b5 b6] 26)
    have hB1 : B ≤ (w0.alloc (.cells #[.int .i64 a0, .int .i64 a1, .bool a2, .int .i64 a3, .slice A4 a5 a6] 26)).heap.size := by have := hL0.base; simp; omega
    have s0 := (q0.alloc hL0.base (.cells #[.int .i64 a0, .int .i64 a1, .bool a2, .int .i64 a3, .slice A4 a5 a6] 26)).alloc hB1 (.cells #[.int .i64 b0, .int .i64 b1, .bool b2, .int .i64 b3, .slice B4 b5 b6] 26)
    have s1 := (q1.alloc hL0.base (.cells #[.int .i64 a0, .int .i64 a1, .bool a2, .int .i64 a3, .slice A4 a5 a6] 26)).alloc hB1 (.cells #[.int .i64 b0, .int .i64 b1, .bool b2, .int .i64 b3, .slice B4 b5 b6] 26)
    have hg1 := hL0.blk.lt
    have hv1 : ∀ i, v.ownBlock = some i → i < w0.heap.size := fun i hi => (hL0.row.lt i hi).2
    have hv2 : ∀ i, v.ownBlock = some i → B ≤ i := own_ge hL0.row
    have hk2 : Keeps (fun _ => False) w0 ((w0.alloc (.cells #[.int .i64 a0, .int .i64 a1, .bool a2, .int .i64 a3, .slice A4 a5 a6] 26)).alloc (.cells #[.int .i64 b0, .int .i64 b1, .bool b2, .int .i64 b3, .slice B4 b5 b6] 26)) := (keeps_alloc _ _).alloc _
    have hsz : ((w0.alloc (.cells #[.int .i64 a0, .int .i64 a1, .bool a2, .int .i64 a3, .slice A4 a5 a6] 26)).alloc (.cells #[.int .i64 b0, .int .i64 b1, .bool b2, .int .i64 b3, .slice B4 b5 b6] 26)).heap.size = w0.heap.size + 1 + 1 := by simp
    have hq1 : (w0.alloc (.cells #[.int .i64 a0, .int .i64 a1, .bool a2, .int .i64 a3, .slice A4 a5 a6] 26)).heap.size = w0.heap.size + 1 := by simp
    rw [hq1] at hbox1
    clear hbox0 hq1 hL0 q0 q1 hB1
    go_enter Try.func99, Try.ntmps99
    go_wp2_with fail
    refine (ih0 B _ g v n xs _ s0 hL2 (by omega)).mono ?_
    rintro e w1 ⟨rfl, v1, L1, k1, o1⟩
    rw [hsz] at o1
    have hbox := hbox1.keeps k1 (fun h => h.elim (fun e => by omega) (fun e => by have := hv1 _ e; omega))
    have hbel := k1.below (B := B) hL2.base (fun i hi => hi.elim (fun e => by rw [e]; exact hL2.at_) (hv2 i))
    have s1' := s1.later hbel
    have d0 := hbox.cell 0
    have d1 := hbox.cell 1
    have d2 := hbox.cell 2
    have d3 := hbox.cell 3
    have d4 := hbox.cell 4
    simp only [List.getElem?_cons_zero, List.getElem?_cons_succ] at d0 d1 d2 d3 d4
    have kk := hk2.mono (S' := fun k => k = g ∨ v.ownBlock = some k) (fun _ h => h.elim) |>.trans k1
    clear hbox hbox1 s0 s1 hL2 k1 hk2 hbel hsz
    go_wp2_with fail
    refine (ih1 B _ g v1 (n + t0.size) _ _ s1' L1 (by omega)).mono ?_
    rintro e w2 ⟨rfl, v2, L2, k2, o2⟩
    have hw01 := kk.size
    have kf := kk.step k2 (fun i hi h => h.elim .inl (fun e => (o1 i e).elim .inr (fun h => by omega)))
    have e1 : n + (t0.size + t1.size) = n + t0.size + t1.size := by omega
    have e2 : xs ++ Sp.acccs (Sp.T.two par t0 t1).leaves = xs ++ Sp.acccs t0.leaves ++ Sp.acccs t1.leaves := by simp [Sp.T.leaves, Sp.acccs]
    have E1 := Lib.hid e1
    have E2 := Lib.hid e2
    clear e1 e2 d0 d1 d2 d3 d4 s1' L1
    go_wp2
    go_end0
    exact ⟨rfl, v2, by rw [E1.out, E2.out]; exact L2, kf, fun i hi => (o2 i hi).elim (fun h => (o1 i h).imp id (fun h => by omega)) (fun h => .inr (by omega))⟩

theorem leaves_any (w : World) (cs : List Value) (t : Sp.T) (hT : TmR w.heap.size w cs t) (hn : t.size ≤ 4194304) :
    Calls Try.prog 14 #[.agg cs.toArray] w fun e w' => ∃ v, e = .returned v ∧ SlV w' 3 v t.size (Sp.acccs t.leaves) ∧ Below w.heap.size w w' := by
  obtain ⟨a0, a1, a2, a3, A4, a5, a6, rfl, -, -⟩ := hT.form
  unfold tcells at hT ⊢
  have s1 := (hT.alloc (Nat.le_refl _) (.cells #[.int .i64 a0, .int .i64 a1, .bool a2, .int .i64 a3, .slice A4 a5 a6] 26)).alloc (by simp) (.cells #[.slice none 0 0] 76)
  have hb2 : Below w.heap.size w ((w.alloc (.cells #[.int .i64 a0, .int .i64 a1, .bool a2, .int .i64 a3, .slice A4 a5 a6] 26)).alloc (.cells #[.slice none 0 0] 76)) := below_alloc (below_alloc (Below.refl _ _) _) _
  have hL : Lv w.heap.size ((w.alloc (.cells #[.int .i64 a0, .int .i64 a1, .bool a2, .int .i64 a3, .slice A4 a5 a6] 26)).alloc (.cells #[.slice none 0 0] 76)) (w.heap.size + 1) (.slice none 0 0) 0 [] := by
    refine ⟨?_, World.ownsRow_nil _ _ _ _, by simp; omega, by omega, by simp [Value.ownBlock]⟩
    have := Blk.new (w.alloc (.cells #[.int .i64 a0, .int .i64 a1, .bool a2, .int .i64 a3, .slice A4 a5 a6] 26)) 76 [.slice none 0 0]
    simpa using this
  clear hT
  go_enter Try.func14, Try.ntmps14
  go_wp2_with fail
  refine (tell_leaves t w.heap.size _ _ _ 0 [] _ s1 hL (by omega)).mono ?_
  rintro e w1 ⟨rfl, v1, L1, k1, -⟩
  have c0 := L1.blk.cell 0
  simp only [List.getElem?_cons_zero] at c0
  have hb : Below w.heap.size w w1 := hb2.trans (k1.below hL.base (fun i hi => hi.elim (fun e => by omega) (fun e => by simp [Value.ownBlock] at e)))
  have hs := SlV.of_own L1.row
  rw [Nat.zero_add, List.nil_append] at hs
  obtain ⟨A9, c9, rfl, h1, h2, h3, h4⟩ := hs
  have H3 := Lib.hid h3
  clear h3 s1 hL L1 k1 hb2
  go_wp2
  go_ret
  exact ⟨_, rfl, ⟨A9, c9, rfl, h1, h2, H3.out, h4⟩, hb⟩
end Go.Proofs.Ytcoijmnnnfogdaa


namespace Go.Proofs.Ytcoijmnnnfogdaa
set_option linter.unusedVariables false
set_option linter.unusedSimpArgs false
set_option maxRecDepth 100000
open Go.RowKit

namespace Sp
def prc (p : Nat × Nat) : List Value := [.int .i64 p.1, .int .i64 p.2]
def prcs (l : List (Nat × Nat)) : List Value := l.flatMap prc
theorem prcs_length (l : List (Nat × Nat)) : (prcs l).length = l.length * 2 := flat_length prc 2 (fun _ => rfl) l
theorem prcs_append (a b : List (Nat × Nat)) : prcs (a ++ b) = prcs a ++ prcs b := by simp [prcs]
theorem prc_one (a : Nat × Nat) : ∀ u ∈ prc a, u.oneCell' = true := by
  intro u hu
  simp only [prc, List.mem_cons, List.not_mem_nil, or_false] at hu
  rcases hu with rfl | rfl <;> rfl
theorem prcs_zero (n : Nat) : prcs (List.replicate n (0, 0)) = List.replicate (n * 2) (.int .i64 0) := by
  induction n with
  | zero => rfl
  | succ n ih => rw [List.replicate_succ, Nat.succ_mul, Nat.add_comm (n * 2) 2]; show prc (0, 0) ++ prcs (List.replicate n (0, 0)) = _; rw [ih, ← List.replicate_append_replicate]; rfl
theorem prcs_take (l : List (Nat × Nat)) : ∀ i, (prcs l).take (i * 2) = prcs (l.take i) := by
  induction l with
  | nil => intro i; simp [prcs]
  | cons x l ih =>
    intro i
    cases i with
    | zero => simp [prcs]
    | succ i => rw [Nat.succ_mul]; show (_ :: _ :: prcs l).take (i * 2 + 2) = _ :: _ :: prcs (l.take i); rw [← ih]; rfl
theorem prcs_drop (l : List (Nat × Nat)) : ∀ i, (prcs l).drop (i * 2) = prcs (l.drop i) := by
  induction l with
  | nil => intro i; simp [prcs]
  | cons x l ih =>
    intro i
    cases i with
    | zero => simp [prcs]
    | succ i => rw [Nat.succ_mul]; show (_ :: _ :: prcs l).drop (i * 2 + 2) = prcs (l.drop i); rw [← ih]; rfl
theorem prcs_put (l : List (Nat × Nat)) (i : Nat) (p : Nat × Nat) : (prcs l).take (i * 2) ++ prc p ++ (prcs l).drop (i * 2 + 2) = prcs (put l i [p]) := by
  have e : i * 2 + 2 = (i + 1) * 2 := by omega
  rw [e, prcs_take, prcs_drop]
  simp [put, prcs]
theorem prcs_get (l : List (Nat × Nat)) (i : Nat) (p : Nat × Nat) (h : l[i]? = some p) : (prcs l)[i * 2]? = some (.int .i64 p.1) ∧ (prcs l)[i * 2 + 1]? = some (.int .i64 p.2) := by
  have h1 := prcs_drop l i
  obtain ⟨hi, rfl⟩ := List.getElem?_eq_some_iff.1 h
  rw [List.drop_eq_getElem_cons hi] at h1
  have h2 : prcs (l[i] :: l.drop (i + 1)) = .int .i64 l[i].1 :: .int .i64 l[i].2 :: prcs (l.drop (i + 1)) := rfl
  rw [h2] at h1
  constructor
  · have := congrArg (fun x => x[0]?) h1
    simpa using this
  · have := congrArg (fun x => x[1]?) h1
    simpa using this
end Sp

/-- what numbers leaves, in block g; its pairs in block h -/
structure Mk (B : Nat) (w : World) (g h : Nat) (ps : List (Nat × Nat)) (next base : Nat) : Prop where
  blk : Blk w g 90 [.int .i64 next, .slice (some ⟨h, 0, none⟩) ps.length ps.length, .int .i64 base]
  row : Blk w h 46 (Sp.prcs ps)
  base : B ≤ w.heap.size
  atg : B ≤ g
  ath : B ≤ h
  ne : g ≠ h

def MkEnd (B : Nat) (w : World) (g h : Nat) (ps : List (Nat × Nat)) (next : Nat) : Ending → World → Prop := fun e w' =>
  e = .returned (.tuple #[]) ∧ ∃ base, Mk B w' g h ps next base ∧ Keeps (fun k => k = g ∨ k = h) w w'

theorem Mk.alloc {B : Nat} {w : World} {g h : Nat} {ps : List (Nat × Nat)} {next base : Nat} (m : Mk B w g h ps next base) (o : Obj) : Mk B (w.alloc o) g h ps next base := ⟨m.blk.alloc _, m.row.alloc _, by have := m.base; simp; omega, m.atg, m.ath, m.ne⟩
theorem Mk.drewN {B : Nat} {w : World} {g h : Nat} {ps : List (Nat × Nat)} {next base : Nat} (m : Mk B w g h ps next base) (k : Nat) : Mk B (w.drewN k) g h ps next base := ⟨m.blk, m.row, m.base, m.atg, m.ath, m.ne⟩
theorem Mk.below {B : Nat} {w w' : World} {g h : Nat} {ps : List (Nat × Nat)} {next base : Nat} (m : Mk B w g h ps next base) (hb : Below w.heap.size w w') : Mk B w' g h ps next base := ⟨m.blk.below hb, m.row.below hb, by have := m.base; have := hb.size; omega, m.atg, m.ath, m.ne⟩
theorem mk_back {B : Nat} {w w0 : World} {g h : Nat} {ps : List (Nat × Nat)} {next : Nat} (hk : Keeps (fun _ => False) w w0) {e : Ending} {w' : World} (he : MkEnd B w0 g h ps next e w') : MkEnd B w g h ps next e w' := by
  obtain ⟨h1, b', h2, h3⟩ := he
  exact ⟨h1, b', h2, (hk.mono (fun _ h => h.elim)).trans h3⟩

theorem mk_nothing (B : Nat) (w : World) (g h : Nat) (ps : List (Nat × Nat)) (next base : Nat) (m : Mk B w g h ps next base) :
    Calls Try.prog 100 #[.pointer (some ⟨g, 0, none⟩)] w (MkEnd B w g h ps next) := by
  go_enter Try.func100, Try.ntmps100
  go_wp2
  go_end0
  exact ⟨rfl, base, m, Keeps.refl _ _⟩

theorem mk_one (B : Nat) (w : World) (g h : Nat) (ps : List (Nat × Nat)) (next base : Nat) (m : Mk B w g h ps next base) (a : Sp.Acc) (hb : base < ps.length) (hn : next ≤ 4194304) (hl : ps.length ≤ 4194304) :
    Calls Try.prog 101 #[.pointer (some ⟨g, 0, none⟩), .agg #[.int .i64 a.1, .bool a.2.1, .int .i64 a.2.2]] w (MkEnd B w g h (Sp.put ps base [(base, next)]) (next + 1)) := by
  obtain ⟨a1, a2, a3⟩ := a
  simp only
  have hgh := m.ne
  have hk0 : Keeps (fun k => k = g ∨ k = h) w (w.alloc (.cells (Sp.accc (a1, a2, a3)).toArray 23)) := (Keeps.refl _ w).alloc _
  have m1 := m.alloc (.cells (Sp.accc (a1, a2, a3)).toArray 23)
  have hlen := Sp.prcs_length ps
  have hps : (Sp.put ps base [(base, next)]).length = ps.length := Sp.put_length _ _ _ (by simp; omega)
  go_enter Try.func101, Try.ntmps101
  go_wp2_with fail
  show Code.wp _ _ _ _ (w.alloc (.cells (Sp.accc (a1, a2, a3)).toArray 23))
  generalize (w.alloc (.cells (Sp.accc (a1, a2, a3)).toArray 23)) = w0 at m1 hk0 ⊢
  clear m
  have c0 := m1.blk.cell 0
  have c1 := m1.blk.cell 1
  have c2 := m1.blk.cell 2
  simp only [List.getElem?_cons_zero, List.getElem?_cons_succ] at c0 c1 c2
  obtain ⟨n, hnn⟩ : ∃ n, n = ps.length := ⟨_, rfl⟩
  have HP := Lib.hid hps
  have HN := Lib.hid hnn
  have HL := Lib.hid hlen
  rw [← hnn] at c1 hb hl
  clear hps hnn hlen
  have hb2 : (base : Int) < (n : Int) := by omega
  have hw : IntKind.i64.wrap ((next : Int) + 1) = ((next + 1 : Nat) : Int) := by rw [IntWalk.i64_in _ (by omega)]; omega
  (refine still_last (by kernel_rfl) (by kernel_rfl) ?_; simp only [List.length_cons, List.length_nil, Nat.reduceAdd, Nat.reduceSub, List.take_succ_cons, List.take_zero, List.drop_succ_cons, List.drop_zero]; repeat still_step; try refine wpStill_nil ?_)
  refine wpl_store_blk (w := w0.drewN 1) m1.row 46 (base * 2) 2 (Sp.prc (base, next)) (by kernel_rfl) rfl (by rw [HL.out, ← HN.out]; omega) (Sp.prc_one _) rfl rfl rfl rfl ?_
  intro w2 hB2 hg2
  rw [Sp.prcs_put] at hB2
  have hb3 := m1.blk.grown (w := w0.drewN 1) hg2 (fun e => hgh (by injection e))
  have d0 := hb3.cell 0
  simp only [List.getElem?_cons_zero, List.getElem?_cons_succ] at d0
  have hk2 : Keeps (fun k => k = g ∨ k = h) w0 w2 := ((Keeps.of_grown hg2).undrewN).mono (fun i hi => .inr (by injection hi))
  clear c0 c1 c2
  go_wp2_with (refine wpl_set_blk hb3 0 (.int .i64 ((next + 1 : Nat) : Int)) (by kernel_rfl) (by simp) rfl rfl rfl rfl rfl rfl ?_; intro w3 hB3 hg3)
  have hk3 : Keeps (fun k => k = g ∨ k = h) w2 w3 := (Keeps.of_grown hg3).mono (fun i hi => .inl (by injection hi))
  have hfin : Mk B w3 g h (Sp.put ps base [(base, next)]) (next + 1) base := ⟨by rw [HP.out]; simpa using hB3, hB2.grown hg3 (fun e => hgh (by injection e with e; exact e.symm)), by have := m1.base; have := hk2.size; have := hk3.size; omega, m1.atg, m1.ath, hgh⟩
  have hkf := (hk0.trans hk2).trans hk3
  clear hB2 hg2 hb3 d0 hB3 hg3 m1 hk0 hk2 hk3
  go_wp2
  go_end0
  exact ⟨rfl, base, hfin, hkf⟩

theorem Mk.setbase {B : Nat} {w w' : World} {g h : Nat} {ps : List (Nat × Nat)} {next base base2 : Nat} (m : Mk B w g h ps next base) (hB : Blk w' g 90 ([.int .i64 next, .slice (some ⟨h, 0, none⟩) ps.length ps.length, .int .i64 base].set 2 (.int .i64 base2))) (hg : w.grownBy w' (some g)) :
    Mk B w' g h ps next base2 ∧ Keeps (fun k => k = g ∨ k = h) w w' := by
  have hk : Keeps (fun k => k = g ∨ k = h) w w' := (Keeps.of_grown hg).mono (fun i hi => .inl (by injection hi))
  exact ⟨⟨by simpa using hB, m.row.grown hg (fun e => m.ne (by injection e with e; exact e.symm)), by have := m.base; have := hk.size; omega, m.atg, m.ath, m.ne⟩, hk⟩

theorem meth_mk (g fuel : Nat) (w : World) : (method (fuel + 1) 91 (.pointer (some ⟨g, 0, none⟩)) "forkwright/sp.nothing").run Try.prog w = .ok (100, .pointer (some ⟨g, 0, none⟩)) w ∧
    (method (fuel + 1) 91 (.pointer (some ⟨g, 0, none⟩)) "forkwright/sp.one").run Try.prog w = .ok (101, .pointer (some ⟨g, 0, none⟩)) w ∧
    (method (fuel + 1) 91 (.pointer (some ⟨g, 0, none⟩)) "forkwright/sp.two").run Try.prog w = .ok (102, .pointer (some ⟨g, 0, none⟩)) w ∧
    (nilAhead (fuel + 1) 91 (.pointer (some ⟨g, 0, none⟩)) "forkwright/sp.two").run Try.prog w = .ok (some false) w :=
  ⟨by kernel_rfl, by kernel_rfl, by kernel_rfl, by kernel_rfl⟩

def MarkTell (t : Sp.T) : Prop := ∀ (B : Nat) (w : World) (g h : Nat) (ps : List (Nat × Nat)) (next base : Nat) (cs : List Value), TmR B w cs t → Mk B w g h ps next base → base + t.size ≤ ps.length → next + t.size ≤ 4194304 → ps.length ≤ 4194304 →
    Calls Try.prog 32 #[.agg cs.toArray, .iface 91 (.pointer (some ⟨g, 0, none⟩))] w (MkEnd B w g h (Sp.put ps base (t.marks base next)) (next + t.size))

set_option maxHeartbeats 2000000 in
theorem mk_two (par : Bool) (t0 t1 : Sp.T) (ih0 : MarkTell t0) (ih1 : MarkTell t1) (B : Nat) (w0 : World) (g h : Nat) (ps : List (Nat × Nat)) (next base : Nat) (cs0 cs1 : List Value) (q0 : TmR B w0 cs0 t0) (q1 : TmR B w0 cs1 t1) (hM : Mk B w0 g h ps next base)
    (hb : base + (t0.size + t1.size) ≤ ps.length) (hn : next + (t0.size + t1.size) ≤ 4194304) (hl : ps.length ≤ 4194304) :
    Calls Try.prog 102 #[.pointer (some ⟨g, 0, none⟩), .bool par, .agg cs0.toArray, .agg cs1.toArray] w0 (MkEnd B w0 g h (Sp.put ps base ((Sp.T.two par t0 t1).marks base next)) (next + (t0.size + t1.size))) := by
  obtain ⟨a0, a1, a2, a3, A4, a5, a6, rfl, -, -⟩ := q0.form
  obtain ⟨b0, b1, b2, b3, B4, b5, b6, rfl, -, -⟩ := q1.form
  unfold tcells at q0 q1 ⊢
  have hbox0 := (Blk.new w0 26 [.int .i64 a0, .int .i64 a1, .bool a2, .int .i64 a3, .slice A4 a5 a6]).alloc (.cells #[.int .i64 b0, .int .i64 b1, .bool b2, .int .i64 b3, .slice B4 b5 b6] 26)
  have hbox1 := Blk.new (w0.alloc (.cells #[.int .i64 a0, .int .i64 a1, .bool a2, .int .i64 a3, .slice A4 a5 a6] 26)) 26 [.int .i64 b0, .int .i64 b1, .bool b2, .int .i64 b3, .slice B4 b5 b6]
  have hM2 := (hM.alloc (.cells #[.int .i64 a0, .int .i64 a1, .bool a2, .int .i64 a3, .slice A4 a5 a6] 26)).alloc (.cells #[.int .i64 b0, .int .i64 b1, .bool b2, .int .i64 b3, .slice B4 b5 b6] 26)
  have hB1 : B ≤ (w0.alloc (.cells #[.int .i64 a0, .int .i64 a1, .bool a2, .int .i64 a3, .slice A4 a5 a6] 26)).heap.size := by have := hM.base; simp; omega
  have s0 := (q0.alloc hM.base (.cells #[.int .i64 a0, .int .i64 a1, .bool a2, .int .i64 a3, .slice A4 a5 a6] 26)).alloc hB1 (.cells #[.int .i64 b0, .int .i64 b1, .bool b2, .int .i64 b3, .slice B4 b5 b6] 26)
  have s1 := (q1.alloc hM.base (.cells #[.int .i64 a0, .int .i64 a1, .bool a2, .int .i64 a3, .slice A4 a5 a6] 26)).alloc hB1 (.cells #[.int .i64 b0, .int .i64 b1, .bool b2, .int .i64 b3, .slice B4 b5 b6] 26)
  have hg1 := hM.blk.lt
  have hh1 := hM.row.lt
  have hk2 : Keeps (fun k => k = g ∨ k = h) w0 ((w0.alloc (.cells #[.int .i64 a0, .int .i64 a1, .bool a2, .int .i64 a3, .slice A4 a5 a6] 26)).alloc (.cells #[.int .i64 b0, .int .i64 b1, .bool b2, .int .i64 b3, .slice B4 b5 b6] 26)) := ((Keeps.refl _ w0).alloc _).alloc _
  have hq1 : (w0.alloc (.cells #[.int .i64 a0, .int .i64 a1, .bool a2, .int .i64 a3, .slice A4 a5 a6] 26)).heap.size = w0.heap.size + 1 := by simp
  rw [hq1] at hbox1
  clear hq1 q0 q1 hB1 hM
  go_enter Try.func102, Try.ntmps102
  go_wp2_with fail
  try rw [show (w0.alloc (.cells #[.int .i64 a0, .int .i64 a1, .bool a2, .int .i64 a3, .slice A4 a5 a6] 26)).heap.size = w0.heap.size + 1 from by simp]
  generalize ((w0.alloc (.cells #[.int .i64 a0, .int .i64 a1, .bool a2, .int .i64 a3, .slice A4 a5 a6] 26)).alloc (.cells #[.int .i64 b0, .int .i64 b1, .bool b2, .int .i64 b3, .slice B4 b5 b6] 26)) = w2 at hbox0 hbox1 hM2 s0 s1 hk2 ⊢
  obtain ⟨q, hq⟩ : ∃ q, q = w0.heap.size := ⟨_, rfl⟩
  rw [← hq] at hbox0 hbox1 hg1 hh1 ⊢
  have look : ∀ w', Keeps (fun k => k = g ∨ k = h) w2 w' → (w'.cell? ⟨q, 0, none⟩ = some (.int .i64 a0) ∧ w'.cell? ⟨q, 1, none⟩ = some (.int .i64 a1) ∧ w'.cell? ⟨q, 2, none⟩ = some (.bool a2) ∧ w'.cell? ⟨q, 3, none⟩ = some (.int .i64 a3) ∧ w'.cell? ⟨q, 4, none⟩ = some (.slice A4 a5 a6)) ∧
      (w'.cell? ⟨q + 1, 0, none⟩ = some (.int .i64 b0) ∧ w'.cell? ⟨q + 1, 1, none⟩ = some (.int .i64 b1) ∧ w'.cell? ⟨q + 1, 2, none⟩ = some (.bool b2) ∧ w'.cell? ⟨q + 1, 3, none⟩ = some (.int .i64 b3) ∧ w'.cell? ⟨q + 1, 4, none⟩ = some (.slice B4 b5 b6)) ∧
      TmR B w' [.int .i64 a0, .int .i64 a1, .bool a2, .int .i64 a3, .slice A4 a5 a6] t0 ∧ TmR B w' [.int .i64 b0, .int .i64 b1, .bool b2, .int .i64 b3, .slice B4 b5 b6] t1 := fun w' hk => by
    have x0 := hbox0.keeps hk (fun e => by omega)
    have x1 := hbox1.keeps hk (fun e => by omega)
    have hbl := hk.below (B := B) hM2.base (fun i hi => hi.elim (fun e => e ▸ hM2.atg) (fun e => e ▸ hM2.ath))
    exact ⟨⟨by rw [x0.cell]; rfl, by rw [x0.cell]; rfl, by rw [x0.cell]; rfl, by rw [x0.cell]; rfl, by rw [x0.cell]; rfl⟩, ⟨by rw [x1.cell]; rfl, by rw [x1.cell]; rfl, by rw [x1.cell]; rfl, by rw [x1.cell]; rfl, by rw [x1.cell]; rfl⟩, s0.later hbl, s1.later hbl⟩
  have keepS : ∀ w', Below w2.heap.size w2 w' → (Below w2.heap.size w2 w' ∧ w'.cell? ⟨g, 2, none⟩ = some (.int .i64 base) ∧ w'.cell? ⟨q, 0, none⟩ = some (.int .i64 a0) ∧ w'.cell? ⟨q, 1, none⟩ = some (.int .i64 a1) ∧ w'.cell? ⟨q, 2, none⟩ = some (.bool a2) ∧ w'.cell? ⟨q, 3, none⟩ = some (.int .i64 a3) ∧ w'.cell? ⟨q, 4, none⟩ = some (.slice A4 a5 a6)) := fun w' hb =>
    ⟨hb, by rw [(hM2.blk.below hb).cell]; rfl, (look w' (Keeps.of_below hb _)).1⟩
  have hlv : ∀ w', (Below w2.heap.size w2 w' ∧ w'.cell? ⟨g, 2, none⟩ = some (.int .i64 base) ∧ w'.cell? ⟨q, 0, none⟩ = some (.int .i64 a0) ∧ w'.cell? ⟨q, 1, none⟩ = some (.int .i64 a1) ∧ w'.cell? ⟨q, 2, none⟩ = some (.bool a2) ∧ w'.cell? ⟨q, 3, none⟩ = some (.int .i64 a3) ∧ w'.cell? ⟨q, 4, none⟩ = some (.slice A4 a5 a6)) →
      Calls Try.prog 14 #[.agg #[.int .i64 a0, .int .i64 a1, .bool a2, .int .i64 a3, .slice A4 a5 a6]] w' fun e w'' => ∃ A c, e = .returned (.slice A t0.size c) ∧ (t0.size ≤ c ∧ c ≤ 9223372036854775807) ∧ Below w2.heap.size w2 w'' ∧ Below w'.heap.size w' w'' := fun w' hS =>
    (leaves_any w' _ t0 ((look w' (Keeps.of_below hS.1 _)).2.2.1.keep (by have := hS.1.size; have := hM2.base; omega) (fun _ _ => rfl)) (by omega)).mono fun e w'' hh => by
      obtain ⟨v, rfl, ⟨A, c, rfl, h1, h2, -, -⟩, h3⟩ := hh
      exact ⟨A, c, rfl, ⟨h1, h2⟩, below_next h3 hS.1, h3⟩
  have hlen0 : ∀ a j, (t0.marks a j).length = t0.size := t0.marks_length
  have hlen1 : ∀ a j, (t1.marks a j).length = t1.size := t1.marks_length
  have hE0 := fun w g h ps next base => ih0 B w g h ps next base [.int .i64 a0, .int .i64 a1, .bool a2, .int .i64 a3, .slice A4 a5 a6]
  have hE1 := fun w g h ps next base => ih1 B w g h ps next base [.int .i64 b0, .int .i64 b1, .bool b2, .int .i64 b3, .slice B4 b5 b6]
  clear hbox0 hbox1 s0 s1 hq ih0 ih1
  go_region_held3 (fun w' => (Below w2.heap.size w2 w' ∧ w'.cell? ⟨g, 2, none⟩ = some (.int .i64 base) ∧ w'.cell? ⟨q, 0, none⟩ = some (.int .i64 a0) ∧ w'.cell? ⟨q, 1, none⟩ = some (.int .i64 a1) ∧ w'.cell? ⟨q, 2, none⟩ = some (.bool a2) ∧ w'.cell? ⟨q, 3, none⟩ = some (.int .i64 a3) ∧ w'.cell? ⟨q, 4, none⟩ = some (.slice A4 a5 a6)))
    ((refine keepS _ ?_; repeat (first | exact Below.refl _ _ | assumption | apply below_alloc | apply below_drew | exact (And.left (by assumption)) | (apply below_next; assumption))))
    ((go_at_call 14; refine (hlv _ (by assumption)).mono ?_; rintro e w6 ⟨A6, c6, rfl, ⟨hle6, hm6⟩, hb5, hb6⟩))
  rename_i hHeld
  have k6 : Keeps (fun k => k = g ∨ k = h) w2 w6 := Keeps.of_below hb5 _
  have m6 := hM2.below hb5
  clear hHeld hb5 hb6 keepS hlv hM2
  have hw : IntKind.i64.wrap ((base : Int) + (t0.size : Int)) = ((base + t0.size : Nat) : Int) := by rw [IntWalk.i64_in _ (by omega)]; omega
  rcases par with _ | _
  · obtain ⟨⟨x0, x1, x2, x3, x4⟩, -, r0, -⟩ := look w6 k6
    go_wp2_with fail
    refine (hE0 w6 g h ps next base r0 m6 (by omega) (by omega) hl).mono ?_
    rintro e w7 ⟨rfl, bs7, m7, k7⟩
    have kk7 := k6.trans k7
    clear x0 x1 x2 x3 x4 r0
    go_wp2_with (refine wpl_set_blk m7.blk 2 (.int .i64 ((base + t0.size : Nat) : Int)) (by kernel_rfl) (by simp) rfl rfl rfl rfl rfl rfl ?_; intro w8 hB8 hg8; obtain ⟨m8, k8⟩ := m7.setbase hB8 hg8; have kk8 := kk7.trans k8; obtain ⟨-, ⟨x0, x1, x2, x3, x4⟩, -, r1⟩ := look w8 kk8; clear hB8 hg8)
    have hpl : (Sp.put ps base (t0.marks base next)).length = ps.length := Sp.put_length _ _ _ (by rw [hlen0]; omega)
    have hput := Sp.put_put ps (t0.marks base next) (t1.marks (base + t0.size) (next + t0.size)) base (by rw [hlen0, hlen1]; omega)
    rw [hlen0] at hput
    have hcall := hE1 w8 g h _ (next + t0.size) (base + t0.size) r1 m8 (by rw [hpl]; omega) (by omega) (by rw [hpl]; exact hl)
    rw [hput] at hcall
    clear hput hpl hE0 hE1 look m8 m7 m6
    refine hcall.mono ?_
    rintro e w9 ⟨rfl, bs9, m9, k9⟩
    clear hcall
    go_wp2
    go_end0
    exact ⟨rfl, bs9, by rw [← Nat.add_assoc]; exact m9, hk2.trans (kk8.trans k9)⟩
  · go_wp2_with (refine wpl_set_blk m6.blk 2 (.int .i64 ((base + t0.size : Nat) : Int)) (by kernel_rfl) (by simp) rfl rfl rfl rfl rfl rfl ?_; intro w7 hB7 hg7; obtain ⟨m7, k7⟩ := m6.setbase hB7 hg7; have kk7 := k6.trans k7; obtain ⟨-, ⟨x0, x1, x2, x3, x4⟩, -, r1⟩ := look w7 kk7; clear hB7 hg7)
    refine (hE1 w7 g h ps next (base + t0.size) r1 m7 (by omega) (by omega) hl).mono ?_
    rintro e w8 ⟨rfl, bs8, m8, k8⟩
    have kk8 := kk7.trans k8
    clear x0 x1 x2 x3 x4 r1
    go_wp2_with (refine wpl_set_blk m8.blk 2 (.int .i64 (base : Int)) (by kernel_rfl) (by simp) rfl rfl rfl rfl rfl rfl ?_; intro w9 hB9 hg9; obtain ⟨m9, k9⟩ := m8.setbase hB9 hg9; have kk9 := kk8.trans k9; obtain ⟨⟨x0, x1, x2, x3, x4⟩, -, r0, -⟩ := look w9 kk9; clear hB9 hg9)
    have hpl : (Sp.put ps (base + t0.size) (t1.marks (base + t0.size) next)).length = ps.length := Sp.put_length _ _ _ (by rw [hlen1]; omega)
    have hput := Sp.put_back ps (t0.marks base (next + t1.size)) (t1.marks (base + t0.size) next) base (by rw [hlen0, hlen1]; omega)
    rw [hlen0] at hput
    have hcall := hE0 w9 g h _ (next + t1.size) base r0 m9 (by rw [hpl]; omega) (by omega) (by rw [hpl]; exact hl)
    rw [hput] at hcall
    clear hput hpl hE0 hE1 look m9 m8 m7 m6
    refine hcall.mono ?_
    rintro e w10 ⟨rfl, bs10, m10, k10⟩
    clear hcall
    go_wp2
    go_end0
    exact ⟨rfl, bs10, by rw [show next + (t0.size + t1.size) = next + t1.size + t0.size from by omega]; exact m10, hk2.trans (kk9.trans k10)⟩

theorem tell_marks (t : Sp.T) : MarkTell t := by
  induction t with
  | nil =>
    intro B w g h ps next base cs hT hM hb hn hl
    have e : Sp.put ps base (Sp.T.nil.marks base next) = ps := Sp.put_nil _ _
    rw [e]
    refine tell_nil hT (f := 100) (fun k w => (meth_mk g k w).1) (fun _ _ => by rfl) ?_
    exact (mk_nothing B _ g h ps next base (hM.alloc _)).mono fun e w' h => mk_back (keeps_alloc _ _) h
  | one c b l =>
    intro B w g h ps next base cs hT hM hb hn hl
    have hb' : base + 1 ≤ ps.length := hb
    have hn' : next + 1 ≤ 4194304 := hn
    refine tell_one hT (f := 101) (fun k w => (meth_mk g k w).2.1) (fun _ _ => by rfl) ?_
    exact (mk_one B _ g h ps next base (hM.alloc _) (c, b, l) (by omega) (by omega) hl).mono fun e w' h => mk_back (keeps_alloc _ _) h
  | two par t0 t1 ih0 ih1 =>
    intro B w g h ps next base cs hT hM hb hn hl
    rw [Sp.T.size_two] at hn hb ⊢
    refine tell_two hT (f := 102) (fun k w => (meth_mk g k w).2.2.1) (fun k w => (meth_mk g k w).2.2.2) (fun _ _ => by rfl) hM.base ?_
    intro cs0 cs1 r0 r1
    have hk0 : Keeps (fun _ => False) w ((w.alloc (.cells cs.toArray 26)).drewN 1) := (keeps_alloc _ _).drewN 1
    have v0 : TmR B ((w.alloc (.cells cs.toArray 26)).drewN 1) cs0 t0 := r0.keep (Nat.le_refl _) (fun p hp => World.cell?_alloc_lt w _ p (by have := hM.base; omega))
    have v1 : TmR B ((w.alloc (.cells cs.toArray 26)).drewN 1) cs1 t1 := r1.keep (Nat.le_refl _) (fun p hp => World.cell?_alloc_lt w _ p (by have := hM.base; omega))
    have hM1 : Mk B ((w.alloc (.cells cs.toArray 26)).drewN 1) g h ps next base := (hM.alloc _).drewN 1
    exact (mk_two par t0 t1 ih0 ih1 B _ g h ps next base cs0 cs1 v0 v1 hM1 hb hn hl).mono fun e w' h => mk_back hk0 h
end Go.Proofs.Ytcoijmnnnfogdaa


namespace Go.Proofs.Ytcoijmnnnfogdaa
set_option linter.unusedVariables false
set_option linter.unusedSimpArgs false
set_option maxRecDepth 100000
open Go.RowKit

theorem made_flat (z : Value) (k n : Nat) (hk : 0 < k) : (madeCells (Array.replicate k z) n).toList = List.replicate n z := by
  apply List.ext_getElem?
  intro j
  by_cases hj : j < n
  · have := Nat.mod_lt j hk
    simp [madeCells, hj, this]
  · simp [madeCells, hj]

/-- 'make([]T, n)', T of some cells that are alike -/
theorem wp_make_flat {P : Program} (w : World) {ops : Array Oper} {rest : List Oper} {o : Oper} {a : Act} {Q : Exit → Act → World → Prop}
    (t e : TypeId) (z zc : Value) (size bytes : Nat) (n : Nat) (ht : P.underlying t = some (.slice e)) (hinfo : (P.info? e).map (fun i => (i.zero, i.size, i.bytes)) = some (some z, size, bytes)) (hz : z.cells = Array.replicate size zc) (hsz : 0 < size)
    {L C : Int} (hL : L = (n : Int)) (hC : C = (n : Int)) (b2 : bytes * n ≤ 281474976710656) (b3 : n ≤ 9223372036854775807)
    {l c : Operand} {kl kc : IntKind} (hg : o.guard = none) (hop : o.op = Op.makeSlice t l c) (hl : a.eval l = .int kl L) (hc : a.eval c = .int kc C)
    (hK : ∀ w', Blk w' w.heap.size e (List.replicate (n * size) zc) → Below w.heap.size w w' → w'.heap.size = w.heap.size + 1 → wpList P ops Q rest (a.put o.dst (.slice (some ⟨w.heap.size, 0, none⟩) n n)) w') :
    wpList P ops Q (o :: rest) a w := by
  obtain ⟨i, hi, hz0, hz1, hz2⟩ := info_parts hinfo
  refine wpList_plain hg fun K hK' => ?_
  subst hL
  subst hC
  have h63' : (n : Int) ≤ 9223372036854775807 := by omega
  have hb' : (i.bytes : Int) * (n : Int) ≤ 281474976710656 := by
    have h : ((i.bytes * n : Nat) : Int) ≤ 281474976710656 := by rw [hz2]; omega
    rwa [Int.natCast_mul] at h
  have hr := run_make (P := P) w t e i z ht hi hz0 kl kc n n (by omega) (Int.le_refl _) hb' h63'
  simp only [Int.toNat_natCast, hz1, hz] at hr
  unfold Oper.wp
  simp [execOp, hop, hl, hc, hr, Result.andThen]
  refine hK' _ _ (hK _ ?_ ((Below.refl _ _).alloc (Nat.le_refl _) _) (by simp))
  have := Blk.new w e (madeCells (Array.replicate size zc) (n * size)).toList
  rw [Array.toArray_toList] at this
  rwa [made_flat zc size _ hsz] at this

theorem info_pair : (Try.prog.info? 46).map (fun i => (i.zero, i.size, i.bytes)) = some (some (.agg #[.int .i64 0, .int .i64 0]), 2, 16) := by kernel_rfl

theorem marks_any (w : World) (cs : List Value) (t : Sp.T) (hT : TmR w.heap.size w cs t) (hn : t.size ≤ 4194304) :
    Calls Try.prog 28 #[.agg cs.toArray] w fun e w' => ∃ h, e = .returned (.slice (some ⟨h, 0, none⟩) t.size t.size) ∧ Blk w' h 46 (Sp.prcs (t.marks 0 0)) ∧ w.heap.size ≤ h ∧ Below w.heap.size w w' := by
  obtain ⟨a0, a1, a2, a3, A4, a5, a6, rfl, -, -⟩ := hT.form
  have hP := Blk.new w 26 (tcells a0 a1 a2 a3 A4 a5 a6)
  have s1 := hT.alloc (Nat.le_refl _) (.cells (tcells a0 a1 a2 a3 A4 a5 a6).toArray 26)
  have hb0 : Below w.heap.size w (w.alloc (.cells (tcells a0 a1 a2 a3 A4 a5 a6).toArray 26)) := below_alloc (Below.refl _ _) _
  unfold tcells at s1 hP hb0 ⊢
  clear hT
  go_enter Try.func28, Try.ntmps28
  go_wp2_with fail
  refine (leaves_any _ _ t (s1.keep (by simp) (fun _ _ => rfl)) hn).mono ?_
  rintro e w1 ⟨v, rfl, ⟨A7, c7, rfl, hle7, hm7, -, -⟩, hb1⟩
  have hb1' := below_next hb1 hb0
  have hP1 := hP.below (by simpa using hb1)
  have s2 := s1.later (hb1.mono (by simp))
  unfold maxLen at hm7
  have hsz1 : w.heap.size < w1.heap.size := by have := hb1.size; simp at this; omega
  obtain ⟨q, hq⟩ : ∃ q, q = w.heap.size := ⟨_, rfl⟩
  rw [← hq] at hP1 s2 hsz1 hb1' ⊢
  have HQ := Lib.hid hq
  clear hP s1 hb0 hb1 hq
  go_wp2_with (refine wp_make_flat w1 _ _ _ (.int .i64 0) 2 16 t.size Try.underlying38 info_pair rfl (by decide) rfl rfl (by omega) (by omega) rfl rfl rfl rfl ?_; intro w2 hR2 hb2 hsz2; have hP3 := (hP1.below hb2).alloc (.cells #[.int .i64 0, .slice (some ⟨w1.heap.size, 0, none⟩) t.size t.size, .int .i64 0] 90); have c0 := hP3.cell 0; have c1 := hP3.cell 1; have c2 := hP3.cell 2; have c3 := hP3.cell 3; have c4 := hP3.cell 4; simp only [List.getElem?_cons_zero, List.getElem?_cons_succ] at c0 c1 c2 c3 c4)
  have hq1 : q ≤ w1.heap.size := by omega
  have hB := Blk.new w2 90 [.int .i64 0, .slice (some ⟨w1.heap.size, 0, none⟩) t.size t.size, .int .i64 0]
  rw [hsz2] at hB
  have hrep : (List.replicate t.size ((0, 0) : Nat × Nat)).length = t.size := List.length_replicate
  have hM : Mk q (w2.alloc (.cells #[.int .i64 0, .slice (some ⟨w1.heap.size, 0, none⟩) t.size t.size, .int .i64 0] 90)) (w1.heap.size + 1) w1.heap.size (List.replicate t.size (0, 0)) 0 0 :=
    ⟨by rw [hrep]; exact hB, by rw [Sp.prcs_zero]; exact hR2.alloc _, by simp; omega, by omega, hq1, by omega⟩
  have s3 := (s2.later (hb2.mono hq1)).alloc (by omega) (.cells #[.int .i64 0, .slice (some ⟨w1.heap.size, 0, none⟩) t.size t.size, .int .i64 0] 90)
  have hb3 : Below q w (w2.alloc (.cells #[.int .i64 0, .slice (some ⟨w1.heap.size, 0, none⟩) t.size t.size, .int .i64 0] 90)) := (hb1'.trans (hb2.mono hq1)).trans ((Below.refl _ _).alloc (by omega) _)
  refine (tell_marks t q _ (w1.heap.size + 1) w1.heap.size _ 0 0 _ s3 hM (by rw [hrep]; omega) (by omega) (by rw [hrep]; exact hn)).mono ?_
  rintro e w4 ⟨rfl, bs, m4, k4⟩
  have hall := Sp.put_all (List.replicate t.size ((0, 0) : Nat × Nat)) (t.marks 0 0) (by rw [hrep, t.marks_length])
  rw [hall] at m4
  have hb4 : Below q w w4 := hb3.trans (k4.below hM.base (fun i hi => hi.elim (fun e => by omega) (fun e => by omega)))
  have d1 := m4.blk.cell 1
  rw [t.marks_length] at d1
  simp only [List.getElem?_cons_zero, List.getElem?_cons_succ] at d1
  have hrow := m4.row
  clear c0 c1 c2 c3 c4 hP3 hB hM s3 hb3 hall m4 k4 hR2 hb1'
  go_wp2
  go_ret
  rw [HQ.out] at hq1 hb4
  exact ⟨_, rfl, hrow, hq1, hb4⟩

theorem before_any (w : World) (cs : List Value) (t : Sp.T) (i j : Int) (hT : TmR w.heap.size w cs t) (hn : t.size ≤ 4194304) :
    Calls Try.prog 33 #[.agg cs.toArray, .int .i64 i, .int .i64 j] w fun e w' => e = .returned (.bool (t.before i j)) ∧ Below w.heap.size w w' := by
  obtain ⟨a0, a1, a2, a3, A4, a5, a6, rfl, -, -⟩ := hT.form
  have s1 := hT.alloc (Nat.le_refl _) (.cells (tcells a0 a1 a2 a3 A4 a5 a6).toArray 26)
  have hb0 : Below w.heap.size w (w.alloc (.cells (tcells a0 a1 a2 a3 A4 a5 a6).toArray 26)) := below_alloc (Below.refl _ _) _
  unfold tcells at s1 hb0 ⊢
  clear hT
  go_enter Try.func33, Try.ntmps33
  go_wp2_with fail
  refine (marks_any _ _ t (s1.keep (by simp) (fun _ _ => rfl)) hn).mono ?_
  rintro e w1 ⟨h, rfl, hrow, -, hb1⟩
  have hbf := below_next hb1 hb0
  clear s1 hb0 hb1
  by_cases hin : 0 ≤ i ∧ 0 ≤ j ∧ i < t.size ∧ j < t.size
  · obtain ⟨h1, h2, h3, h4⟩ := hin
    obtain ⟨a, rfl⟩ := Int.eq_ofNat_of_zero_le h1
    obtain ⟨b, rfl⟩ := Int.eq_ofNat_of_zero_le h2
    have ha : a < t.size := by omega
    have hb : b < t.size := by omega
    obtain ⟨ra, hra⟩ : ∃ r, r = t.rk a := ⟨_, rfl⟩
    obtain ⟨rb, hrb⟩ : ∃ r, r = t.rk b := ⟨_, rfl⟩
    have ga := Sp.prcs_get _ a _ (t.marks_get 0 0 a ha)
    have gb := Sp.prcs_get _ b _ (t.marks_get 0 0 b hb)
    rw [Nat.zero_add, Nat.zero_add] at ga gb
    rw [← hra] at ga
    rw [← hrb] at gb
    have c0 : w1.cell? ⟨h, a * 2, none⟩ = some (.int .i64 (a : Int)) := (hrow.cell (a * 2)).trans ga.1
    have c1 : w1.cell? ⟨h, a * 2 + 1, none⟩ = some (.int .i64 (ra : Int)) := (hrow.cell (a * 2 + 1)).trans ga.2
    have d0 : w1.cell? ⟨h, b * 2, none⟩ = some (.int .i64 (b : Int)) := (hrow.cell (b * 2)).trans gb.1
    have d1 : w1.cell? ⟨h, b * 2 + 1, none⟩ = some (.int .i64 (rb : Int)) := (hrow.cell (b * 2 + 1)).trans gb.2
    have hres : t.before (a : Int) (b : Int) = (decide ((a : Int) < (b : Int)) && decide ((ra : Int) < (rb : Int))) := by
      rw [Bool.eq_iff_iff, Bool.and_eq_true, decide_eq_true_iff, decide_eq_true_iff]
      unfold Sp.T.before Sp.T.bf
      rw [decide_eq_true_iff]
      simp only [Int.toNat_natCast, ← hra, ← hrb]
      omega
    have HR := Lib.hid hres
    clear hres hra hrb ga gb hrow
    have n1 : decide ((a : Int) < 0) = false := by simp
    have n2 : decide ((b : Int) < 0) = false := by simp
    have n3 : decide (t.size ≤ a) = false := by simp; omega
    have n4 : decide (t.size ≤ b) = false := by simp; omega
    by_cases hlt : a < b
    rotate_left
    · have hab : decide ((a : Int) < (b : Int)) = false := by simp; omega
      rw [hab, Bool.false_and] at HR
      have hab2 : decide (a < b) = false := by simp; omega
      clear hlt hab
      go_wp2
      go_quiet (fail)
      go_wp2
      go_ret
      exact ⟨ret_bool (by rw [HR.out]), hbf.trans (below_drewN (Below.refl _ _) _)⟩
    · have hab : decide ((a : Int) < (b : Int)) = true := by simp; omega
      rw [hab, Bool.true_and] at HR
      have hab2 : decide (a < b) = true := by simp; omega
      clear hlt hab
      go_wp2
      go_quiet (fail)
      go_wp2
      go_ret
      exact ⟨ret_bool (by rw [HR.out]; simp), hbf.trans (below_drewN (Below.refl _ _) _)⟩
  · have hres : t.before i j = false := by
      unfold Sp.T.before
      rw [decide_eq_false_iff_not]
      exact fun h => hin h.1
    have HR := Lib.hid hres
    clear hres hrow
    by_cases g1 : i < 0
    · go_wp2
      go_ret
      exact ⟨(show _ = Ending.returned (.bool false) from rfl).trans (by rw [HR.out]), hbf⟩
    by_cases g2 : j < 0
    · go_wp2
      go_ret
      exact ⟨(show _ = Ending.returned (.bool false) from rfl).trans (by rw [HR.out]), hbf⟩
    by_cases g3 : (t.size : Int) ≤ i
    · go_wp2
      go_ret
      exact ⟨(show _ = Ending.returned (.bool false) from rfl).trans (by rw [HR.out]), hbf⟩
    have g4 : (t.size : Int) ≤ j := by omega
    clear hin
    go_wp2
    go_ret
    exact ⟨(show _ = Ending.returned (.bool false) from rfl).trans (by rw [HR.out]), hbf⟩
end Go.Proofs.Ytcoijmnnnfogdaa


namespace Go.Proofs.Ytcoijmnnnfogdaa
set_option linter.unusedVariables false
set_option linter.unusedSimpArgs false
set_option maxRecDepth 100000
open Go Go.RowKit

theorem keeps_below {w w' : World} (h : Below w.heap.size w w') : Keeps (fun _ => False) w w' := Keeps.of_below h _
def FSl (sz n : Nat) (vs : List Value) : Fact (fun w w' => Below w.heap.size w w') := ⟨fun v w => SlV w sz v n vs, fun _ _ _ h k => h.below k⟩
/-- 'append(v, vs...)' as one operation -/
theorem oper_append {P : Program} {w : World} {o : Oper} {a : Act} {K : Act → World → Prop} {Q : Exit → Act → World → Prop} (s x : Operand)
    (base t e : TypeId) (z : Value) (size bytes : Nat) (ht : P.underlying t = some (.slice e)) (hinfo : (P.info? e).map (fun i => (i.zero, i.size, i.bytes)) = some (some z, size, bytes)) (hz : z.cells.size = size) (hsz : 0 < size)
    {v : Value} {n : Nat} {xs : List Value} (hown : w.ownsRow base e size v n xs) {vs : Value} {m : Nat} {news : List Value} (hsl : SlV w size vs m news) (h1 : ∀ u ∈ news, u.oneCell' = true)
    (h63 : n + m ≤ maxLen) (hbytes : (n + m) * bytes ≤ 140737488355328) (hbase : base ≤ w.heap.size) (ho : o.op = .call { callee := .builtin .append, args := #[s, x], argTypes := #[t, t] }) (hs : a.eval s = v) (hx : a.eval x = vs)
    (h : ∀ v' w', w'.ownsRow base e size v' (n + m) (xs ++ news) → w.grownBy w' v.ownBlock → (v'.ownBlock = v.ownBlock ∨ v'.ownBlock = some w.heap.size) → Below base w w' → K (a.put o.dst v') w') : o.wp P a w K Q := by
  obtain ⟨A, c, rfl, hle, hm, hlen, hc⟩ := hsl
  obtain ⟨v', w', hrun, h2, h3, h4⟩ := run_append (P := P) w base t o.type e z size bytes ht hinfo hz hsz v n xs hown w.heap.size A m c news hlen hc h1 h63 hbytes hbase
  unfold Oper.wp execOp
  simp only [ho, resolve, invoke, builtin, Sem.run_bind, Sem.run_pure, Result.andThen_ok, List.map_toArray, List.map_cons, List.map_nil, hs, hx, hrun]
  exact h v' w' h2 h3 h4 ((Below.refl _ _).grown h3 hbase (own_ge hown))

/-- a row of the call's own, that stays as it is -/
def FRow (B : Nat) (e : TypeId) (sz n : Nat) (vs : List Value) : Fact (fun w w' => Below w.heap.size w w') := ⟨fun v w => w.ownsRow B e sz v n vs, fun _ _ _ h k => own_keeps h (keeps_below k) (fun _ _ => id)⟩

/-- the first k elements -/
theorem SlV.takeV {w : World} {sz n c : Nat} {A : Option Addr} {vs : List Value} (h : SlV w sz (.slice A n c) n vs) (k : Nat) (hk : k ≤ n) : SlV w sz (.slice A k c) k (vs.take (k * sz)) := by
  obtain ⟨A', c', he, h1, h2, h3, h4⟩ := h
  injection he with e1 e2 e3
  subst e1 e3
  have := Nat.mul_le_mul_right sz hk
  exact ⟨A, c, rfl, by omega, h2, by rw [List.length_take, h3]; omega, h4.take _⟩
end Go.Proofs.Ytcoijmnnnfogdaa


namespace Go.Proofs.Ytcoijmnnnfogdaa
set_option linter.unusedVariables false
set_option linter.unusedSimpArgs false
set_option maxRecDepth 100000
open Go.RowKit

namespace Sp
theorem acccs_get (l : List Acc) (i : Nat) (p : Acc) (h : l[i]? = some p) : (acccs l)[i * 3]? = some (.int .i64 p.1) ∧ (acccs l)[i * 3 + 1]? = some (.bool p.2.1) ∧ (acccs l)[i * 3 + 2]? = some (.int .i64 p.2.2) :=
  ⟨flat_get accc 3 (fun _ => rfl) l i 0 p h (by omega), flat_get accc 3 (fun _ => rfl) l i 1 p h (by omega), flat_get accc 3 (fun _ => rfl) l i 2 p h (by omega)⟩
theorem take_snoc_eq {α : Type} {xs ys : List α} {k : Nat} {x y : α} (hx : xs[k]? = some x) (hy : ys[k]? = some y) (ht : xs.take k = ys.take k) (e : x = y) : xs.take (k + 1) = ys.take (k + 1) := by
  have hsn : ∀ (z : α) (l : List α), l[k]? = some z → l.take (k + 1) = l.take k ++ [z] := fun z l h => by
    obtain ⟨h', rfl⟩ := List.getElem?_eq_some_iff.1 h
    exact List.take_succ_eq_append_getElem h'
  rw [hsn _ _ hx, hsn _ _ hy, ht, e]
theorem ne_of_get {α : Type} {xs ys : List α} {k : Nat} {x y : α} (hx : xs[k]? = some x) (hy : ys[k]? = some y) (e : x ≠ y) : xs ≠ ys := by
  rintro rfl
  rw [hx] at hy
  injection hy with hy
  exact e hy
end Sp
end Go.Proofs.Ytcoijmnnnfogdaa


namespace Go.Proofs.Ytcoijmnnnfogdaa
set_option linter.unusedVariables false
set_option linter.unusedSimpArgs false
set_option maxRecDepth 100000
open Go.RowKit

theorem race_clash (w : World) (c1 l1 c2 l2 : Int) (b1 b2 : Bool) :
    Calls Try.prog 29 #[.agg #[.int .i64 c1, .bool b1, .int .i64 l1], .agg #[.int .i64 c2, .bool b2, .int .i64 l2]] w fun e w' => e = .returned (.bool (c1 == c2 && (b1 || b2))) ∧ Below w.heap.size w w' := by
  obtain ⟨x0, x1, hz, hk⟩ := two_allocs w [.int .i64 c1, .bool b1, .int .i64 l1] [.int .i64 c2, .bool b2, .int .i64 l2] 23 23
  have hb0 := hk.below (Nat.le_refl _) (fun i h => h.elim)
  go_enter Try.func29, Try.ntmps29
  have k1 := x0.cell 0
  have k2 := x0.cell 1
  have k3 := x1.cell 0
  have k4 := x1.cell 1
  simp only [List.getElem?_cons_zero, List.getElem?_cons_succ] at k1 k2 k3 k4
  clear x0 x1 hz hk
  rcases hc : c1 == c2 with _ | _
  · go_wp2_with fail
    go_ret
    exact ⟨rfl, hb0⟩
  · rcases b1 with _ | _
    · go_wp2_with fail
      go_ret
      exact ⟨rfl, hb0⟩
    · go_wp2_with fail
      go_ret
      exact ⟨rfl, hb0⟩

set_option maxHeartbeats 4000000 in
theorem race_races (t : Sp.T) (w : World) (cs : List Value) (hT : TmR w.heap.size w cs t) (hn : t.size ≤ 1048576) :
    Calls Try.prog 11 #[.agg cs.toArray] w fun e w' => ∃ u, e = .returned u ∧ w'.ownsRow w.heap.size 46 2 u (Rc.races t).length (Sp.prcs (Rc.races t)) ∧ Below w.heap.size w w' := by
  obtain ⟨a0, a1, a2, a3, A4, a5, a6, rfl, -, -⟩ := hT.form
  have x0 := Blk.new w 26 [.int .i64 a0, .int .i64 a1, .bool a2, .int .i64 a3, .slice A4 a5 a6]
  unfold tcells at hT ⊢
  have hb0 : Below w.heap.size w (w.alloc (.cells [Value.int .i64 a0, .int .i64 a1, .bool a2, .int .i64 a3, .slice A4 a5 a6].toArray 26)) := below_alloc (Below.refl _ _) _
  go_enter Try.func11, Try.ntmps11
  go_wp2_with fail
  obtain ⟨q, hq⟩ : ∃ q, q = w.heap.size := ⟨_, rfl⟩
  have hT0 := tm_up (hT.later hb0) hb0.size
  generalize (w.alloc (.cells [Value.int .i64 a0, .int .i64 a1, .bool a2, .int .i64 a3, .slice A4 a5 a6].toArray 26)) = w1 at x0 hb0 hT0 ⊢
  rw [← hq] at x0 ⊢
  have hX := Boxed.of x0 hT0 (Nat.le_refl _)
  have HQ := Lib.hid (And.intro hq hb0)
  clear x0 hb0 hT0 hq hT
  have keepS : ∀ w', Below w1.heap.size w1 w' → (Below w1.heap.size w1 w' ∧ w'.cell? ⟨q, 0, none⟩ = some (.int .i64 a0) ∧ w'.cell? ⟨q, 1, none⟩ = some (.int .i64 a1) ∧ w'.cell? ⟨q, 2, none⟩ = some (.bool a2) ∧ w'.cell? ⟨q, 3, none⟩ = some (.int .i64 a3) ∧ w'.cell? ⟨q, 4, none⟩ = some (.slice A4 a5 a6)) := fun w' hb =>
    ⟨hb, (hX.look _ hb).1.1, (hX.look _ hb).1.2.1, (hX.look _ hb).1.2.2.1, (hX.look _ hb).1.2.2.2.1, (hX.look _ hb).1.2.2.2.2⟩
  have gT : ∀ w', Below w1.heap.size w1 w' → TmR w'.heap.size w' [.int .i64 a0, .int .i64 a1, .bool a2, .int .i64 a3, .slice A4 a5 a6] t := fun w' hb => (hX.look _ hb).2
  have gL : ∀ w', Below w1.heap.size w1 w' → Calls Try.prog 14 #[.agg #[.int .i64 a0, .int .i64 a1, .bool a2, .int .i64 a3, .slice A4 a5 a6]] w' fun e w'' => ∃ v, e = .returned v ∧ SlV w'' 3 v t.size (Sp.acccs t.leaves) ∧ Below w'.heap.size w' w'' := fun w' hb => leaves_any w' _ t (gT w' hb) (by omega)
  have gM : ∀ w', Below w1.heap.size w1 w' → Calls Try.prog 28 #[.agg #[.int .i64 a0, .int .i64 a1, .bool a2, .int .i64 a3, .slice A4 a5 a6]] w' fun e w'' => ∃ v, e = .returned v ∧ SlV w'' 2 v t.size (Sp.prcs (t.marks 0 0)) ∧ Below w'.heap.size w' w'' := fun w' hb =>
    (marks_any w' _ t (gT w' hb) (by omega)).mono fun e w'' ⟨h, h1, h2, h3, h4⟩ => ⟨_, h1, SlV.of_blk h2 (by rw [Sp.prcs_length, t.marks_length]) (by omega), h4⟩
  have hS0 := keepS _ (below_drew (Below.refl _ _))
  clear hX gT
  refine wp_walk (by kernel_rfl) (by kernel_rfl) (fun w w' => Below w.heap.size w w') (fun w' => (Below w1.heap.size w1 w' ∧ w'.cell? ⟨q, 0, none⟩ = some (.int .i64 a0) ∧ w'.cell? ⟨q, 1, none⟩ = some (.int .i64 a1) ∧ w'.cell? ⟨q, 2, none⟩ = some (.bool a2) ∧ w'.cell? ⟨q, 3, none⟩ = some (.int .i64 a3) ∧ w'.cell? ⟨q, 4, none⟩ = some (.slice A4 a5 a6))) hS0 ?_
  repeat (first | (refine settle_skip (fun _ => by rfl) ?_; (simp only [Act.put, List.setIfInBounds_toArray, List.set_cons_zero, List.set_cons_succ])) | (refine' settle_run (fun _ _ => Below.refl _ _) (fun _ => by rfl) ?_ ?_; rotate_left; (focus (intro ρ w hS hF; (try dsimp only at hS); go_split_ands; go_simp; try with_reducible rfl)); (simp only [Act.put, List.setIfInBounds_toArray, List.set_cons_zero, List.set_cons_succ])))
  (refine settle_known (FSl 3 t.size (Sp.acccs t.leaves)) (by rfl) (fun _ => by rfl)  ?_ ?_; (focus (intro ρ w hS hF K hK; (simp only [Act.put, List.setIfInBounds_toArray, List.set_cons_zero, List.set_cons_succ] at hK); go_simp; (refine (gL _ hS.1).mono ?_; rintro e w' ⟨v, rfl, hF', hb'⟩; exact hK _ _ hF' (keepS _ (below_next hb' hS.1)) hb'))); (simp only [Act.put, List.setIfInBounds_toArray, List.set_cons_zero, List.set_cons_succ]))
  repeat (first | (refine settle_skip (fun _ => by rfl) ?_; (simp only [Act.put, List.setIfInBounds_toArray, List.set_cons_zero, List.set_cons_succ])) | (refine' settle_run (fun _ _ => Below.refl _ _) (fun _ => by rfl) ?_ ?_; rotate_left; (focus (intro ρ w hS hF; (try dsimp only at hS); go_split_ands; go_simp; try with_reducible rfl)); (simp only [Act.put, List.setIfInBounds_toArray, List.set_cons_zero, List.set_cons_succ])))
  (refine settle_known (FSl 2 t.size (Sp.prcs (t.marks 0 0))) (by rfl) (fun _ => by rfl)  ?_ ?_; (focus (intro ρ w hS hF K hK; (simp only [Act.put, List.setIfInBounds_toArray, List.set_cons_zero, List.set_cons_succ] at hK); go_simp; (refine (gM _ hS.1).mono ?_; rintro e w' ⟨v, rfl, hF', hb'⟩; exact hK _ _ hF' (keepS _ (below_next hb' hS.1)) hb'))); (simp only [Act.put, List.setIfInBounds_toArray, List.set_cons_zero, List.set_cons_succ]))
  (refine settle_known (FSl 3 t.size (Sp.acccs t.leaves)) (by rfl) (fun _ => by rfl)  ?_ ?_; (focus (intro ρ w hS hF K hK; (simp only [Act.put, List.setIfInBounds_toArray, List.set_cons_zero, List.set_cons_succ] at hK); go_simp; exact hK _ _ (hF.2.1 (by rfl)) hS (Below.refl _ _))); (simp only [Act.put, List.setIfInBounds_toArray, List.set_cons_zero, List.set_cons_succ]))
  (refine settle_known (FSl 2 t.size (Sp.prcs (t.marks 0 0))) (by rfl) (fun _ => by rfl)  ?_ ?_; (focus (intro ρ w hS hF K hK; (simp only [Act.put, List.setIfInBounds_toArray, List.set_cons_zero, List.set_cons_succ] at hK); go_simp; exact hK _ _ (hF.2.1 (by rfl)) hS (Below.refl _ _))); (simp only [Act.put, List.setIfInBounds_toArray, List.set_cons_zero, List.set_cons_succ]))
  refine settle_nil ?_
  intro ρ w2 hS hF
  have hL := hF 3 (FSl 3 t.size (Sp.acccs t.leaves)) (by repeat (first | exact List.mem_cons_self | apply List.mem_cons_of_mem))
  have hM := hF 4 (FSl 2 t.size (Sp.prcs (t.marks 0 0))) (by repeat (first | exact List.mem_cons_self | apply List.mem_cons_of_mem))
  have hb2 := hS.1
  dsimp only
  obtain ⟨PL, cL, eL, hleL, hmL, hlL, hL⟩ := hL
  obtain ⟨PM, cM, eM, hleM, hmM, hlM, hM⟩ := hM
  rw [eL, eM]
  have hbE := below_self HQ.out.2 hb2
  clear hF hS hS0 gL gM keepS eL eM hlL hlM hb2
  unfold maxLen at hmL hmM
  obtain ⟨N, hN⟩ : ∃ N, N = t.size := ⟨_, rfl⟩
  rw [← hN] at hleL hleM hn ⊢
  have HN := Lib.hid hN
  clear hN
  go_wp2_with fail
  go_loopw [5, 15] (fun out i wr => ∃ k : Nat, k ≤ N ∧ i = .int .i64 (k : Int) ∧ Below w2.heap.size w2 wr ∧ wr.ownsRow w2.heap.size 46 2 out (Rc.racesK t k).length (Sp.prcs (Rc.racesK t k))) (fun _ i _ => N - (intOf i).toNat)
  case atStart => exact ⟨0, Nat.zero_le _, rfl, Below.refl _ _, World.ownsRow_nil _ _ _ _⟩
  case round =>
    obtain ⟨i, hi, rfl, hb, hown⟩ := hrel
    obtain ⟨W0, hW0⟩ : ∃ W0, W0 = wr := ⟨_, rfl⟩
    subst hW0
    by_cases hlt : i < N
    · have hgi := Rc.acc_get (t := t) (n := i) (by rw [← HN.out]; exact hlt)
      obtain ⟨x1, x2, x3⟩ := Sp.acccs_get _ _ _ hgi
      obtain ⟨bL, oL, rfl, hbl, hcc⟩ := hL.at_ (fun e => by rw [e] at x1; simp at x1)
      have mi := Sp.prcs_get _ i _ (t.marks_get 0 0 i (by rw [← HN.out]; exact hlt))
      obtain ⟨bM, oM, rfl, hbm, hcm⟩ := hM.at_ (fun e => by rw [e] at mi; simp at mi)
      have m1 := hcm _ _ mi.2
      simp only [Nat.zero_add] at m1
      rw [← Nat.add_assoc] at m1
      have c1 := (hb.cell hbl).trans (hcc _ _ x1)
      have c2 := (hb.cell hbl).trans (hcc _ _ x2)
      have c3 := (hb.cell hbl).trans (hcc _ _ x3)
      rw [← Nat.add_assoc] at c2 c3
      obtain ⟨⟨ci, wi, li⟩, hei⟩ : ∃ x, x = Rc.acc t i := ⟨_, rfl⟩
      rw [← hei] at c1 c2 c3
      dsimp only at c1 c2 c3
      obtain ⟨ri, hri⟩ : ∃ r, r = t.rk i := ⟨_, rfl⟩
      rw [← hri] at m1
      have HI := Lib.hid (And.intro hei hri)
      clear hgi x1 x2 x3 mi hei hri
      have hB1 : Blk (W0.alloc (.cells #[.int .i64 ci, .bool wi, .int .i64 li] 23)) W0.heap.size 23 [.int .i64 ci, .bool wi, .int .i64 li] := Blk.new _ _ _
      have hbA : Below w2.heap.size w2 (W0.alloc (.cells #[.int .i64 ci, .bool wi, .int .i64 li] 23)) := below_alloc hb _
      have hownA := hown.alloc (.cells #[.int .i64 ci, .bool wi, .int .i64 li] 23)
      have HA := Lib.hid (And.intro hB1 (And.intro hbA hownA))
      clear hB1 hbA hownA hown hb
      go_wp2_with fail
      clear c1 c2 c3
      go_loopw [5, 8] (fun out j wr => ∃ m : Nat, m + (i + 1) ≤ N ∧ j = .int .i64 ((i + 1 + m : Nat) : Int) ∧ Below w2.heap.size w2 wr ∧ wr.ownsRow w2.heap.size 46 2 out (Rc.racesK t i ++ Rc.rowR t i m).length (Sp.prcs (Rc.racesK t i ++ Rc.rowR t i m)) ∧ Blk wr W0.heap.size 23 [.int .i64 ci, .bool wi, .int .i64 li]) (fun _ j _ => N - (intOf j).toNat)
      case atStart => exact ⟨0, by omega, by go_num, HA.out.2.1, by simpa [Rc.rowR_zero] using HA.out.2.2, HA.out.1⟩
      case round =>
        clear HA
        obtain ⟨m, hm, rfl, hbk, hownk, hBq⟩ := hrel
        obtain ⟨j, hj⟩ : ∃ j, j = i + 1 + m := ⟨_, rfl⟩
        rw [← hj]
        by_cases hjl : j < N
        · have hgj := Rc.acc_get (t := t) (n := j) (by rw [← HN.out]; exact hjl)
          obtain ⟨x1, x2, x3⟩ := Sp.acccs_get _ _ _ hgj
          have mj := Sp.prcs_get _ j _ (t.marks_get 0 0 j (by rw [← HN.out]; exact hjl))
          have m2 := hcm _ _ mj.2
          simp only [Nat.zero_add] at m2
          rw [← Nat.add_assoc] at m2
          have c1 := hcc _ _ x1
          have c2 := hcc _ _ x2
          have c3 := hcc _ _ x3
          rw [← Nat.add_assoc] at c2 c3
          obtain ⟨⟨cj, wj, lj⟩, hej⟩ : ∃ x, x = Rc.acc t j := ⟨_, rfl⟩
          rw [← hej] at c1 c2 c3
          dsimp only at c1 c2 c3
          obtain ⟨rj, hrj⟩ : ∃ r, r = t.rk j := ⟨_, rfl⟩
          rw [← hrj] at m2
          have hhit : Rc.hit t i j = ((ci == cj && (wi || wj)) && decide (rj < ri)) := by
            unfold Rc.hit Rc.clash
            rw [← hej, ← HI.out.1, hrj, HI.out.2]
          have hsucc := Rc.rowR_succ t i m
          rw [← hj] at hsucc
          have hcl := fun w' => race_clash w' ci li cj lj wi wj
          have hql := hBq.lt
          have hbl' := Nat.lt_of_lt_of_le hbl hbk.size
          have hbm' := Nat.lt_of_lt_of_le hbm hbk.size
          have n1 := (hbk.cell (p := ⟨bM, oM + i * 2 + 1, none⟩) hbm).trans m1
          have n2 := (hbk.cell (p := ⟨bM, oM + j * 2 + 1, none⟩) hbm).trans m2
          have d1 := (hbk.cell (p := ⟨bL, oL + j * 3, none⟩) hbl).trans c1
          have d2 := (hbk.cell (p := ⟨bL, oL + j * 3 + 1, none⟩) hbl).trans c2
          have d3 := (hbk.cell (p := ⟨bL, oL + j * 3 + 2, none⟩) hbl).trans c3
          have keepS : ∀ w', Below wr.heap.size wr w' → (Below wr.heap.size wr w' ∧ w'.cell? ⟨W0.heap.size, 0, none⟩ = some (.int .i64 ci) ∧ w'.cell? ⟨W0.heap.size, 1, none⟩ = some (.bool wi) ∧ w'.cell? ⟨W0.heap.size, 2, none⟩ = some (.int .i64 li) ∧ w'.cell? ⟨bM, oM + i * 2 + 1, none⟩ = some (.int .i64 (ri : Int)) ∧ w'.cell? ⟨bM, oM + j * 2 + 1, none⟩ = some (.int .i64 (rj : Int)) ∧ w'.cell? ⟨bL, oL + j * 3, none⟩ = some (.int .i64 cj) ∧ w'.cell? ⟨bL, oL + j * 3 + 1, none⟩ = some (.bool wj) ∧ w'.cell? ⟨bL, oL + j * 3 + 2, none⟩ = some (.int .i64 lj)) := fun w' hb =>
            ⟨hb, by rw [(hBq.below hb).cell]; rfl, by rw [(hBq.below hb).cell]; rfl, by rw [(hBq.below hb).cell]; rfl, (hb.cell (p := ⟨bM, oM + i * 2 + 1, none⟩) hbm').trans n1, (hb.cell (p := ⟨bM, oM + j * 2 + 1, none⟩) hbm').trans n2, (hb.cell (p := ⟨bL, oL + j * 3, none⟩) hbl').trans d1, (hb.cell (p := ⟨bL, oL + j * 3 + 1, none⟩) hbl').trans d2, (hb.cell (p := ⟨bL, oL + j * 3 + 2, none⟩) hbl').trans d3⟩
          have hS0 := keepS _ (below_drew (Below.refl _ _))
          have HK := Lib.hid keepS
          have HR := Lib.hid (And.intro hhit (And.intro hsucc (And.intro hj (And.intro hbk (And.intro hownk hBq)))))
          obtain ⟨C, hC⟩ : ∃ C, C = (ci == cj && (wi || wj)) := ⟨_, rfl⟩
          rw [← hC] at hcl hhit
          clear HR
          have HR := Lib.hid (And.intro hhit (And.intro hsucc (And.intro hj (And.intro hbk (And.intro hownk hBq)))))
          clear hgj x1 x2 x3 mj m2 c1 c2 c3 hej hrj hhit hsucc hbk hownk hBq n1 n2 d1 d2 d3 keepS hj hm hC hql hbl' hbm' m1
          rcases C with _ | _
          · go_wp2_with fail
            refine wp_walk (by kernel_rfl) (by kernel_rfl) (fun _ _ => True) (fun w' => (Below wr.heap.size wr w' ∧ w'.cell? ⟨W0.heap.size, 0, none⟩ = some (.int .i64 ci) ∧ w'.cell? ⟨W0.heap.size, 1, none⟩ = some (.bool wi) ∧ w'.cell? ⟨W0.heap.size, 2, none⟩ = some (.int .i64 li) ∧ w'.cell? ⟨bM, oM + i * 2 + 1, none⟩ = some (.int .i64 (ri : Int)) ∧ w'.cell? ⟨bM, oM + j * 2 + 1, none⟩ = some (.int .i64 (rj : Int)) ∧ w'.cell? ⟨bL, oL + j * 3, none⟩ = some (.int .i64 cj) ∧ w'.cell? ⟨bL, oL + j * 3 + 1, none⟩ = some (.bool wj) ∧ w'.cell? ⟨bL, oL + j * 3 + 2, none⟩ = some (.int .i64 lj))) hS0 ?_
            repeat (first | (refine settle_skip (fun _ => by rfl) ?_; (simp only [Act.put, List.setIfInBounds_toArray, List.set_cons_zero, List.set_cons_succ])) | (refine' settle_run (fun _ _ => trivial) (fun _ => by rfl) ?_ ?_; rotate_left; (focus (intro ρ w hS hF; (try dsimp only at hS); go_split_ands; go_simp; try with_reducible rfl)); (simp only [Act.put, List.setIfInBounds_toArray, List.set_cons_zero, List.set_cons_succ])))
            (refine' settle_step (fun _ => by rfl) ?_ ?_; rotate_left; (focus (intro ρ w hS hF K hK; (simp only [Act.put, List.setIfInBounds_toArray, List.set_cons_zero, List.set_cons_succ] at hK); go_simp; go_at_call 29; refine (hcl _).mono ?_; rintro e w6 ⟨rfl, hb6⟩; have hS' := HK.out _ (below_next hb6 hS.1); have hE' := True.intro; exact hK _ hS' hE')); (simp only [Act.put, List.setIfInBounds_toArray, List.set_cons_zero, List.set_cons_succ]))
            repeat (first | (refine settle_skip (fun _ => by rfl) ?_; (simp only [Act.put, List.setIfInBounds_toArray, List.set_cons_zero, List.set_cons_succ])) | (refine' settle_run (fun _ _ => trivial) (fun _ => by rfl) ?_ ?_; rotate_left; (focus (intro ρ w hS hF; (try dsimp only at hS); go_split_ands; go_simp; try with_reducible rfl)); (simp only [Act.put, List.setIfInBounds_toArray, List.set_cons_zero, List.set_cons_succ])))
            refine settle_nil ?_
            intro ρ w5 hS _
            have hb5 := hS.1
            clear hS hS0
            dsimp only
            go_wp2_with fail
            go_roundw
            case rel =>
              obtain ⟨hhit, hsucc, hj, hbk, hownk, hBq⟩ := HR.out
              refine ⟨m + 1, by omega, by rw [hj]; go_num, below_next hb5 hbk, ?_, hBq.below hb5⟩
              rw [hsucc, hhit]
              simpa using own_keeps hownk (Keeps.of_below hb5 (fun _ => False)) (fun _ _ => id)
            case measure => simp [intOf]; omega
          · rcases hrr : decide (rj < ri) with _ | _
            · go_wp2_with fail
              refine wp_walk (by kernel_rfl) (by kernel_rfl) (fun _ _ => True) (fun w' => (Below wr.heap.size wr w' ∧ w'.cell? ⟨W0.heap.size, 0, none⟩ = some (.int .i64 ci) ∧ w'.cell? ⟨W0.heap.size, 1, none⟩ = some (.bool wi) ∧ w'.cell? ⟨W0.heap.size, 2, none⟩ = some (.int .i64 li) ∧ w'.cell? ⟨bM, oM + i * 2 + 1, none⟩ = some (.int .i64 (ri : Int)) ∧ w'.cell? ⟨bM, oM + j * 2 + 1, none⟩ = some (.int .i64 (rj : Int)) ∧ w'.cell? ⟨bL, oL + j * 3, none⟩ = some (.int .i64 cj) ∧ w'.cell? ⟨bL, oL + j * 3 + 1, none⟩ = some (.bool wj) ∧ w'.cell? ⟨bL, oL + j * 3 + 2, none⟩ = some (.int .i64 lj))) hS0 ?_
              repeat (first | (refine settle_skip (fun _ => by rfl) ?_; (simp only [Act.put, List.setIfInBounds_toArray, List.set_cons_zero, List.set_cons_succ])) | (refine' settle_run (fun _ _ => trivial) (fun _ => by rfl) ?_ ?_; rotate_left; (focus (intro ρ w hS hF; (try dsimp only at hS); go_split_ands; go_simp; try with_reducible rfl)); (simp only [Act.put, List.setIfInBounds_toArray, List.set_cons_zero, List.set_cons_succ])))
              (refine' settle_step (fun _ => by rfl) ?_ ?_; rotate_left; (focus (intro ρ w hS hF K hK; (simp only [Act.put, List.setIfInBounds_toArray, List.set_cons_zero, List.set_cons_succ] at hK); go_simp; go_at_call 29; refine (hcl _).mono ?_; rintro e w6 ⟨rfl, hb6⟩; have hS' := HK.out _ (below_next hb6 hS.1); have hE' := True.intro; exact hK _ hS' hE')); (simp only [Act.put, List.setIfInBounds_toArray, List.set_cons_zero, List.set_cons_succ]))
              repeat (first | (refine settle_skip (fun _ => by rfl) ?_; (simp only [Act.put, List.setIfInBounds_toArray, List.set_cons_zero, List.set_cons_succ])) | (refine' settle_run (fun _ _ => trivial) (fun _ => by rfl) ?_ ?_; rotate_left; (focus (intro ρ w hS hF; (try dsimp only at hS); go_split_ands; go_simp; try with_reducible rfl)); (simp only [Act.put, List.setIfInBounds_toArray, List.set_cons_zero, List.set_cons_succ])))
              refine settle_nil ?_
              intro ρ w5 hS _
              have hb5 := hS.1
              clear hS hS0
              dsimp only
              go_wp2_with fail
              go_roundw
              case rel =>
                obtain ⟨hhit, hsucc, hj, hbk, hownk, hBq⟩ := HR.out
                refine ⟨m + 1, by omega, by rw [hj]; go_num, below_next hb5 hbk, ?_, hBq.below hb5⟩
                rw [hsucc, hhit, hrr]
                simpa using own_keeps hownk (Keeps.of_below hb5 (fun _ => False)) (fun _ _ => id)
              case measure => simp [intOf]; omega
            · go_wp2_with fail
              refine wp_walk (by kernel_rfl) (by kernel_rfl) (fun _ _ => True) (fun w' => (Below wr.heap.size wr w' ∧ w'.cell? ⟨W0.heap.size, 0, none⟩ = some (.int .i64 ci) ∧ w'.cell? ⟨W0.heap.size, 1, none⟩ = some (.bool wi) ∧ w'.cell? ⟨W0.heap.size, 2, none⟩ = some (.int .i64 li) ∧ w'.cell? ⟨bM, oM + i * 2 + 1, none⟩ = some (.int .i64 (ri : Int)) ∧ w'.cell? ⟨bM, oM + j * 2 + 1, none⟩ = some (.int .i64 (rj : Int)) ∧ w'.cell? ⟨bL, oL + j * 3, none⟩ = some (.int .i64 cj) ∧ w'.cell? ⟨bL, oL + j * 3 + 1, none⟩ = some (.bool wj) ∧ w'.cell? ⟨bL, oL + j * 3 + 2, none⟩ = some (.int .i64 lj))) hS0 ?_
              repeat (first | (refine settle_skip (fun _ => by rfl) ?_; (simp only [Act.put, List.setIfInBounds_toArray, List.set_cons_zero, List.set_cons_succ])) | (refine' settle_run (fun _ _ => trivial) (fun _ => by rfl) ?_ ?_; rotate_left; (focus (intro ρ w hS hF; (try dsimp only at hS); go_split_ands; go_simp; try with_reducible rfl)); (simp only [Act.put, List.setIfInBounds_toArray, List.set_cons_zero, List.set_cons_succ])))
              (refine' settle_step (fun _ => by rfl) ?_ ?_; rotate_left; (focus (intro ρ w hS hF K hK; (simp only [Act.put, List.setIfInBounds_toArray, List.set_cons_zero, List.set_cons_succ] at hK); go_simp; go_at_call 29; refine (hcl _).mono ?_; rintro e w6 ⟨rfl, hb6⟩; have hS' := HK.out _ (below_next hb6 hS.1); have hE' := True.intro; exact hK _ hS' hE')); (simp only [Act.put, List.setIfInBounds_toArray, List.set_cons_zero, List.set_cons_succ]))
              repeat (first | (refine settle_skip (fun _ => by rfl) ?_; (simp only [Act.put, List.setIfInBounds_toArray, List.set_cons_zero, List.set_cons_succ])) | (refine' settle_run (fun _ _ => trivial) (fun _ => by rfl) ?_ ?_; rotate_left; (focus (intro ρ w hS hF; (try dsimp only at hS); go_split_ands; go_simp; try with_reducible rfl)); (simp only [Act.put, List.setIfInBounds_toArray, List.set_cons_zero, List.set_cons_succ])))
              refine settle_nil ?_
              intro ρ w5 hS _
              have hb5 := hS.1
              clear hS hS0
              dsimp only
              obtain ⟨hhit, hsucc, hj, hbk, hownk, hBq⟩ := HR.out
              have hbk5 := below_next hb5 hbk
              have hown5 := own_keeps hownk (Keeps.of_below hb5 (fun _ => False)) (fun _ _ => id)
              have hB5 := hBq.below hb5
              have hbase5 := hbk5.size
              have hlen1 := Rc.racesK_len t i
              have hlen2 := Rc.rowR_len t i m
              have hlen3 : i * t.size ≤ 1048576 * 1048576 := Nat.mul_le_mul (by omega) (by rw [← HN.out]; exact hn)
              have hmj : m ≤ 1048576 := by omega
              have n63 : (Rc.racesK t i ++ Rc.rowR t i m).length + 1 ≤ maxLen := by rw [List.length_append]; unfold maxLen; omega
              have n47 : ((Rc.racesK t i ++ Rc.rowR t i m).length + 1) * 16 ≤ 140737488355328 := by rw [List.length_append]; omega
              have hne := own_blk_ne hown5 hB5 (by decide)
              have HC := Lib.hid (And.intro hbk5 hB5)
              clear hhit hsucc hj hbk hownk hBq hlen1 hlen2 hlen3 hbk5 hB5 hmj
              go_wp2_with (first | (at_builtin; refine wp_push_at _ _ _ _ (by first | rfl | simp) _ _ _ _ _ _ Try.underlying38 info_pair rfl (by decide) hown5 [.int .i64 (i : Int), .int .i64 (j : Int)] rfl (by simp [Value.oneCell']) n63 n47 hbase5 rfl rfl rfl rfl ?_; intro v7 w7 hr7 hg7 hv7 hb7) | fail)
              have HP := Lib.hid (And.intro hr7 (And.intro (HC.out.1.trans hb7) (HC.out.2.grown hg7 (fun e => hne e.symm))))
              clear hr7 hg7 hv7 hb7 hne
              go_roundw
              case rel =>
                obtain ⟨hhit, hsucc, hj, -, -, -⟩ := HR.out
                refine ⟨m + 1, by omega, by rw [hj]; go_num, HP.out.2.1, ?_, HP.out.2.2⟩
                rw [hsucc, hhit, hrr]
                have := HP.out.1
                simpa [Sp.prcs_append, Sp.prcs, Sp.prc, Nat.add_assoc] using this
              case measure => simp [intOf]; omega
        · have hmN : m = N - (i + 1) := by omega
          have HC := Lib.hid (And.intro hbk hownk)
          have HJ := Lib.hid hmN
          clear hbk hownk hBq hmN
          go_wp2_with fail
          go_roundw
          case rel => exact ⟨i + 1, by omega, by go_num, HC.out.1, by rw [Rc.racesK_succ, ← HN.out, ← HJ.out]; exact HC.out.2⟩
          case measure => simp [intOf]; omega
    · obtain rfl : i = N := by omega
      have HC := Lib.hid (And.intro (below_self hbE hb) (own_base hown (Nat.le_trans hbE.size (Nat.le_refl _))))
      obtain ⟨Ao, co, rfl, -, -⟩ := own_slice hown
      clear hown hb hbE
      go_wp2_with fail
      go_ret
      have e : Rc.races t = Rc.racesK t i := by
        rw [HN.out]
        rfl
      refine ⟨_, rfl, ?_, HC.out.1⟩
      rw [e]
      exact HC.out.2
end Go.Proofs.Ytcoijmnnnfogdaa


namespace Go.Proofs.Ytcoijmnnnfogdaa
set_option linter.unusedVariables false
set_option linter.unusedSimpArgs false
set_option maxRecDepth 100000
open Go.RowKit

theorem info_rc : (Try.prog.info? 3).map (fun i => (i.zero, i.size, i.bytes)) = some (some (.int .i64 0), 1, 8) := by kernel_rfl

/-- what right answers -/
def RtPost (t : Sp.T) (zs : List Int) (w : World) : Ending → World → Prop := fun e w' => ∃ b : Bool, e = .returned (.bool b) ∧ (b = true ↔ Rc.RightI t zs) ∧ Below w.heap.size w w'
theorem RtPost.no {t : Sp.T} {zs : List Int} {w w' : World} {e : Ending} (he : e = .returned (.bool false)) (h : ¬ Rc.RightI t zs) (hb : Below w.heap.size w w') : RtPost t zs w e w' := ⟨false, he, ⟨fun h => (by cases h), fun h' => absurd h' h⟩, hb⟩
theorem RtPost.yes {t : Sp.T} {zs : List Int} {w w' : World} {e : Ending} (he : e = .returned (.bool true)) (h : Rc.RightI t zs) (hb : Below w.heap.size w w') : RtPost t zs w e w' := ⟨true, he, ⟨fun _ => h, fun _ => rfl⟩, hb⟩

set_option maxHeartbeats 4000000 in
theorem race_right (t : Sp.T) (zs : List Int) (w : World) (cs : List Value) (v : Value) (hT : TmR w.heap.size w cs t) (hn : t.size ≤ 1048576) (hz : SlV w 1 v zs.length (ints .i64 zs)) :
    Calls Try.prog 27 #[.agg cs.toArray, v] w (RtPost t zs w) := by
  obtain ⟨a0, a1, a2, a3, A4, a5, a6, rfl, -, -⟩ := hT.form
  have x0 := Blk.new w 26 [.int .i64 a0, .int .i64 a1, .bool a2, .int .i64 a3, .slice A4 a5 a6]
  unfold tcells at hT ⊢
  have hb0 : Below w.heap.size w (w.alloc (.cells [Value.int .i64 a0, .int .i64 a1, .bool a2, .int .i64 a3, .slice A4 a5 a6].toArray 26)) := below_alloc (Below.refl _ _) _
  obtain ⟨PZ, cZ, rfl, hleZ, hmZ, hlZ, hcZ⟩ := hz
  have hsl : SlV w 1 (.slice PZ zs.length cZ) zs.length (ints .i64 zs) := ⟨PZ, cZ, rfl, hleZ, hmZ, hlZ, hcZ⟩
  have hsl0 := hsl.below hb0
  unfold maxLen at hmZ
  clear hlZ hcZ hsl
  go_enter Try.func27, Try.ntmps27
  go_wp2_with fail
  have hT0 := tm_up (hT.later hb0) hb0.size
  refine (marks_any _ _ t hT0 (by omega)).mono ?_
  rintro e w1 ⟨pm, rfl, hrow, hh, hb1⟩
  have hsl1 := hsl0.below hb1
  have hbw := below_next hb1 hb0
  have hM := SlV.of_blk hrow (sz := 2) (n := t.size) (by rw [Sp.prcs_length, t.marks_length]) (by omega)
  have hhl := hrow.lt
  have hcell : ∀ i, i < t.size → w1.cell? ⟨pm, i * 2, none⟩ = some (.int .i64 (i : Int)) ∧ w1.cell? ⟨pm, i * 2 + 1, none⟩ = some (.int .i64 (t.rk i : Int)) := fun i hi => by
    have := Sp.prcs_get _ i _ (t.marks_get 0 0 i hi)
    rw [hrow.cell, hrow.cell, this.1, this.2]
    simp
  clear hb0 hT0 x0 hT hb1 hsl0 hrow hM
  obtain ⟨N, hN⟩ : ∃ N, N = t.size := ⟨_, rfl⟩
  rw [← hN] at hn hcell ⊢
  have HN := Lib.hid hN
  have HC := Lib.hid hcell
  clear hN hcell
  obtain ⟨L, hL⟩ : ∃ L, L = zs.length := ⟨_, rfl⟩
  rw [← hL] at hsl1 hleZ ⊢
  have HL := Lib.hid hL
  clear hL
  rcases hne : ((L : Int) != (N : Int)) with _ | _
  rotate_left
  · go_wp2_with (at_make; refine wp_make_flat w1 33 3 (.int .i64 0) (.int .i64 0) 1 8 N Try.underlying33 info_rc rfl (by decide) rfl rfl (by omega) (by omega) rfl rfl rfl rfl ?_; intro w2 hB2 hb2 hs2)
    go_ret
    refine RtPost.no rfl (fun h => ?_) (below_self hbw hb2)
    have h1 := h.len
    have h2 : (L : Int) ≠ N := by simpa using hne
    rw [HN.out, HL.out] at h2
    omega
  have hLN : L = N := by have : (L : Int) = N := by simpa using hne
                         omega
  go_wp2_with (at_make; refine wp_make_flat w1 33 3 (.int .i64 0) (.int .i64 0) 1 8 N Try.underlying33 info_rc rfl (by decide) rfl rfl (by omega) (by omega) rfl rfl rfl rfl ?_; intro w2 hB2 hb2 hs2)
  rw [Nat.mul_one, ← Rc.atL_nil] at hB2
  have hg2 := hB2.lt
  have hS1 := Lib.hid hsl1
  have HW := Lib.hid hbw
  clear hs2 hsl1 hne hbw
  subst hLN
  go_wp2_with fail
  go_loopw [25] (fun i wr => ∃ k : Nat, k ≤ L ∧ i = .int .i64 (k : Int) ∧ Below w1.heap.size w1 wr ∧ Blk wr w1.heap.size 3 (Rc.atL L (zs.take k)) ∧ Rc.Pre L (zs.take k)) (fun i _ => L - (intOf i).toNat)
  case atStart => exact ⟨0, Nat.zero_le _, rfl, hb2, hB2, Rc.Pre.nil _⟩
  case round =>
    clear hb2 hB2
    obtain ⟨k, hk, rfl, hb, hB, hp⟩ := hrel
    by_cases hlt : k < L
    · obtain ⟨z, hzk⟩ : ∃ z, zs[k]? = some z := ⟨_, List.getElem?_eq_getElem (by rw [← HL.out]; exact hlt)⟩
      have htk : zs.take (k + 1) = zs.take k ++ [z] := by
        obtain ⟨h', rfl⟩ := List.getElem?_eq_some_iff.1 hzk
        exact List.take_succ_eq_append_getElem h'
      have hno : ¬ Rc.Pre L (zs.take k ++ [z]) → ¬ Rc.RightI t zs := fun h1 h2 => h1 (by
        rw [← htk]
        have := h2.pre
        rw [← List.take_append_drop (k + 1) zs, ← HN.out] at this
        exact this.head)
      obtain ⟨_, _, e5, -, -, -, hcc⟩ := hS1.out.below hb
      injection e5 with e5 _ e6
      subst e5 e6
      have gz : (ints .i64 zs)[k]? = some (.int .i64 z) := by
        unfold ints
        rw [List.getElem?_map, hzk]
        rfl
      obtain ⟨b, o, rfl, hbl, hcc⟩ := hcc.at_ (fun e => by rw [e] at gz; simp at gz)
      have c1 := hcc _ _ gz
      have hlen : (zs.take k).length = k := by rw [List.length_take, ← HL.out]; omega
      have HK := Lib.hid (And.intro htk (And.intro hno (And.intro hb (And.intro hB (And.intro hp hlen)))))
      clear hzk htk hno hcc gz hb hp hlen
      by_cases h1 : z < 0
      · have g1 : decide (z < 0) = true := by simpa using h1
        clear hB
        go_wp2_with fail
        go_ret
        refine RtPost.no rfl (fun h => ?_) (below_self HW.out HK.out.2.2.1)
        exact absurd h (HK.out.2.1 fun hp => by have := hp.last; omega)
      obtain ⟨n, rfl⟩ := Int.eq_ofNat_of_zero_le (show 0 ≤ z by omega)
      have g1 : decide ((n : Int) < 0) = false := by simp
      by_cases h2 : L ≤ n
      · have g2 : decide (L ≤ n) = true := by simpa using h2
        clear hB
        go_wp2_with fail
        go_ret
        refine RtPost.no rfl (fun h => ?_) (below_self HW.out HK.out.2.2.1)
        exact absurd h (HK.out.2.1 fun hp => by have := hp.last; omega)
      have g2 : decide (L ≤ n) = false := by simpa using h2
      have hnl : n < L := by omega
      have ca := hB.cell n
      rw [Rc.atL_get hnl] at ca
      have hap := Rc.atf_pos (pre := zs.take k) (n := n)
      have hal := Rc.atf_le (zs.take k) n
      obtain ⟨A, hA⟩ : ∃ A, A = Rc.atf (zs.take k) n := ⟨_, rfl⟩
      rw [← hA] at ca hap hal
      clear hA
      by_cases h3 : 0 < A
      · have g3 : decide (0 < A) = true := by simpa using h3
        have hmem := hap.1 h3
        clear hB hap hal
        go_wp2_with fail
        go_ret
        refine RtPost.no rfl (fun h => ?_) (below_self HW.out HK.out.2.2.1)
        exact absurd h (HK.out.2.1 fun hp => hp.last.2.2 hmem)
      have g3 : decide (0 < A) = false := by simpa using h3
      have hmem : (n : Int) ∉ zs.take k := fun h => h3 (hap.2 h)
      have HM := Lib.hid hmem
      clear hap hal h1 h2 h3 hmem
      go_wp2_with (refine wpl_set_blk hB n (.int .i64 ((k : Int) + 1)) (by kernel_rfl) (by rw [Rc.atL_length]; exact hnl) rfl rfl rfl rfl rfl rfl ?_; intro w4 hB4 hg4)
      go_roundw
      case rel =>
        obtain ⟨htk, hno, hb, -, hp, hlen⟩ := HK.out
        refine ⟨k + 1, by omega, by go_num, hb.trans (below_of_grown hg4 hb.size (Nat.le_refl _)), ?_, ?_⟩
        · rw [htk, ← Rc.atL_set hnl HM.out, hlen]
          exact hB4
        · rw [htk]
          exact hp.snoc hnl HM.out
      case measure => simp [intOf]; omega
    · obtain rfl : L = k := by omega
      have htk : zs.take L = zs := List.take_of_length_le (by rw [← HL.out]; exact Nat.le_refl _)
      rw [htk] at hB hp
      have HP := Lib.hid hp
      have HB0 := Lib.hid hb
      clear htk hp hb
      go_wp2_with fail
      obtain ⟨W1, hW1⟩ : ∃ W1, W1 = wr := ⟨_, rfl⟩
      subst hW1
      go_loopw [53] (fun i wr' => ∃ k : Nat, k ≤ L ∧ i = .int .i64 (k : Int) ∧ Below W1.heap.size W1 wr' ∧ ∀ a b, a < k → a < b → b < L → Rc.Ups t zs a b) (fun i _ => L - (intOf i).toNat)
      case atStart => exact ⟨0, Nat.zero_le _, rfl, Below.refl _ _, fun a b h => absurd h (Nat.not_lt_zero _)⟩
      case round =>
        obtain ⟨i, hi, rfl, hb, hu⟩ := hrel
        obtain ⟨W0, hW0⟩ : ∃ W0, W0 = wr := ⟨_, rfl⟩
        subst hW0
        by_cases hli : i < L
        · obtain ⟨m1, m2⟩ := HC.out i hli
          have hb01 := below_next hb HB0.out
          have c1 := (hb01.cell (p := ⟨pm, i * 2, none⟩) hhl).trans m1
          have c2 := (hb01.cell (p := ⟨pm, i * 2 + 1, none⟩) hhl).trans m2
          have hB1 : Blk (W0.alloc (.cells #[.int .i64 (i : Int), .int .i64 (t.rk i : Int)] 46)) W0.heap.size 46 [.int .i64 (i : Int), .int .i64 (t.rk i : Int)] := Blk.new _ _ _
          have hbA : Below W1.heap.size W1 (W0.alloc (.cells #[.int .i64 (i : Int), .int .i64 (t.rk i : Int)] 46)) := below_alloc hb _
          obtain ⟨ri, hri⟩ : ∃ r, r = t.rk i := ⟨_, rfl⟩
          rw [← hri] at c2 hB1 hbA
          have HU := Lib.hid (And.intro hu hri)
          have b1 : (i : Int) + 1 ≤ L := by omega
          have b2 : 0 ≤ (i : Int) + 1 := by omega
          have b3 : ((i : Int) + 1).toNat = i + 1 := by omega
          clear m1 m2 hu hri hb hb01
          by_cases hlast : L = i + 1
          · have g1 : (L : Int) - ((i : Int) + 1) = 0 := by omega
            go_wp2_with fail
            go_loopw [63] (fun j wr' => j = .int .i64 0 ∧ Below W1.heap.size W1 wr') (fun j _ => 0)
            case atStart => exact ⟨rfl, hbA⟩
            case round =>
              obtain ⟨rfl, hbk⟩ := hrel
              have HX := Lib.hid hbk
              clear hB c1 c2 hB1 hbk hbA
              go_wp2_with fail
              go_roundw
              case rel => exact ⟨i + 1, by omega, by go_num, HX.out, fun a b h1 h2 h3 => HU.out.1 a b (by omega) h2 h3⟩
              case measure => simp [intOf]; omega
          · have b4 : i + 1 < L := by omega
            go_wp2_with fail
            go_loopw [63] (fun j wr' => ∃ m : Nat, m + (i + 1) ≤ L ∧ j = .int .i64 (m : Int) ∧ Below W1.heap.size W1 wr' ∧ Blk wr' W0.heap.size 46 [.int .i64 (i : Int), .int .i64 (ri : Int)] ∧ ∀ b, i < b → b < i + 1 + m → Rc.Ups t zs i b) (fun j _ => L - (intOf j).toNat)
            case atStart => exact ⟨0, by omega, rfl, hbA, hB1, fun b h1 h2 => by omega⟩
            case round =>
              clear hbA hB1 c1 c2
              obtain ⟨m, hm, rfl, hbk, hBq, hv⟩ := hrel
              have HV := Lib.hid hv
              clear hv
              have hb1k := below_next hbk HB0.out
              by_cases hml : i + 1 + m < L
              · obtain ⟨m1, m2⟩ := HC.out (i + 1 + m) hml
                have c1 := (hb1k.cell (p := ⟨pm, (i + 1 + m) * 2, none⟩) hhl).trans m1
                have c2 := (hb1k.cell (p := ⟨pm, (i + 1 + m) * 2 + 1, none⟩) hhl).trans m2
                rw [show (i + 1 + m) * 2 = (i + 1) * 2 + m * 2 by omega] at c1 c2
                obtain ⟨J, hJ⟩ : ∃ J : Int, J = ((i + 1 + m : Nat) : Int) := ⟨_, rfl⟩
                obtain ⟨rj, hrj⟩ : ∃ r, r = t.rk (i + 1 + m) := ⟨_, rfl⟩
                rw [← hJ] at c1
                rw [← hrj] at c2
                have a1 := hB.cell i
                have a2 := hB.cell (i + 1 + m)
                rw [Rc.atL_get (by omega)] at a1
                rw [Rc.atL_get hml] at a2
                obtain ⟨A1, hA1⟩ : ∃ A, A = Rc.atf zs i := ⟨_, rfl⟩
                obtain ⟨A2, hA2⟩ : ∃ A, A = Rc.atf zs (i + 1 + m) := ⟨_, rfl⟩
                rw [← hA1] at a1
                rw [← hA2] at a2
                have hbW := hB.lt
                have hbkA : Below W1.heap.size W1 (wr.alloc (.cells #[.int .i64 J, .int .i64 (rj : Int)] 46)) := below_alloc hbk _
                have hA : Blk (wr.alloc (.cells #[.int .i64 J, .int .i64 (rj : Int)] 46)) wr.heap.size 46 [.int .i64 J, .int .i64 (rj : Int)] := Blk.new _ _ _
                have hBqA := hBq.alloc (.cells #[.int .i64 J, .int .i64 (rj : Int)] 46)
                have HF := Lib.hid (And.intro hrj (And.intro hA1 hA2))
                clear m1 m2 hJ hrj hA1 hA2 hb1k hbk hBq
                go_wp2_with fail
                generalize (wr.alloc (.cells #[.int .i64 J, .int .i64 (rj : Int)] 46)) = WA at hbkA hA hBqA ⊢
                have q1 := hA.cell 1
                have q2 := hBqA.cell 1
                have q3 := (hbkA.cell (p := ⟨w1.heap.size, i, none⟩) hbW).trans a1
                have q4 := (hbkA.cell (p := ⟨w1.heap.size, i + 1 + m, none⟩) hbW).trans a2
                simp only [List.getElem?_cons_zero, List.getElem?_cons_succ] at q1 q2
                clear c1 c2 a1 a2 hA
                have HX := Lib.hid (And.intro hbkA hBqA)
                clear hbkA hBqA
                rcases hrr : decide (ri < rj) with _ | _
                · go_quiet (fail)
                  go_wp2_with fail
                  go_roundw
                  case rel => exact ⟨m + 1, by omega, by go_num, below_drewN HX.out.1 _, HX.out.2.below (below_drewN (Below.refl _ _) _), fun b h1 h2 => by
                    by_cases e : b = i + 1 + m
                    · subst e
                      intro hr
                      rw [← HU.out.2, ← HF.out.1] at hr
                      exact absurd hr (of_decide_eq_false hrr)
                    · exact HV.out b h1 (by omega)⟩
                  case measure => simp [intOf]; omega
                rcases haa : decide (A2 < A1) with _ | _
                · go_quiet (fail)
                  go_wp2_with fail
                  go_roundw
                  case rel => exact ⟨m + 1, by omega, by go_num, below_drewN HX.out.1 _, HX.out.2.below (below_drewN (Below.refl _ _) _), fun b h1 h2 => by
                    by_cases e : b = i + 1 + m
                    · subst e
                      intro _
                      rw [← HF.out.2.1, ← HF.out.2.2]
                      exact of_decide_eq_false haa
                    · exact HV.out b h1 (by omega)⟩
                  case measure => simp [intOf]; omega
                · go_quiet (fail)
                  go_wp2_with fail
                  go_ret
                  refine RtPost.no rfl (fun h => ?_) (below_self (below_self HW.out HB0.out) (below_drewN HX.out.1 _))
                  have hup := h.ups (i := i) (j := i + 1 + m) (by omega) (by rw [← HN.out]; exact hml)
                  unfold Rc.Ups at hup
                  rw [← HU.out.2, ← HF.out.1, ← HF.out.2.1, ← HF.out.2.2] at hup
                  exact hup (of_decide_eq_true hrr) (of_decide_eq_true haa)
              · obtain hmL : m = L - (i + 1) := by omega
                have HX := Lib.hid (And.intro hbk hmL)
                clear hB hbk hBq hb1k hmL
                go_wp2_with fail
                go_roundw
                case rel => exact ⟨i + 1, by omega, by go_num, HX.out.1, fun a b h1 h2 h3 => by
                  by_cases e : a = i
                  · subst e
                    exact HV.out b h2 (by have := HX.out.2; omega)
                  · exact HU.out.1 a b (by omega) h2 h3⟩
                case measure => simp [intOf]; omega
        · obtain rfl : L = i := by omega
          have hbF := below_self (below_self HW.out HB0.out) hb
          have HX := Lib.hid (And.intro hu hbF)
          clear hB hb hu hbF
          go_wp2_with fail
          go_ret
          refine RtPost.yes rfl (Rc.rightI_of (by rw [← HL.out, ← HN.out]) (by rw [← HN.out]; exact HP.out) fun a b h1 h2 => ?_) HX.out.2
          rw [← HN.out] at h2
          exact HX.out.1 a b (by omega) h1 h2
end Go.Proofs.Ytcoijmnnnfogdaa


namespace Go.Proofs.Ytcoijmnnnfogdaa
set_option linter.unusedVariables false
set_option linter.unusedSimpArgs false
set_option maxRecDepth 100000
open Go.RowKit Go.Maps

theorem keyed_i64 : Keyed Try.prog 3 := int_keyed Try.underlying3
theorem zero_i64 (w : World) : (zeroValue 3).run Try.prog w = .ok (.int .i64 0) w := by kernel_rfl

structure MapI (w : World) (g n : Nat) (f : Int → Int) : Prop where
  is : ∃ D : DataW Unit, w.ownsMap Try.prog 3 (plainElem Try.prog 3) g n D ∧ IsMap D ∧ ∀ k, (Lit.int .i64 k).wf = true → D.atKey (.int .i64 k) (.lit (.int .i64 0)) = .lit (.int .i64 (f k))

theorem MapI.made (w : World) : MapI (w.alloc (.map #[] 0)) w.heap.size 0 (fun _ => 0) := ⟨_, World.ownsMap_made _ _ _ _, isMap_empty, fun _ _ => rfl⟩
theorem MapI.lt {w : World} {g n : Nat} {f : Int → Int} (h : MapI w g n f) : g < w.heap.size := by obtain ⟨D, h1, -⟩ := h.is; exact h1.lt
theorem MapI.keep {w w' : World} {g n : Nat} {f : Int → Int} (h : MapI w g n f) (hg : w'.heap[g]? = w.heap[g]?) : MapI w' g n f := by
  obtain ⟨D, ⟨es, clock, hb, F, hs, hD⟩, h2, h3⟩ := h.is
  exact ⟨D, ⟨es, clock, hg.trans hb, F, hs, hD⟩, h2, h3⟩
theorem MapI.below {w w' : World} {g n B : Nat} {f : Int → Int} (h : MapI w g n f) (hb : Below B w w') (hB : g < B) : MapI w' g n f := h.keep (hb.block g hB)
theorem MapI.next {w w' : World} {g n : Nat} {f : Int → Int} (h : MapI w g n f) (hb : Below w.heap.size w w') : MapI w' g n f := h.below hb h.lt
theorem MapI.look {w : World} {g n : Nat} {f : Int → Int} (h : MapI w g n f) {k : Int} (hk : (Lit.int .i64 k).wf = true) : (Instr.lookup 72 (.map (some g)) (.int .i64 k) false).run Try.prog w = .ok (.int .i64 (f k)) w := by
  obtain ⟨D, h1, h2, h3⟩ := h.is
  obtain ⟨c, hrun, hat, -⟩ := h1.lookup_int keyed_i64 Try.underlying72 Try.underlying3 (zero_i64 _) (keyOf_int_mk Try.underlying3 hk)
  rw [h3 k hk] at hat
  injection hat with hat
  injection hat with _ hat
  rw [hat]
  exact hrun

theorem wp_mapset {P : Program} (hP : P = Try.prog) (w : World) {ops : Array Oper} {rest : List Oper} {o : Oper} {a : Act} {Q : Exit → Act → World → Prop}
    (hg : o.guard = none) (m x v : Operand) (hop : o.op = Op.mapUpdate 72 m x v) (g n : Nat) (f : Int → Int) (hm : a.eval m = .map (some g)) (h : MapI w g n f) (hn : n < maxLen)
    (k u : Int) (hx : a.eval x = .int .i64 k) (hv : a.eval v = .int .i64 u) (hk : (Lit.int .i64 k).wf = true) (hu : (Lit.int .i64 u).wf = true)
    (hK : ∀ w', MapI w' g (n + 1) (fun j => if j = k then u else f j) → w.grownBy w' (some g) → wpList P ops Q rest (a.put o.dst undef) w') :
    wpList P ops Q (o :: rest) a w := by
  subst hP
  obtain ⟨D, h1, h2, h3⟩ := h.is
  refine wpList_mapUpdate_own w hg m x v _ hop _ _ keyed_i64 Try.underlying72 _ g n D hm h1 hn _ _ _ hx hv (keyOf_int_mk Try.underlying3 hk) _ [] (plainElem_int Try.underlying3 hu) ?_
  intro w' hown hgr
  refine hK w' ⟨_, hown, h2.put _ _, fun j hj => ?_⟩ hgr
  by_cases e : j = k
  · subst e
    rw [if_pos rfl, atKey_put_same h2 (by first | trivial | exact ⟨_, _, rfl⟩ | (constructor))]
  · rw [if_neg e, atKey_put_other (by intro h; injection h with _ h; exact e h)]
    exact h3 j hj
end Go.Proofs.Ytcoijmnnnfogdaa


namespace Go.Proofs.Ytcoijmnnnfogdaa
set_option linter.unusedVariables false
set_option linter.unusedSimpArgs false
set_option maxRecDepth 100000
open Go.ChangeShapes Go.WideShapes Go.ChangeAt Go.RowKit
set_option maxRecDepth 100000

namespace Sp
def T.wfl (t : T) : Prop := ∀ a ∈ t.leaves, (Lit.int .i64 a.1).wf = true
theorem T.wfl_nil : T.nil.wfl := by intro a ha; simp [T.leaves] at ha
theorem T.wfl_one {c : Int} {b : Bool} {l : Int} (h : (Lit.int .i64 c).wf = true) : (T.one c b l).wfl := by
  intro a ha
  simp only [T.leaves, List.mem_singleton] at ha
  subst ha
  exact h
theorem T.wfl_two {p : Bool} {l r : T} (hl : l.wfl) (hr : r.wfl) : (T.two p l r).wfl := by
  intro a ha
  simp only [T.leaves, List.mem_append] at ha
  exact ha.elim (hl a) (hr a)
end Sp

theorem open_term_wf {H : Type} {enc : TypeId × Value → H} {w : World} : ∀ (fuel : Nat) (cs : List Value) (x : DataW H × List MemPlace), DataW.trod enc Try.prog w 0 (fun _ => true) true fuel 26 cs = some x → (∀ p ∈ x.2, p.block < w.heap.size) →
    ∃ t : Sp.T, TmR w.heap.size w cs t ∧ t.cnt ≤ Rows.uptoBulk x.1 ∧ t.wfl := by
  intro fuel
  induction fuel using Nat.strongRecOn with
  | _ fuel ih =>
    intro cs x h hlt
    have hT : Try.prog.underlying 26 = some (.struct (fieldsOf Try.prog 26)) := by kernel_rfl
    have hA : Try.prog.underlying 23 = some (.struct (fieldsOf Try.prog 23)) := by kernel_rfl
    obtain ⟨xs, m, rfl, rfl, hl, hxl, hfs⟩ := DataW.trod_struct hT h
    have e0 : (fieldsOf Try.prog 26)[0]?.map (fun f => (f.type, f.offset)) = some (3, 0) := by kernel_rfl
    have e1 : (fieldsOf Try.prog 26)[1]?.map (fun f => (f.type, f.offset)) = some (23, 1) := by kernel_rfl
    have e2 : (fieldsOf Try.prog 26)[2]?.map (fun f => (f.type, f.offset)) = some (24, 4) := by kernel_rfl
    have hsz : (fieldsOf Try.prog 26).size = 3 := by kernel_rfl
    obtain ⟨f0, g0, q0⟩ := Option.map_eq_some_iff.1 e0
    obtain ⟨f1, g1, q1⟩ := Option.map_eq_some_iff.1 e1
    obtain ⟨f2, g2, q2⟩ := Option.map_eq_some_iff.1 e2
    injection q0 with q0 q0'
    injection q1 with q1 q1'
    injection q2 with q2 q2'
    have h0 := hfs 0 f0 g0
    have h1 := hfs 1 f1 g1
    have h2 := hfs 2 f2 g2
    have c0 : Try.prog.cellsOf 3 = 1 := by kernel_rfl
    have c1 : Try.prog.cellsOf 23 = 3 := by kernel_rfl
    have c2 : Try.prog.cellsOf 24 = 1 := by kernel_rfl
    have cT : Try.prog.cellsOf 26 = 5 := by kernel_rfl
    have cB : Try.prog.cellsOf 4 = 1 := by kernel_rfl
    rw [q0, q0', c0] at h0
    rw [q1, q1', c1] at h1
    rw [q2, q2', c2] at h2
    rw [cT] at hl
    rw [hsz] at hxl
    match xs, hxl, cs, hl with
    | [x0, x1, x2], _, [v0, v1, v2, v3, v4], _ =>
      simp only [List.drop_succ_cons, List.drop_zero, List.take_succ_cons, List.take_zero, List.getElem?_cons_zero, List.getElem?_cons_succ] at h0 h1 h2
      obtain ⟨k, hk, -, -⟩ := DataW.trod_int Try.underlying3 h0
      obtain ⟨ys, m1, rfl, -, hl1, hyl, hys⟩ := DataW.trod_struct hA h1
      have d0 : (fieldsOf Try.prog 23)[0]?.map (fun f => (f.type, f.offset)) = some (3, 0) := by kernel_rfl
      have d1 : (fieldsOf Try.prog 23)[1]?.map (fun f => (f.type, f.offset)) = some (4, 1) := by kernel_rfl
      have d2 : (fieldsOf Try.prog 23)[2]?.map (fun f => (f.type, f.offset)) = some (3, 2) := by kernel_rfl
      have hsy : (fieldsOf Try.prog 23).size = 3 := by kernel_rfl
      obtain ⟨u0, w0, p0⟩ := Option.map_eq_some_iff.1 d0
      obtain ⟨u1, w1, p1⟩ := Option.map_eq_some_iff.1 d1
      obtain ⟨u2, w2, p2⟩ := Option.map_eq_some_iff.1 d2
      injection p0 with p0 p0'
      injection p1 with p1 p1'
      injection p2 with p2 p2'
      have y0 := hys 0 u0 w0
      have y1 := hys 1 u1 w1
      have y2 := hys 2 u2 w2
      rw [p0, p0', c0] at y0
      rw [p1, p1', cB] at y1
      rw [p2, p2', c0] at y2
      rw [hsy] at hyl
      match ys, hyl with
      | [z0, z1, z2], _ =>
        simp only [List.drop_succ_cons, List.drop_zero, List.take_succ_cons, List.take_zero, List.getElem?_cons_zero, List.getElem?_cons_succ] at y0 y1 y2
        obtain ⟨c, hc, -, hcw⟩ := DataW.trod_int Try.underlying3 y0
        obtain ⟨b, hb, -⟩ := DataW.trod_bool Try.underlying4 y1
        obtain ⟨l, hl', -, -⟩ := DataW.trod_int Try.underlying3 y2
        simp only [List.cons.injEq, and_true] at hk hc hb hl'
        subst hk hc hb hl'
        have bulk1 : Rows.uptoBulk (DataW.agg (H := H) [x0.1, x1.1, x2.1]) = Rows.uptoBulk x0.1 + (Rows.uptoBulk x1.1 + Rows.uptoBulk x2.1) + 1 := by
          simp [Rows.uptoBulk, Rows.uptoBulkAll]
        have pos : ∀ d : DataW H, 1 ≤ Rows.uptoBulk d := fun d => by
          cases d with
          | lit x => cases x <;> simp [Rows.uptoBulk]
          | _ => simp [Rows.uptoBulk]
        rcases DataW.trod_slice Try.underlying24 h2 with ⟨hcs, hx⟩ | ⟨a, len, cap, el, rest, n, hn, hcs, hx, -, hle, hm, hlen, hel, hsp, -⟩
        · simp only [List.cons.injEq, and_true] at hcs
          subst hcs
          by_cases hk1 : k = 1
          · subst hk1
            exact ⟨.one c b l, .one c b l none 0 0 (Nat.le_refl _) (Nat.zero_le _), by have := pos x0.1; simp [Sp.T.cnt, bulk1], Sp.T.wfl_one hcw⟩
          · exact ⟨.nil, .nil k c b l none 0 0 (Nat.le_refl _) (Nat.zero_le _) hk1 (by omega), by simp [Sp.T.cnt, bulk1], Sp.T.wfl_nil⟩
        · simp only [List.cons.injEq, and_true] at hcs
          subst hcs
          by_cases hk1 : k = 1
          · subst hk1
            exact ⟨.one c b l, .one c b l _ len cap hle hm, by have := pos x0.1; simp [Sp.T.cnt, bulk1], Sp.T.wfl_one hcw⟩
          · by_cases hk2 : (k = 2 ∨ k = 3) ∧ 2 ≤ len
            · obtain ⟨hk2, h2l⟩ := hk2
              have kid : ∀ i, i < len → ∃ (y : DataW H × List MemPlace) (cs' : List Value) (t : Sp.T), el[i]? = some y ∧ cs'.length = 5 ∧ (∀ j u, cs'[j]? = some u → w.cell? ((a.add (i * 5)).add j) = some u) ∧ TmR w.heap.size w cs' t ∧ t.cnt ≤ Rows.uptoBulk y.1 ∧ t.wfl := by
                intro i hi
                have h3 := hel i hi
                rw [cT, List.getElem?_eq_getElem (by omega)] at h3
                obtain ⟨cs', hc', htr⟩ := Option.bind_eq_some_iff.1 h3
                obtain ⟨hb0, hl5, hat⟩ := World.cells?_some hc'
                obtain ⟨t, ht1, ht2, ht3⟩ := ih n (by omega) cs' _ htr (fun p hp => hlt p (by
                  rw [hx]
                  simp only [List.flatMap_cons, List.flatMap_nil, List.mem_append, List.append_nil]
                  exact .inr (.inr (.inr (List.mem_flatMap.2 ⟨el[i], List.mem_append_left _ (List.getElem_mem _), hp⟩)))))
                refine ⟨el[i], cs', t, List.getElem?_eq_getElem (by omega), hl5, fun j u hu => ?_, ht1, ht2, ht3⟩
                have hj : j < 5 := by have := (List.getElem?_eq_some_iff.1 hu).1; omega
                rw [hat j hj, hu]
              obtain ⟨ya, csa, ta, ea, la, ca, ra, ba, wa⟩ := kid 0 (by omega)
              obtain ⟨yb, csb, tb, eb, lb, cb, rb, bb, wb⟩ := kid 1 (by omega)
              obtain ⟨g, o, sp⟩ := a
              have hsp0 : sp = none := by
                have := ca 0 _ (List.getElem?_eq_getElem (by omega))
                simpa [Addr.add] using World.cell?_spot this
              subst hsp0
              have ca' : ∀ j u, csa[j]? = some u → w.cell? ⟨g, o + j, none⟩ = some u := fun j u hu => by
                have := ca j u hu
                rw [Addr.add_lit, Addr.add_lit] at this
                simpa using this
              have cb' : ∀ j u, csb[j]? = some u → w.cell? ⟨g, o + 5 + j, none⟩ = some u := fun j u hu => by
                have := cb j u hu
                rw [Addr.add_lit, Addr.add_lit] at this
                simpa using this
              have hg : g < w.heap.size := World.block_lt_of_cell? w _ (ca' 0 _ (List.getElem?_eq_getElem (by omega)))
              have hbulk : ta.cnt + tb.cnt ≤ Rows.uptoBulk x2.1 := by
                rw [hx]
                match el, hlen, ea, eb with
                | e0 :: e1 :: el', _, ea, eb =>
                  simp only [List.getElem?_cons_zero, List.getElem?_cons_succ, Option.some.injEq] at ea eb
                  subst ea eb
                  have := bulk_two e0.1 e1.1 (el'.map (·.1))
                  simp only [List.map_cons, Rows.uptoBulk]
                  omega
              rcases hk2 with rfl | rfl
              · exact ⟨.two false ta tb, .two false c b l g o len cap csa csb ta tb hle hm h2l hg ca' cb' ra rb, by show _ ≤ Rows.uptoBulk (DataW.agg (H := H) [x0.1, x1.1, x2.1]); rw [Sp.T.cnt, bulk1]; omega, Sp.T.wfl_two wa wb⟩
              · exact ⟨.two true ta tb, .two true c b l g o len cap csa csb ta tb hle hm h2l hg ca' cb' ra rb, by show _ ≤ Rows.uptoBulk (DataW.agg (H := H) [x0.1, x1.1, x2.1]); rw [Sp.T.cnt, bulk1]; omega, Sp.T.wfl_two wa wb⟩
            · exact ⟨.nil, .nil k c b l _ len cap hle hm hk1 hk2, by simp [Sp.T.cnt, bulk1], Sp.T.wfl_nil⟩

theorem open_arg_wfl {H : Type} {enc : TypeId × Value → H} {W : World} {base : Nat} {v : Value} {d : DataW H} {p : List MemPlace} (hv : Value.okWide Try.prog W .any base 26 v) (h : DataW.Trod enc Try.prog W 0 (fun _ => true) true 26 v d p) (hlt : ∀ x ∈ p, x.block < W.heap.size) :
    ∃ (cs : List Value) (t : Sp.T), v = .agg cs.toArray ∧ TmR W.heap.size W cs t ∧ t.cnt ≤ Rows.uptoBulk d ∧ t.wfl := by
  have hT : Try.prog.underlying 26 = some (.struct (fieldsOf Try.prog 26)) := by kernel_rfl
  obtain ⟨cs, rfl, hcs⟩ := okWide_struct hT hv
  obtain ⟨fuel, hf⟩ := h
  obtain ⟨t, h1, h2⟩ := open_term_wf fuel cs.toList (d, p) (by simpa [Value.cells] using hf) hlt
  exact ⟨cs.toList, t, by simp, h1, h2⟩
end Go.Proofs.Ytcoijmnnnfogdaa


namespace Go.Proofs.Ytcoijmnnnfogdaa
set_option linter.unusedVariables false
set_option linter.unusedSimpArgs false
set_option maxRecDepth 100000
open Go.RowKit

theorem wf_i64_rc {a : Int} (h : -9223372036854775808 ≤ a ∧ a ≤ 9223372036854775807) : (Lit.int .i64 a).wf = true := WalkArith.wf_i64 (by omega)

/-- what See answers -/
inductive SeePost (t : Sp.T) (zs : List Int) (w : World) (e : Ending) (w' : World) : Prop
  | yes (ns : List Nat) (g : Nat) : zs = ns.map (fun n : Nat => (n : Int)) → Rc.Right t ns → e = .returned (.tuple #[.slice (some ⟨g, 0, none⟩) t.size t.size, .int .i64 0]) → w.heap.size ≤ g → Blk w' g 3 (ints .i64 (Rc.seeL t ns)) → Below w.heap.size w w' → SeePost t zs w e w'
  | no : ¬ Rc.RightI t zs → e = .returned (.tuple #[.slice none 0 0, .int .i64 1]) → Below w.heap.size w w' → SeePost t zs w e w'

set_option maxRecDepth 20000 in
set_option maxHeartbeats 4000000 in
theorem race_see (t : Sp.T) (zs : List Int) (w : World) (cs : List Value) (v : Value) (hT : TmR w.heap.size w cs t) (hn : t.size ≤ 1048576) (hwl : t.wfl) (hz : SlV w 1 v zs.length (ints .i64 zs)) :
    Calls Try.prog 10 #[.agg cs.toArray, v] w (SeePost t zs w) := by
  obtain ⟨a0, a1, a2, a3, A4, a5, a6, rfl, -, -⟩ := hT.form
  have x0 := Blk.new w 26 [.int .i64 a0, .int .i64 a1, .bool a2, .int .i64 a3, .slice A4 a5 a6]
  unfold tcells at hT ⊢
  have hb0 : Below w.heap.size w (w.alloc (.cells [Value.int .i64 a0, .int .i64 a1, .bool a2, .int .i64 a3, .slice A4 a5 a6].toArray 26)) := below_alloc (Below.refl _ _) _
  have hz0 := hz.below hb0
  have hmm := @run_makeMap Try.prog
  go_enter Try.func10, Try.ntmps10
  go_wp2_with fail
  obtain ⟨q, hq⟩ : ∃ q, q = w.heap.size := ⟨_, rfl⟩
  have hT0 := tm_up (hT.later hb0) hb0.size
  generalize (w.alloc (.cells [Value.int .i64 a0, .int .i64 a1, .bool a2, .int .i64 a3, .slice A4 a5 a6].toArray 26)) = W0 at x0 hb0 hT0 hz0 ⊢
  rw [← hq] at x0 ⊢
  refine (race_right t zs W0 _ v hT0 hn hz0).mono ?_
  rintro e w1 ⟨b, rfl, hright, hb1⟩
  have hX := Boxed.of (x0.below hb1) (hT0.later hb1) hb1.size
  have hz1 := hz0.below hb1
  have hbw := below_next hb1 hb0
  clear x0 hb0 hT0 hb1 hq hT hz hz0
  obtain ⟨⟨c0, c1, c2, c3, c4⟩, hT1⟩ := hX.look _ (Below.refl _ _)
  rcases b with _ | _
  · have hno : ¬ Rc.RightI t zs := fun h => by have := hright.2 h; cases this
    have HB := Lib.hid (And.intro hbw hno)
    clear hX hT1 hz1 hright hno hbw
    go_wp2_with fail
    go_ret2
    exact SeePost.no HB.out.2 rfl HB.out.1
  obtain ⟨ns, hns, hR⟩ := hright.1 rfl
  have hzl : zs.length = t.size := by rw [hns, List.length_map, hR.len]
  rw [hzl] at hz1
  have HR := Lib.hid (And.intro hns hR)
  have gL := leaves_any w1 _ t hT1 (by omega)
  clear hright hns hR hX hT1
  go_wp2_with fail
  refine gL.mono ?_
  rintro e w3 ⟨v3, rfl, ⟨PL, cL, rfl, hleL, hmL, -, hL⟩, hb3⟩
  have hz3 := hz1.below hb3
  have hbw3 := below_self hbw hb3
  obtain ⟨PZ, cZ, rfl, hleZ, hmZ, -, hZ⟩ := hz3
  unfold maxLen at hmZ hmL
  clear gL c0 c1 c2 c3 c4 hz1 hbw hb3
  obtain ⟨N, hN⟩ : ∃ N, N = t.size := ⟨_, rfl⟩
  rw [← hN] at hleL hleZ hn ⊢
  have HN := Lib.hid hN
  clear hN hzl
  go_wp2_with (at_make; refine wp_make_flat w3 33 3 (.int .i64 0) (.int .i64 0) 1 8 N Try.underlying33 info_rc rfl (by decide) rfl rfl (by omega) (by omega) rfl rfl rfl rfl ?_; intro w4 hB4 hb4 hs4)
  rw [Nat.mul_one, HN.out, ← Rc.outL_zero t ns] at hB4
  have hlt4 : w3.heap.size < w4.heap.size := hB4.lt
  have hb4' : Below w3.heap.size w3 (w4.alloc (.map #[] 0)) := below_alloc hb4 _
  have hB4' := hB4.alloc (.map #[] 0)
  have hM4 := MapI.made w4
  rw [hs4] at hM4
  clear hB4 hb4 hlt4
  go_wp2_with fail
  go_loopw [24] (fun i wr => ∃ k : Nat, k ≤ N ∧ i = .int .i64 (k : Int) ∧ Below w3.heap.size w3 wr ∧ Blk wr w3.heap.size 3 (Rc.outL t ns k) ∧ ∃ m, m ≤ k ∧ MapI wr (w3.heap.size + 1) m (Rc.lw t (ns.take k))) (fun i _ => N - (intOf i).toNat)
  case atStart => exact ⟨0, Nat.zero_le _, rfl, hb4', hB4', 0, Nat.le_refl _, hM4⟩
  case round =>
    clear hb4' hB4' hM4
    obtain ⟨k, hk, rfl, hb, hB, m, hm, hM⟩ := hrel
    by_cases hlt : k < N
    · obtain ⟨n, hnk⟩ : ∃ n, ns[k]? = some n := ⟨_, List.getElem?_eq_getElem (by rw [HR.out.2.len, ← HN.out]; exact hlt)⟩
      have hnN : n < N := by rw [HN.out]; exact HR.out.2.lt n (List.mem_of_getElem? hnk)
      have gz : (ints .i64 zs)[k]? = some (.int .i64 (n : Int)) := by
        unfold ints
        rw [HR.out.1, List.getElem?_map, List.getElem?_map, hnk]
        rfl
      obtain ⟨bZ, oZ, rfl, hbZ, hcZ⟩ := hZ.at_ (fun e => by rw [e] at gz; simp at gz)
      have z1 := (hb.cell hbZ).trans (hcZ _ _ gz)
      have hgi := Rc.acc_get (t := t) (n := n) (by rw [← HN.out]; exact hnN)
      have hwf := hwl _ (List.mem_of_getElem? hgi)
      obtain ⟨y1, y2, y3⟩ := Sp.acccs_get _ _ _ hgi
      obtain ⟨bL, oL, rfl, hbL, hcL⟩ := hL.at_ (fun e => by rw [e] at y1; simp at y1)
      have c1 := (hb.cell hbL).trans (hcL _ _ y1)
      have c2 := (hb.cell hbL).trans (hcL _ _ y2)
      have c3 := (hb.cell hbL).trans (hcL _ _ y3)
      rw [← Nat.add_assoc] at c2 c3
      have hset := Rc.outL_set HR.out.2.nd hnk (by rw [← HN.out]; exact hnN)
      have hlb := Rc.lw_bound (t := t) (N := N) (Rc.acc t n).1 (ns.take k) (fun y hy => by rw [HN.out]; exact HR.out.2.lt y (List.mem_of_mem_take hy))
      have hno := Rc.lw_step_no (t := t) hnk
      have hyes := Rc.lw_step_yes (t := t) hnk
      obtain ⟨⟨ci, wi, li⟩, hei⟩ : ∃ x, x = Rc.acc t n := ⟨_, rfl⟩
      rw [← hei] at c1 c2 c3 hset hlb hno hyes hwf
      dsimp only at c1 c2 c3 hset hlb hno hyes hwf
      have hbA : Below w3.heap.size w3 (wr.alloc (.cells #[.int .i64 ci, .bool wi, .int .i64 li] 23)) := below_alloc hb _
      have hA : Blk (wr.alloc (.cells #[.int .i64 ci, .bool wi, .int .i64 li] 23)) wr.heap.size 23 [.int .i64 ci, .bool wi, .int .i64 li] := Blk.new _ _ _
      have hBA := hB.alloc (.cells #[.int .i64 ci, .bool wi, .int .i64 li] 23)
      have hMA := hM.next (below_alloc (Below.refl _ _) (.cells #[.int .i64 ci, .bool wi, .int .i64 li] 23))
      have hlook := hMA.look hwf
      obtain ⟨V, hV⟩ : ∃ V, V = Rc.lw t (ns.take k) ci := ⟨_, rfl⟩
      rw [← hV] at hlook hset hlb
      have h3r := hB.lt
      have h4r := hM.lt
      have n63 : m < maxLen := by unfold maxLen; omega
      have hwn : (Lit.int .i64 ((n : Int) + 1)).wf = true := wf_i64_rc (by omega)
      have HN63 := Lib.hid (And.intro n63 hwn)
      have HS := Lib.hid (And.intro hset (And.intro hno (And.intro hyes hbA)))
      clear n63 hwn hnk gz hcZ hgi y1 y2 y3 hcL hset hno hyes hei hV hbA hb hB hM
      rcases wi with _ | _
      · go_wp2_with (first
          | (refine wpl_set_blk hBA n (.int .i64 (V - 1)) (by kernel_rfl) (by rw [Rc.outL_length, ← HN.out]; exact hnN) rfl rfl rfl rfl rfl rfl ?_; intro w5 hB5 hg5; have hA5 := hA.grown hg5 (by simp <;> omega); have d1 : w5.cell? ⟨wr.heap.size, 1, none⟩ = some (.bool false) := (hA5.cell _).trans rfl)
          | fail)
        have hb5 := HS.out.2.2.2.trans (below_of_grown hg5 HS.out.2.2.2.size (Nat.le_refl _))
        have hM5 : MapI w5 (w3.heap.size + 1) m (Rc.lw t (ns.take k)) := hMA.keep (hg5.block _ (by simp <;> omega) (by simp))
        have HZ := Lib.hid (And.intro hb5 (And.intro hB5 hM5))
        clear hb5 hM5 hB5 hA5 hMA hBA hA d1 hg5
        go_roundw
        case rel => exact ⟨k + 1, by omega, by go_num, HZ.out.1, by rw [← HS.out.1]; exact HZ.out.2.1, m, by omega, by rw [HS.out.2.1 rfl]; exact HZ.out.2.2⟩
        case measure => simp [intOf]; omega
      · go_wp2_with (first
          | (refine wpl_set_blk hBA n (.int .i64 (V - 1)) (by kernel_rfl) (by rw [Rc.outL_length, ← HN.out]; exact hnN) rfl rfl rfl rfl rfl rfl ?_; intro w5 hB5 hg5; have hA5 := hA.grown hg5 (by simp <;> omega); have d1 : w5.cell? ⟨wr.heap.size, 1, none⟩ = some (.bool true) := (hA5.cell _).trans rfl; have d0 : w5.cell? ⟨wr.heap.size, 0, none⟩ = some (.int .i64 ci) := (hA5.cell _).trans rfl; have hM5 : MapI w5 (w3.heap.size + 1) m (Rc.lw t (ns.take k)) := hMA.keep (hg5.block _ (by simp <;> omega) (by simp)))
          | (at_mapUpdate; refine wp_mapset rfl _ rfl _ _ _ rfl (w3.heap.size + 1) m _ rfl hM5 HN63.out.1 _ _ rfl rfl hwf (by first | exact HN63.out.2 | exact wrap64_wf _) ?_; intro w6 hM6 hg6)
          | fail)
        have hb5 := HS.out.2.2.2.trans (below_of_grown hg5 HS.out.2.2.2.size (Nat.le_refl _))
        have hb6 := hb5.trans (below_of_grown hg6 hb5.size (by omega))
        have hB6 := hB5.grown hg6 (by simp)
        have HZ := Lib.hid (And.intro hb6 (And.intro hB6 hM6))
        clear hb5 hb6 hB6 hM6 hB5 hM5 hA5 hMA hBA hA d1 d0 hg5 hg6
        go_roundw
        case rel => exact ⟨k + 1, by omega, by go_num, HZ.out.1, by rw [← HS.out.1]; exact HZ.out.2.1, m + 1, by omega, by rw [HS.out.2.2.1 rfl]; exact HZ.out.2.2⟩
        case measure => simp [intOf]; omega
    · obtain rfl : N = k := by omega
      have HZ := Lib.hid (And.intro (below_self hbw3 hb) (And.intro hB hbw3.size))
      clear hb hB hM hbw3 hZ hL
      go_wp2_with fail
      go_ret2
      obtain ⟨h1, h2, h3⟩ := HZ.out
      refine SeePost.yes ns w3.heap.size HR.out.1 HR.out.2 (by rw [← HN.out]; rfl) h3 ?_ h1
      rw [HN.out, Rc.outL_all HR.out.2] at h2
      exact h2
end Go.Proofs.Ytcoijmnnnfogdaa


namespace Go.Proofs.Ytcoijmnnnfogdaa
set_option linter.unusedVariables false
set_option linter.unusedSimpArgs false
set_option maxRecDepth 100000
open Go.RowKit
theorem rc_equal (v v' : Value) (xs ys : List Int) (w : World) (h : SlV w 1 v xs.length (ints .i64 xs)) (h' : SlV w 1 v' ys.length (ints .i64 ys)) :
    Calls Try.prog 12 #[v, v'] w fun e w' => e = .returned (.bool (decide (xs = ys))) ∧ ∃ m, w' = w.drewN m := by
  obtain ⟨A, c, rfl, hle, hm, hlen, hc⟩ := h
  obtain ⟨A', c', rfl, hle', hm', hlen', hc'⟩ := h'
  clear hlen hlen'
  unfold maxLen at hm hm'
  by_cases hn : xs.length = ys.length
  · have hne : ((xs.length : Int) != ys.length) = false := by simp [hn]
    have HN := Lib.hid hn
    clear hn
    go_enter Try.func12, Try.ntmps12
    go_wp2
    go_loopw [13] (fun i wr => ∃ k : Nat, k ≤ xs.length ∧ i = .int .i64 k ∧ (∃ a, wr = w.drewN a) ∧ xs.take k = ys.take k) (fun i _ => xs.length - (intOf i).toNat)
    case atStart => exact ⟨0, Nat.zero_le _, rfl, ⟨0, rfl⟩, rfl⟩
    case round =>
      obtain ⟨k, hk, rfl, ⟨a, rfl⟩, ht⟩ := hrel
      have HT := Lib.hid ht
      clear ht
      by_cases hlt : k < xs.length
      · have hlt' : k < ys.length := by rw [← HN.out]; exact hlt
        obtain ⟨b, o, x, rfl, hb, hx, hcc⟩ := hc.one hlt
        obtain ⟨b', o', y, rfl, hb', hy, hcc'⟩ := hc'.one hlt'
        clear hc hc'
        have hsn : ∀ (z : Int) (l : List Int), l[k]? = some z → l.take (k + 1) = l.take k ++ [z] := fun z l h => by
          obtain ⟨h', rfl⟩ := List.getElem?_eq_some_iff.1 h
          exact List.take_succ_eq_append_getElem h'
        have HSN := Lib.hid hsn
        clear hsn
        rcases hg : x != y with _ | _
        · go_wp2
          go_quiet (fail)
          go_wp2
          go_roundw
          case rel => exact ⟨k + 1, by omega, by go_num, ⟨_, rfl⟩, by rw [HSN.out _ _ hx.out, HSN.out _ _ hy.out, HT.out, show x = y by simpa using hg]⟩
          case measure => simp [intOf]; omega
        · go_wp2
          go_quiet (fail)
          go_wp2
          go_ret
          refine ⟨ret_bool ?_, ⟨_, World.drewN_drewN _ _ _⟩⟩
          symm
          simp only [decide_eq_false_iff_not]
          rintro rfl
          rw [hx.out] at hy
          simp at hg
          exact hg (by simpa using hy.out)
      · have HK := Lib.hid (show k = xs.length by omega)
        clear hc hc'
        go_wp2
        go_ret
        refine ⟨ret_bool ?_, ⟨_, rfl⟩⟩
        symm
        simp only [decide_eq_true_eq]
        have := HT.out
        rw [HK.out, List.take_length, HN.out, List.take_length] at this
        exact this
  · have hne : ((xs.length : Int) != ys.length) = true := by simp; omega
    have hnl : xs ≠ ys := fun e => hn (by rw [e])
    have HNL := Lib.hid hnl
    clear hnl hc hc'
    go_enter Try.func12, Try.ntmps12
    go_wp2
    go_ret
    exact ⟨ret_bool (by simp [HNL.out]), ⟨0, rfl⟩⟩
end Go.Proofs.Ytcoijmnnnfogdaa


namespace Go.Proofs.Ytcoijmnnnfogdaa
set_option linter.unusedVariables false
set_option linter.unusedSimpArgs false
set_option maxRecDepth 100000
open Go.RowKit

theorem stealSame_out (t : Sp.T) (w : World) (cs : List Value) (W : Int) (v : Value) (hT : TmR w.heap.size w cs t) (hW : W < 1 ∨ 16 < W) :
    Calls Try.prog 3 #[.agg cs.toArray, .int .i64 W, v] w fun e w' => e = .returned (.bool true) ∧ Below w.heap.size w w' := by
  obtain ⟨a0, a1, a2, a3, A4, a5, a6, rfl, -, -⟩ := hT.form
  have x0 := Blk.new w 26 [.int .i64 a0, .int .i64 a1, .bool a2, .int .i64 a3, .slice A4 a5 a6]
  unfold tcells at hT ⊢
  have hb0 : Below w.heap.size w (w.alloc (.cells [Value.int .i64 a0, .int .i64 a1, .bool a2, .int .i64 a3, .slice A4 a5 a6].toArray 26)) := below_alloc (Below.refl _ _) _
  go_enter Try.func3, Try.ntmps3
  go_wp2_with fail
  obtain ⟨q, hq⟩ : ∃ q, q = w.heap.size := ⟨_, rfl⟩
  have hT0 := tm_up (hT.later hb0) hb0.size
  generalize (w.alloc (.cells [Value.int .i64 a0, .int .i64 a1, .bool a2, .int .i64 a3, .slice A4 a5 a6].toArray 26)) = W0 at x0 hb0 hT0 ⊢
  rw [← hq] at x0 ⊢
  refine (alive22_any _).mono ?_
  rintro e w1 ⟨rfl, hb1⟩
  have hX := Boxed.of (x0.below hb1) (hT0.later hb1) hb1.size
  have hbw := below_next hb1 hb0
  have HQ := Lib.hid (And.intro hq hbw)
  clear x0 hb0 hT0 hb1 hq hbw hT
  obtain ⟨⟨c0, c1, c2, c3, c4⟩, hT1⟩ := hX.look _ (Below.refl _ _)
  have hR := run_out t w1 w1.heap.size _ W v hT1 hW
  clear hX hT1 hW
  go_wp2_with fail
  refine hR.mono ?_
  rintro e w2 ⟨rfl, hb2⟩
  have hbE := below_self HQ.out.2 hb2
  clear hR c0 c1 c2 c3 c4 hb2
  go_wp2
  go_ret
  exact ⟨rfl, hbE⟩


set_option maxHeartbeats 8000000 in
theorem stealSame_in (t : Sp.T) (ps : List Stl.Pk) (w : World) (cs : List Value) (W : Nat) (v : Value) (hT : TmR w.heap.size w cs t) (hwl : t.wfl) (hsz : Stl.sz t ≤ 1048576) (hlv : t.size ≤ 1048576) (hW1 : 1 ≤ W) (hW2 : W ≤ 16) (hps : ps.length ≤ 1048576) (hp : SlV w 2 v ps.length (pkcs ps)) :
    Calls Try.prog 3 #[.agg cs.toArray, .int .i64 (W : Int), v] w fun e w' => e = .returned (.bool true) ∧ Below w.heap.size w w' := by
  obtain ⟨a0, a1, a2, a3, A4, a5, a6, rfl, -, -⟩ := hT.form
  have x0 := Blk.new w 26 [.int .i64 a0, .int .i64 a1, .bool a2, .int .i64 a3, .slice A4 a5 a6]
  unfold tcells at hT ⊢
  have hb0 : Below w.heap.size w (w.alloc (.cells [Value.int .i64 a0, .int .i64 a1, .bool a2, .int .i64 a3, .slice A4 a5 a6].toArray 26)) := below_alloc (Below.refl _ _) _
  go_enter Try.func3, Try.ntmps3
  go_wp2_with fail
  obtain ⟨q, hq⟩ : ∃ q, q = w.heap.size := ⟨_, rfl⟩
  have hT0 := tm_up (hT.later hb0) hb0.size
  have hp0 := hp.below hb0
  generalize (w.alloc (.cells [Value.int .i64 a0, .int .i64 a1, .bool a2, .int .i64 a3, .slice A4 a5 a6].toArray 26)) = W0 at x0 hb0 hT0 hp0 ⊢
  rw [← hq] at x0 ⊢
  refine (alive22_any _).mono ?_
  rintro e w1 ⟨rfl, hb1⟩
  have hX := Boxed.of (x0.below hb1) (hT0.later hb1) hb1.size
  have hp1 := hp0.below hb1
  have hbw := below_next hb1 hb0
  have HQ := Lib.hid (And.intro hq hbw)
  clear x0 hb0 hT0 hb1 hq hbw hT hp hp0
  obtain ⟨⟨c0, c1, c2, c3, c4⟩, hT1⟩ := hX.look _ (Below.refl _ _)
  have hR := run_any t ps w1 w1.heap.size _ W v hT1 (Nat.le_refl _) (by omega) (by omega) (by omega) hW1 hW2 hp1
  have hon := Stl.once_start t W (by omega) ps
  have hll := logS_length t W ps (Stl.start 0 t)
  generalize Stl.logS t W (Stl.start 0 t) ps = L at hR hon hll
  have hno := (Stl.start_no 0 t).1 0
  generalize Stl.start 0 t = s0 at hon hno
  have HX := Lib.hid (And.intro hX (And.intro hon hno))
  clear hT1 hp1 hon hno
  go_wp2_with fail
  refine hR.mono ?_
  rintro e w2 ⟨D, rfl, hD, hb2⟩
  obtain ⟨PD, cD, rfl, hcD, hmD⟩ := own_slice hD
  have hDs := SlV.of_own hD
  clear c0 c1 c2 c3 c4 hR hX hD
  unfold maxLen at hmD
  obtain ⟨N, hN⟩ : ∃ N, N = L.length := ⟨_, rfl⟩
  rw [← hN] at hDs hll hcD ⊢
  have HN := Lib.hid hN
  clear hN
  have hbE := below_self HQ.out.2 hb2
  by_cases hleft : N < t.size
  · have g1 : decide (N < t.size) = true := by simpa using hleft
    clear hDs hb2
    go_wp2_with fail
    go_ret
    exact ⟨rfl, hbE⟩
  have g1 : decide (N < t.size) = false := by simpa using hleft
  obtain ⟨ns, hns, hRt⟩ := Stl.right_log HX.out.2.1 HX.out.2.2 (by rw [← HN.out]; omega)
  have hNs : N = t.size := by
    have := congrArg List.length hns
    simp only [List.length_map] at this
    rw [HN.out, this, hRt.len]
  have HR := Lib.hid (And.intro hns (And.intro hRt hNs))
  have n47 : N ≤ 1048576 := by omega
  clear hns hRt hNs hleft
  go_wp2_with fail
  go_loopw [10, 11, 36] (fun od pl i wr => ∃ k : Nat, k ≤ N ∧ i = .int .i64 (k : Int) ∧ Below w2.heap.size w2 wr ∧ wr.ownsRow w2.heap.size 3 1 od k (ints .i64 ((L.take k).map (·.2))) ∧ wr.ownsRow w2.heap.size 3 1 pl k (ints .i64 ((List.range k).map fun n : Nat => (n : Int))) ∧ ∀ i, od.ownBlock = some i → pl.ownBlock ≠ some i) (fun _ _ i _ => N - (intOf i).toNat)
  case atStart => exact ⟨0, Nat.zero_le _, rfl, Below.refl _ _, World.ownsRow_nil _ _ _ _, World.ownsRow_nil _ _ _ _, fun i h => by simp [Value.ownBlock] at h⟩
  case round =>
    obtain ⟨k, hk, rfl, hb, ho1, ho2, hap⟩ := hrel
    by_cases hlt : k < N
    · obtain ⟨x, hx⟩ : ∃ x, L[k]? = some x := ⟨_, List.getElem?_eq_getElem (by rw [← HN.out]; exact hlt)⟩
      obtain ⟨gx1, gx2⟩ := donecs_get _ _ _ hx
      obtain ⟨_, _, e5, -, -, -, hcc⟩ := hDs.below hb
      injection e5 with e5 _ e6
      subst e5 e6
      obtain ⟨b, o, rfl, hbl, hcell⟩ := hcc.at_ (fun e => by rw [e] at gx1; simp at gx1)
      have c1 := hcell _ _ gx1
      have c2 := hcell _ _ gx2
      rw [← Nat.add_assoc] at c2
      have htk : (L.take (k + 1)).map (·.2) = (L.take k).map (·.2) ++ [x.2] := by
        obtain ⟨h', rfl⟩ := List.getElem?_eq_some_iff.1 hx
        rw [List.take_succ_eq_append_getElem h', List.map_append]
        rfl
      obtain ⟨who, leaf⟩ := x
      dsimp only at c1 c2 htk
      have hb' : Below w2.heap.size w2 (wr.alloc (.cells #[.int .i64 (who : Int), .int .i64 leaf] 35)) := below_alloc hb _
      have ho1' := ho1.alloc (.cells #[.int .i64 (who : Int), .int .i64 leaf] 35)
      have ho2' := ho2.alloc (.cells #[.int .i64 (who : Int), .int .i64 leaf] 35)
      have hsz' := hb'.size
      have n63 : k + 1 ≤ maxLen := by unfold maxLen; omega
      have n47' : (k + 1) * 8 ≤ 140737488355328 := by omega
      have HT := Lib.hid (And.intro htk hb')
      have HM := Lib.hid (And.intro n63 n47')
      clear hx gx1 gx2 hcc hcell htk hb hb' ho1 ho2 n63 n47'
      go_wp2_with (first
        | (at_builtin; refine wp_push_at _ _ _ _ (by first | rfl | simp) _ _ _ _ _ _ Try.underlying33 info_rc rfl (by decide) ho1' [.int .i64 leaf] rfl (by simp [Value.oneCell']) HM.out.1 HM.out.2 hsz' rfl rfl rfl rfl ?_; intro v7 w7 hr7 hg7 hv7 hb7; obtain ⟨ho7, hap7⟩ := two_push ho1' ho2' hap hg7 hv7)
        | (at_builtin; refine wp_push_at w7 _ _ _ (by first | rfl | simp) _ _ _ _ _ _ Try.underlying33 info_rc rfl (by decide) ho7 [.int .i64 (k : Int)] rfl (by simp [Value.oneCell']) HM.out.1 HM.out.2 (Nat.le_trans hsz' hg7.size) rfl rfl rfl rfl ?_; intro v8 w8 hr8 hg8 hv8 hb8; obtain ⟨ho8, hap8⟩ := two_push ho7 hr7 (fun i h1 h2 => hap7 i h2 h1) hg8 hv8)
        | fail)
      have HZ := Lib.hid (And.intro ho8 (And.intro hr8 (And.intro (HT.out.2.trans (hb7.trans hb8)) hap8)))
      clear ho8 hr8 hb7 hb8 hap8 hg7 hg8 hv7 hv8 hr7 ho7 hap7 ho1' ho2' hap
      go_roundw
      case rel =>
        refine ⟨k + 1, by omega, by go_num, HZ.out.2.2.1, ?_, ?_, fun i h1 h2 => HZ.out.2.2.2 i h2 h1⟩
        · rw [HT.out.1]
          have := HZ.out.1
          simpa [ints] using this
        · have := HZ.out.2.1
          rw [List.range_succ]
          simpa [ints] using this
      case measure => simp [intOf]; omega
    · obtain rfl : N = k := by omega
      have htk : L.take N = L := List.take_of_length_le (by rw [← HN.out]; exact Nat.le_refl _)
      obtain ⟨A1, d1, rfl, hd1, hm1⟩ := own_slice ho1
      obtain ⟨A2, d2, rfl, hd2, hm2⟩ := own_slice ho2
      have s1 := SlV.of_own ho1
      have s2 := SlV.of_own ho2
      rw [htk, HR.out.1] at s1
      unfold maxLen at hm1 hm2
      obtain ⟨⟨c0, c1, c2, c3, c4⟩, hT2⟩ := HX.out.1.look _ (below_self hb2 hb)
      have hbF := below_self hbE hb
      have hX2 := HX.out.1
      have hbX := below_self hb2 hb
      clear hDs ho1 ho2 hap htk hb hbE hb2
      have hz1 : (ns.map fun n : Nat => (n : Int)).length = N := by rw [List.length_map, HR.out.2.1.len, ← HR.out.2.2]
      have hz2 : ((List.range N).map fun n : Nat => (n : Int)).length = N := by simp
      have gS1 := race_see t (ns.map fun n : Nat => (n : Int)) wr _ (.slice A1 N d1) hT2 (by omega) hwl (by rw [hz1]; exact s1)
      have HB := Lib.hid (And.intro hX2 (And.intro hbX hbF))
      clear hX2 hbX hbF hT2
      go_wp2_with fail
      refine gS1.mono ?_
      rintro e w5 h5
      rcases h5 with ⟨ns1, G1, hn1, hr1, rfl, hG1, hB1, hb5⟩ | ⟨hno, -, -⟩
      rotate_left
      · exact absurd (Rc.right_nats HR.out.2.1) hno
      obtain ⟨⟨k0, k1, k2, k3, k4⟩, hT5⟩ := HB.out.1.look _ (below_self HB.out.2.1 hb5)
      have hbX5 := below_self HB.out.2.1 hb5
      have hbF5 := below_self HB.out.2.2 hb5
      have gS2 := race_see t ((List.range N).map fun n : Nat => (n : Int)) w5 _ (.slice A2 N d2) hT5 (by omega) hwl (by rw [hz2]; exact s2.below hb5)
      have HD := Lib.hid (And.intro hr1 (And.intro hB1 (And.intro hbX5 hbF5)))
      clear gS1 c0 c1 c2 c3 c4 hT5 s1 s2 hr1 hn1 hB1 hbX5 hbF5 hb5 hG1
      go_wp2_with fail
      refine gS2.mono ?_
      rintro e w6 h6
      rcases h6 with ⟨ns2, G2, hn2, hr2, rfl, hG2, hB2, hb6⟩ | ⟨hno, -, -⟩
      rotate_left
      · exact absurd (Rc.right_nats (by rw [HR.out.2.2]; exact Rc.right_plain t)) hno
      obtain ⟨⟨c0, c1, c2, c3, c4⟩, hT6⟩ := HB.out.1.look _ (below_self HD.out.2.2.1 hb6)
      have gRc := race_races t w6 _ hT6 hlv
      have hbF6 := below_self HD.out.2.2.2 hb6
      have hE : ∀ w', Below w6.heap.size w6 w' → Rc.races t = [] → Calls Try.prog 12 #[.slice (some ⟨G1, 0, none⟩) t.size t.size, .slice (some ⟨G2, 0, none⟩) t.size t.size] w' fun e w'' => e = .returned (.bool true) ∧ ∃ m, w'' = w'.drewN m := fun w' hb' hf => by
        have e1 := Rc.free_same hf HD.out.1
        have e2 := Rc.free_same hf hr2
        have l1 : (Rc.seeL t ns1).length = t.size := by simp [Rc.seeL]
        have l2 : (Rc.seeL t ns2).length = t.size := by simp [Rc.seeL]
        have q1 : SlV w' 1 (.slice (some ⟨G1, 0, none⟩) t.size t.size) (Rc.seeL t ns1).length (ints .i64 (Rc.seeL t ns1)) := by
          rw [l1]
          exact SlV.of_blk ((HD.out.2.1.below hb6).below hb') (by simp [ints, l1]) (by omega)
        have q2 : SlV w' 1 (.slice (some ⟨G2, 0, none⟩) t.size t.size) (Rc.seeL t ns2).length (ints .i64 (Rc.seeL t ns2)) := by
          rw [l2]
          exact SlV.of_blk (hB2.below hb') (by simp [ints, l2]) (by omega)
        refine (rc_equal _ _ _ _ w' q1 q2).mono fun e w'' ⟨h1, h2⟩ => ⟨?_, h2⟩
        rw [h1, e1, e2]
        simp
      have HE := Lib.hid (And.intro hE hbF6)
      clear gS2 k0 k1 k2 k3 k4 hT6 hr2 hn2 hB2 hb6 hG2 hE hbF6
      go_wp2_with fail
      refine gRc.mono ?_
      rintro e w7 ⟨u, rfl, hu, hb7⟩
      obtain ⟨A7, d7, rfl, hd7, hm7⟩ := own_slice hu
      have hbF7 := below_self HE.out.2 hb7
      unfold maxLen at hm7
      obtain ⟨R, hR⟩ : ∃ R, R = (Rc.races t).length := ⟨_, rfl⟩
      rw [← hR] at hd7 ⊢
      clear gRc c0 c1 c2 c3 c4 hu
      by_cases hR0 : R = 0
      · subst hR0
        have hf := List.length_eq_zero_iff.1 hR.symm
        have gE := HE.out.1 w7 hb7 hf
        clear hR hf hb7
        go_wp2_with fail
        refine gE.mono ?_
        rintro e w8 ⟨rfl, m, rfl⟩
        clear gE
        go_wp2_with fail
        go_ret
        exact ⟨rfl, below_drewN hbF7 _⟩
      · have gR : decide (0 < R) = true := by simp; omega
        clear hR hb7
        go_wp2_with fail
        go_ret
        exact ⟨rfl, hbF7⟩

theorem stealSame_walk (t : Sp.T) (ps : List Stl.Pk) (w : World) (cs : List Value) (W : Int) (v : Value) (hT : TmR w.heap.size w cs t) (hwl : t.wfl) (hsz : Stl.sz t ≤ 1048576) (hlv : t.size ≤ 1048576) (hps : ps.length ≤ 1048576) (hp : SlV w 2 v ps.length (pkcs ps)) :
    Calls Try.prog 3 #[.agg cs.toArray, .int .i64 W, v] w fun e w' => e = .returned (.bool true) ∧ Below w.heap.size w w' := by
  by_cases h : W < 1 ∨ 16 < W
  · exact stealSame_out t w cs W v hT h
  · obtain ⟨n, rfl⟩ := Int.eq_ofNat_of_zero_le (show 0 ≤ W by omega)
    exact stealSame_in t ps w cs n v hT hwl hsz hlv (by omega) (by omega) hps hp
end Go.Proofs.Ytcoijmnnnfogdaa
