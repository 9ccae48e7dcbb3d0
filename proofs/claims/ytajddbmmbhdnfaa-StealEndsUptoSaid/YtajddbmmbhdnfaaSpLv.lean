/-
  Package sp, walked: the leaves are gathered.
-/
import Derived.Test.YtajddbmmbhdnfaaSpWalk
namespace Go.Proofs.Ytajddbmmbhdnfaa
set_option linter.unusedVariables false
set_option linter.unusedSimpArgs false
set_option maxRecDepth 100000
open Go.RowKit

theorem meth_lv (g fuel : Nat) (w : World) : (method (fuel + 1) 84 (.pointer (some ⟨g, 0, none⟩)) "forkwright/sp.nothing").run Try.prog w = .ok (79, .pointer (some ⟨g, 0, none⟩)) w ∧
    (method (fuel + 1) 84 (.pointer (some ⟨g, 0, none⟩)) "forkwright/sp.one").run Try.prog w = .ok (80, .pointer (some ⟨g, 0, none⟩)) w ∧
    (method (fuel + 1) 84 (.pointer (some ⟨g, 0, none⟩)) "forkwright/sp.two").run Try.prog w = .ok (81, .pointer (some ⟨g, 0, none⟩)) w ∧
    (nilAhead (fuel + 1) 84 (.pointer (some ⟨g, 0, none⟩)) "forkwright/sp.two").run Try.prog w = .ok (some false) w :=
  ⟨by kernel_rfl, by kernel_rfl, by kernel_rfl, by kernel_rfl⟩

theorem LvEnd.and {B : Nat} {w : World} {g : Nat} {v : Value} {n : Nat} {xs : List Value} (e : Ending) (w' : World) : LvEnd B w g v n xs e w' ↔ (e = .returned (.tuple #[]) ∧ ∃ v', Lv B w' g v' n xs ∧ Keeps (fun k => k = g ∨ v.ownBlock = some k) w w' ∧ (∀ i, v'.ownBlock = some i → v.ownBlock = some i ∨ w.heap.size ≤ i)) := Iff.rfl

theorem Lv.alloc {B : Nat} {w : World} {g : Nat} {v : Value} {n : Nat} {xs : List Value} (h : Lv B w g v n xs) (o : Obj) : Lv B (w.alloc o) g v n xs := ⟨h.blk.alloc _, h.row.alloc _, by have := h.base; simp; omega, h.at_, h.ne⟩
theorem Lv.drewN {B : Nat} {w : World} {g : Nat} {v : Value} {n : Nat} {xs : List Value} (h : Lv B w g v n xs) (k : Nat) : Lv B (w.drewN k) g v n xs := ⟨h.blk, ⟨h.row.1, h.row.2⟩, h.base, h.at_, h.ne⟩

theorem lv_back {B : Nat} {w w0 : World} {g : Nat} {v : Value} {n : Nat} {xs : List Value} (hk : Keeps (fun _ => False) w w0) {e : Ending} {w' : World} (h : LvEnd B w0 g v n xs e w') : LvEnd B w g v n xs e w' := by
  obtain ⟨h1, v', h2, h3, h4⟩ := h
  have := hk.size
  exact ⟨h1, v', h2, (hk.mono (fun _ h => h.elim)).trans h3, fun i hi => (h4 i hi).imp id (fun h => by omega)⟩

theorem keeps_alloc (w : World) (o : Obj) : Keeps (fun _ => False) w (w.alloc o) := (Keeps.refl _ w).alloc o

theorem tell_leaves : ∀ (t : Sp.T) (B : Nat) (w : World) (g : Nat) (v : Value) (n : Nat) (xs cs : List Value), TmR B w cs t → Lv B w g v n xs → n + t.size ≤ 4194304 →
    Calls Try.prog 30 #[.agg cs.toArray, .iface 84 (.pointer (some ⟨g, 0, none⟩))] w (LvEnd B w g v (n + t.size) (xs ++ Sp.acccs t.leaves)) := by
  intro t
  induction t with
  | nil =>
    intro B w g v n xs cs hT hL hn
    have e : xs ++ Sp.acccs Sp.T.nil.leaves = xs := by simp [Sp.T.leaves, Sp.acccs]
    rw [e]
    refine tell_nil hT (f := 79) (fun k w => (meth_lv g k w).1) (fun _ _ => by rfl) ?_
    exact (lv_nothing B _ g v n xs (hL.alloc _)).mono fun e w' h => lv_back (keeps_alloc _ _) h
  | one c b l =>
    intro B w g v n xs cs hT hL hn
    have e : xs ++ Sp.acccs (Sp.T.one c b l).leaves = xs ++ Sp.accc (c, b, l) := by simp [Sp.T.leaves, Sp.acccs]
    rw [e]
    refine tell_one hT (f := 80) (fun k w => (meth_lv g k w).2.1) (fun _ _ => by rfl) ?_
    exact (lv_one B _ g v n xs (hL.alloc _) (c, b, l) (by omega)).mono fun e w' h => lv_back (keeps_alloc _ _) h
  | two par t0 t1 ih0 ih1 =>
    intro B w g v n xs cs hT hL hn
    rw [Sp.T.size_two] at hn ⊢
    refine tell_two hT (f := 81) (fun k w => (meth_lv g k w).2.2.1) (fun k w => (meth_lv g k w).2.2.2) (fun _ _ => by rfl) hL.base ?_
    intro cs0 cs1 r0 r1
    have hk0 : Keeps (fun _ => False) w ((w.alloc (.cells cs.toArray 26)).drewN 1) := (keeps_alloc _ _).drewN 1
    have hL0 : Lv B ((w.alloc (.cells cs.toArray 26)).drewN 1) g v n xs := (hL.alloc _).drewN 1
    have q0 : TmR B ((w.alloc (.cells cs.toArray 26)).drewN 1) cs0 t0 := r0.keep (Nat.le_refl _) (fun p hp => World.cell?_alloc_lt w _ p (by have := hL.base; omega))
    have q1 : TmR B ((w.alloc (.cells cs.toArray 26)).drewN 1) cs1 t1 := r1.keep (Nat.le_refl _) (fun p hp => World.cell?_alloc_lt w _ p (by have := hL.base; omega))
    refine Calls.mono (R := LvEnd B ((w.alloc (.cells cs.toArray 26)).drewN 1) g v (n + (t0.size + t1.size)) (xs ++ Sp.acccs (Sp.T.two par t0 t1).leaves)) ?_ (fun e w' h => lv_back hk0 h)
    generalize ((w.alloc (.cells cs.toArray 26)).drewN 1) = w0 at hL0 q0 q1 ⊢
    clear hk0 hT hL r0 r1
    obtain ⟨a0, a1, a2, a3, A4, a5, a6, rfl, -, -⟩ := q0.form
    obtain ⟨b0, b1, b2, b3, B4, b5, b6, rfl, -, -⟩ := q1.form
    unfold tcells at q0 q1 ⊢
    have hbox0 := Blk.new w0 26 [.int .i64 a0, .int .i64 a1, .bool a2, .int .i64 a3, .slice A4 a5 a6]
    have hbox1 := Blk.new (w0.alloc (.cells #[.int .i64 a0, .int .i64 a1, .bool a2, .int .i64 a3, .slice A4 a5 a6] 26)) 26 [.int .i64 b0, .int .i64 b1, .bool b2, .int .i64 b3, .slice B4 b5 b6]
    have hL2 := (hL0.alloc (.cells #[.int .i64 a0, .int .i64 a1, .bool a2, .int .i64 a3, .slice A4 a5 a6] 26)).alloc (.cells #[.int .i64 b0, .int .i64 b1, .bool b2, .int .i64 b3, .slice B4 b5 b6] 26)
    have hB1 : B ≤ (w0.alloc (.cells #[.int .i64 a0, .int .i64 a1, .bool a2, .int .i64 a3, .slice A4 a5 a6] 26)).heap.size := by have := hL0.base; simp; omega
    have s0 := (q0.alloc hL0.base (.cells #[.int .i64 a0, .int .i64 a1, .bool a2, .int .i64 a3, .slice A4 a5 a6] 26)).alloc hB1 (.cells #[.int .i64 b0, .int .i64 b1, .bool b2, .int .i64 b3, .slice B4 b5 b6] 26)
    have s1 := (q1.alloc hL0.base (.cells #[.int .i64 a0, .int .i64 a1, .bool a2, .int .i64 a3, .slice A4 a5 a6] 26)).alloc hB1 (.cells #[.int .i64 b0, .int .i64 b1, .bool b2, .int .i64 b3, .slice B4 b5 b6] 26)
    have hg1 := hL0.blk.lt
    have hv1 : ∀ i, v.ownBlock = some i → i < w0.heap.size := fun i hi => (hL0.row.lt i hi).2
    have hv2 : ∀ i, v.ownBlock = some i → B ≤ i := own_ge hL0.row
    have hk2 : Keeps (fun _ => False) w0 ((w0.alloc (.cells #[.int .i64 a0, .int .i64 a1, .bool a2, .int .i64 a3, .slice A4 a5 a6] 26)).alloc (.cells #[.int .i64 b0, .int .i64 b1, .bool b2, .int .i64 b3, .slice B4 b5 b6] 26)) := (keeps_alloc _ _).alloc _
    have hsz : ((w0.alloc (.cells #[.int .i64 a0, .int .i64 a1, .bool a2, .int .i64 a3, .slice A4 a5 a6] 26)).alloc (.cells #[.int .i64 b0, .int .i64 b1, .bool b2, .int .i64 b3, .slice B4 b5 b6] 26)).heap.size = w0.heap.size + 1 + 1 := by simp
    have hq1 : (w0.alloc (.cells #[.int .i64 a0, .int .i64 a1, .bool a2, .int .i64 a3, .slice A4 a5 a6] 26)).heap.size = w0.heap.size + 1 := by simp
    rw [hq1] at hbox1
    clear hbox0 hq1 hL0 q0 q1 hB1
    go_enter Try.func81, Try.ntmps81
    go_wp2_with fail
    refine (ih0 B _ g v n xs _ s0 hL2 (by omega)).mono ?_
    rintro e w1 ⟨rfl, v1, L1, k1, o1⟩
    rw [hsz] at o1
    have hbox := hbox1.keeps k1 (fun h => h.elim (fun e => by omega) (fun e => by have := hv1 _ e; omega))
    have hbel := k1.below (B := B) hL2.base (fun i hi => hi.elim (fun e => by rw [e]; exact hL2.at_) (hv2 i))
    have s1' := s1.later hbel
    have d0 := hbox.cell 0
    have d1 := hbox.cell 1
    have d2 := hbox.cell 2
    have d3 := hbox.cell 3
    have d4 := hbox.cell 4
    simp only [List.getElem?_cons_zero, List.getElem?_cons_succ] at d0 d1 d2 d3 d4
    have kk := hk2.mono (S' := fun k => k = g ∨ v.ownBlock = some k) (fun _ h => h.elim) |>.trans k1
    clear hbox hbox1 s0 s1 hL2 k1 hk2 hbel hsz
    go_wp2_with fail
    refine (ih1 B _ g v1 (n + t0.size) _ _ s1' L1 (by omega)).mono ?_
    rintro e w2 ⟨rfl, v2, L2, k2, o2⟩
    have hw01 := kk.size
    have kf := kk.step k2 (fun i hi h => h.elim .inl (fun e => (o1 i e).elim .inr (fun h => by omega)))
    have e1 : n + (t0.size + t1.size) = n + t0.size + t1.size := by omega
    have e2 : xs ++ Sp.acccs (Sp.T.two par t0 t1).leaves = xs ++ Sp.acccs t0.leaves ++ Sp.acccs t1.leaves := by simp [Sp.T.leaves, Sp.acccs]
    have E1 := Lib.hid e1
    have E2 := Lib.hid e2
    clear e1 e2 d0 d1 d2 d3 d4 s1' L1
    go_wp2
    go_end0
    exact ⟨rfl, v2, by rw [E1.out, E2.out]; exact L2, kf, fun i hi => (o2 i hi).elim (fun h => (o1 i h).imp id (fun h => by omega)) (fun h => .inr (by omega))⟩

theorem leaves_any (w : World) (cs : List Value) (t : Sp.T) (hT : TmR w.heap.size w cs t) (hn : t.size ≤ 4194304) :
    Calls Try.prog 15 #[.agg cs.toArray] w fun e w' => ∃ v, e = .returned v ∧ SlV w' 3 v t.size (Sp.acccs t.leaves) ∧ Below w.heap.size w w' := by
  obtain ⟨a0, a1, a2, a3, A4, a5, a6, rfl, -, -⟩ := hT.form
  unfold tcells at hT ⊢
  have s1 := (hT.alloc (Nat.le_refl _) (.cells #[.int .i64 a0, .int .i64 a1, .bool a2, .int .i64 a3, .slice A4 a5 a6] 26)).alloc (by simp) (.cells #[.slice none 0 0] 82)
  have hb2 : Below w.heap.size w ((w.alloc (.cells #[.int .i64 a0, .int .i64 a1, .bool a2, .int .i64 a3, .slice A4 a5 a6] 26)).alloc (.cells #[.slice none 0 0] 82)) := below_alloc (below_alloc (Below.refl _ _) _) _
  have hL : Lv w.heap.size ((w.alloc (.cells #[.int .i64 a0, .int .i64 a1, .bool a2, .int .i64 a3, .slice A4 a5 a6] 26)).alloc (.cells #[.slice none 0 0] 82)) (w.heap.size + 1) (.slice none 0 0) 0 [] := by
    refine ⟨?_, World.ownsRow_nil _ _ _ _, by simp; omega, by omega, by simp [Value.ownBlock]⟩
    have := Blk.new (w.alloc (.cells #[.int .i64 a0, .int .i64 a1, .bool a2, .int .i64 a3, .slice A4 a5 a6] 26)) 82 [.slice none 0 0]
    simpa using this
  clear hT
  go_enter Try.func15, Try.ntmps15
  go_wp2_with fail
  refine (tell_leaves t w.heap.size _ _ _ 0 [] _ s1 hL (by omega)).mono ?_
  rintro e w1 ⟨rfl, v1, L1, k1, -⟩
  have c0 := L1.blk.cell 0
  simp only [List.getElem?_cons_zero] at c0
  have hb : Below w.heap.size w w1 := hb2.trans (k1.below hL.base (fun i hi => hi.elim (fun e => by omega) (fun e => by simp [Value.ownBlock] at e)))
  have hs := SlV.of_own L1.row
  rw [Nat.zero_add, List.nil_append] at hs
  obtain ⟨A9, c9, rfl, h1, h2, h3, h4⟩ := hs
  have H3 := Lib.hid h3
  clear h3 s1 hL L1 k1 hb2
  go_wp2
  go_ret
  exact ⟨_, rfl, ⟨A9, c9, rfl, h1, h2, H3.out, h4⟩, hb⟩
end Go.Proofs.Ytajddbmmbhdnfaa
