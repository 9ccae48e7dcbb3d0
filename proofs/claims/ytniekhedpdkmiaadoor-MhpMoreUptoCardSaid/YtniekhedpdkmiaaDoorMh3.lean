/-
  The looker, read; mhp.mix, walked: a range over a function within another.
-/
import Derived.Test.YtniekhedpdkmiaaDoorMh2
import Derived.Test.YtniekhedpdkmiaaDoorMhIt
import Derived.Test.YtniekhedpdkmiaaDoorSettleIn
namespace Go.Proofs.YtniekhedpdkmiaaDoor
set_option linter.unusedVariables false
set_option linter.unusedSimpArgs false
open Go.RowKit Go.Shelf

attribute [local go_sem] Oper.semAt_some

/-! ### what is kept by whoever turns no number -/
/-- all numbers that lay are there -/
def Nums (w w' : World) : Prop := w.heap.size ≤ w'.heap.size ∧ ∀ (p : Addr) (k : IntKind) (x : Int), w.cell? p = some (.int k x) → w'.cell? p = some (.int k x)
theorem Nums.refl (w : World) : Nums w w := ⟨Nat.le_refl _, fun _ _ _ h => h⟩
theorem Nums.trans {a b c : World} (h : Nums a b) (k : Nums b c) : Nums a c := ⟨Nat.le_trans h.1 k.1, fun p i x hx => k.2 p i x (h.2 p i x hx)⟩
theorem Nums.of_below {w w' : World} (h : Below w.heap.size w w') : Nums w w' := ⟨h.size, fun p _ _ hx => (h.cell (World.block_lt_of_cell? w p hx)).trans hx⟩
theorem Cells.nums {w w' : World} {B : Nat} {A : Option Addr} {xs : List Nat} (h : Cells w B A (nats xs)) (hB : B ≤ w.heap.size) (hn : Nums w w') : Cells w' w'.heap.size A (nats xs) := by
  by_cases hx : xs = []
  · subst hx; exact Cells.nil _ _ _
  obtain ⟨b, o, hA, hb, hc⟩ := h.at_ (fun e => hx (by simpa [nats] using e))
  refine ⟨b, o, fun _ => ⟨hA, by have := hn.1; omega⟩, fun j u hu => ?_⟩
  have hu' := hu
  simp only [nats, List.getElem?_map, Option.map_eq_some_iff] at hu'
  obtain ⟨y, -, rfl⟩ := hu'
  exact hn.2 _ _ _ (hc j _ hu)
theorem SlU.nums {w w' : World} {v : Value} {xs : List Nat} (h : SlU w v xs) (hn : Nums w w') : SlU w' v xs := by
  obtain ⟨⟨A, c, rfl, h1, h2, h3, h4⟩, hw⟩ := h
  exact ⟨⟨A, c, rfl, h1, h2, h3, h4.nums (Nat.le_refl _) hn⟩, hw⟩
theorem SetV.nums {w w' : World} {v : Value} {S : Nat → Prop} (h : SetV w v S) (hn : Nums w w') : SetV w' v S := by
  obtain ⟨xs, h1, h2, h3⟩ := h
  exact ⟨xs, h1.nums hn, h2, h3⟩
theorem Tab.nums {w w' : World} (h : Tab w) (hn : Nums w w') : Tab w' := fun j hj => hn.2 _ _ _ (h j hj)

/-! ### the looker's rows -/
def Rws (w : World) (g n : Nat) (R : Nat → Nat → Prop) : Prop := ∃ vs : List Value, vs.length = n ∧ Blk w g 22 vs ∧ ∀ i v, vs[i]? = some v → SetV w v (R i)
theorem Rws.iff {w : World} {g n : Nat} {R R' : Nat → Nat → Prop} (h : Rws w g n R) (hr : ∀ i j, R i j ↔ R' i j) : Rws w g n R' := by
  obtain ⟨vs, h1, h2, h3⟩ := h
  exact ⟨vs, h1, h2, fun i v hv => (h3 i v hv).iff (hr i)⟩
theorem Rws.lt {w : World} {g n : Nat} {R : Nat → Nat → Prop} (h : Rws w g n R) : g < w.heap.size := by
  obtain ⟨vs, h1, h2, h3⟩ := h
  exact h2.lt
/-- no number lies in it -/
theorem Rws.no_num {w : World} {g n : Nat} {R : Nat → Nat → Prop} (h : Rws w g n R) {p : Addr} {k : IntKind} {x : Int} (hp : w.cell? p = some (.int k x)) : p.block ≠ g := by
  obtain ⟨vs, h1, h2, h3⟩ := h
  intro e
  have hc : p = ⟨g, p.off, none⟩ := by
    obtain ⟨b, o, s⟩ := p
    have := World.cell?_spot hp
    simp only at e this
    rw [e, this]
  rw [hc, h2.cell] at hp
  obtain ⟨A, m, c, hv⟩ := (h3 _ _ hp).lt
  cases hv
theorem Rws.nums_of {w w' : World} {g n : Nat} {R : Nat → Nat → Prop} (h : Rws w g n R) (hk : Keeps (fun k => k = g) w w') : Nums w w' :=
  ⟨hk.size, fun p _ _ hp => (World.cell?_of_block (hk.block _ (World.block_lt_of_cell? w p hp) (h.no_num hp))).trans hp⟩
theorem Rws.keep {w w' : World} {g n : Nat} {R : Nat → Nat → Prop} (h : Rws w g n R) (hn : Nums w w') (hb : w'.heap[g]? = w.heap[g]?) : Rws w' g n R := by
  obtain ⟨vs, h1, h2, h3⟩ := h
  exact ⟨vs, h1, hb.trans h2, fun i v hv => (h3 i v hv).nums hn⟩
theorem Rws.below {w w' : World} {g n : Nat} {R : Nat → Nat → Prop} (h : Rws w g n R) (hb : Below w.heap.size w w') : Rws w' g n R := h.keep (Nums.of_below hb) (hb.block g h.lt)
theorem nums_own {W W' : World} {row : Option Nat} (hg : W.grownBy W' row) (hr : ∀ r, row = some r → ∃ o : Obj, W.heap[r]? = some o ∧ o.isCells = false) : Nums W W' := ⟨hg.size, fun _ _ _ hx => cell_kept hx hg hr⟩
theorem Rws.own {β : Type} {g n : Nat} (R : β → Nat → Nat → Prop) : Own (fun s W => Rws W g n (R s)) := fun s W W' row h hg hr =>
  h.keep (nums_own hg hr) (hg.block g h.lt (fun e => by
    obtain ⟨o, ho, hc⟩ := hr g e.symm
    obtain ⟨vs, h1, h2, h3⟩ := h
    unfold Blk at h2
    rw [h2] at ho
    cases ho
    cases hc))
/-- one row is put anew -/
theorem Rws.put {w w' : World} {g n i : Nat} {R : Nat → Nat → Prop} {S : Nat → Prop} {u : Value} (h : Rws w g n R) (hu : SetV w u S) {vs : List Value} (hv : Blk w g 22 vs) (hB : Blk w' g 22 (vs.set i u)) (hg : w.grownBy w' (some g)) : Rws w' g n (fun a b => if a = i then S b else R a b) := by
  have hn := h.nums_of (Keeps.mono (Keeps.of_grown hg) (fun k hk => by injection hk))
  obtain ⟨vs', h1, h2, h3⟩ := h
  have e : vs' = vs := by
    unfold Blk at hv h2
    rw [h2] at hv
    injection hv with hv
    injection hv with hv
    exact congrArg Array.toList hv
  subst e
  refine ⟨_, by rw [List.length_set]; exact h1, hB, fun j v hj => ?_⟩
  rw [List.getElem?_set] at hj
  split at hj
  · rename_i e
    subst e
    split at hj
    · injection hj with hj
      subst hj
      exact (hu.nums hn).iff fun x => by simp
    · cases hj
  · rename_i e
    exact ((h3 j v hj).nums hn).iff fun x => by
      show R j x ↔ (if j = i then S x else R j x)
      rw [if_neg (fun h => e h.symm)]

theorem ownFrom_keeps {β : Type} {S : Nat → Prop} {B : Nat} {w₀ : World} (hB : w₀.heap.size ≤ B) : OwnFrom B (fun (_ : β) W => Keeps S w₀ W) := fun _ X Y row hs hg hr =>
  hs.step (Keeps.of_grown hg) fun i hi e => by have := (hr i e.symm).1; omega
theorem kpP_of_keeps {n₀ g : Nat} {W W' : World} (h : Keeps (fun k => k = g) W W') (hn : n₀ ≤ W.heap.size) : KpP n₀ g W W' := ⟨h.size, fun k hk hne => h.block k (by omega) hne⟩
/-- the pairs noted so far -/
def St.upto (R : Nat → Nat → Prop) (ys : List Nat) (pre : List Nat) (i j : Nat) : Prop := R i j ∨ ∃ x ∈ pre, ∃ y ∈ ys, i = min x y ∧ j = max x y
def St.upto2 (R : Nat → Nat → Prop) (ys : List Nat) (pre : List Nat) (x : Nat) (pre' : List Nat) (i j : Nat) : Prop := St.upto R ys pre i j ∨ ∃ y ∈ pre', i = min x y ∧ j = max x y

def FSet (S : Nat → Prop) : Fact (fun w w' => Below w.heap.size w w') := ⟨fun v w => SetV w v S, fun _ _ _ h k => h.below k⟩

set_option maxHeartbeats 4000000 in
set_option maxRecDepth 100000 in
theorem mix_any (w : World) (kb g n : Nat) (R : Nat → Nat → Prop) (va vb : Value) (A B : Nat → Prop) (hT : Tab w) (hK : Blk w kb 68 [.slice (some ⟨g, 0, none⟩) n n]) (hR : Rws w g n R) (ha : SetV w va A) (hb : SetV w vb B) (hA : ∀ x, A x → x < n) (hBn : ∀ x, B x → x < n) (hn : n ≤ 65535) :
    Calls Tryd.prog 49 #[.pointer (some ⟨kb, 0, none⟩), va, vb] w fun e w' => (∃ v, e = .returned v) ∧ Rws w' g n (fun i j => R i j ∨ St.mixed A B i j) ∧ Keeps (fun k => k = g) w w' := by
  have ha' := ha
  have hb' := hb
  obtain ⟨xs, sa, la, ma⟩ := ha
  obtain ⟨ys, sb, lb, mb⟩ := hb
  obtain ⟨aA, ac, rfl⟩ := slU_form sa
  obtain ⟨bA, bc, rfl⟩ := slU_form sb
  have hgk : g ≠ kb := by
    intro e
    subst e
    obtain ⟨vs, h1, h2, h3⟩ := hR
    unfold Blk at h2 hK
    rw [h2] at hK
    injection hK with hK
    injection hK with _ ht
    exact absurd ht (by decide)
  refine (callsIn_wide (n := 6)).1 ?_
  refine callsIn_of_wp_marks Tryd.func49 rfl trivial ?_ rfl
  simp only [Tryd.ntmps49, List.size_toArray, List.length_cons, List.length_nil, Nat.reduceAdd, Nat.reduceSub, Array.replicate_succ, Array.replicate_zero, List.push_toArray, List.append_toArray, List.nil_append, List.cons_append]
  gi_wp2_with fail
  refine ⟨trivial, (all_gen 4 _ _ _ _).mono ?_⟩
  rintro e w' ⟨rfl, rfl⟩
  have bK := ((Boxed.new w 65 (.pointer (some ⟨kb, 0, none⟩))).alloc (.cells #[.slice bA ys.length bc] 53)).alloc (.cells #[.slice aA xs.length ac] 53)
  have bB := (Boxed.new (w.alloc (.cells #[.pointer (some ⟨kb, 0, none⟩)] 65)) 53 (.slice bA ys.length bc)).alloc (.cells #[.slice aA xs.length ac] 53)
  have bQ := Boxed.new ((w.alloc (.cells #[.pointer (some ⟨kb, 0, none⟩)] 65)).alloc (.cells #[.slice bA ys.length bc] 53)) 53 (.slice aA xs.length ac)
  simp only [World.size_alloc] at bB bQ
  have hB0 : Below w.heap.size w (((w.alloc (.cells #[.pointer (some ⟨kb, 0, none⟩)] 65)).alloc (.cells #[.slice bA ys.length bc] 53)).alloc (.cells #[.slice aA xs.length ac] 53)) := below_alloc (below_alloc (below_alloc (Below.refl _ w) _) _) _
  have hsz : (((w.alloc (.cells #[.pointer (some ⟨kb, 0, none⟩)] 65)).alloc (.cells #[.slice bA ys.length bc] 53)).alloc (.cells #[.slice aA xs.length ac] 53)).heap.size = w.heap.size + 3 := by simp
  gi_wp2_with fail
  obtain ⟨W0, hW0⟩ : ∃ W0, ((w.alloc (.cells #[.pointer (some ⟨kb, 0, none⟩)] 65)).alloc (.cells #[.slice bA ys.length bc] 53)).alloc (.cells #[.slice aA xs.length ac] 53) = W0 := ⟨_, rfl⟩
  rw [hW0] at bK bB bQ hB0 hsz ⊢
  clear hW0
  have hgl := hR.lt
  have hkl := hK.lt
  have hR0 := hR.below hB0
  have hN0 := Nums.of_below hB0
  obtain ⟨YS, hYS⟩ : ∃ YS, YS = Bs.ls 0 ys := ⟨_, rfl⟩
  have mX : ∀ x, x ∈ Bs.ls 0 xs ↔ A x := fun x => (Bs.mem_list sa.2 x).trans (ma x)
  have mY : ∀ x, x ∈ YS ↔ B x := fun x => by rw [hYS]; exact (Bs.mem_list sb.2 x).trans (mb x)
  have keyA : ∀ W wr, Below W0.heap.size W0 W → KpP (w.heap.size + 3) g W wr → ∀ (p : Addr) (k : IntKind) (x : Int), W0.cell? p = some (.int k x) → wr.cell? p = some (.int k x) := fun W wr hW hk p k x hx =>
    (hk.cell (by rw [← hsz]; exact World.block_lt_of_cell? W0 p hx) (hR0.no_num hx)).trans ((hW.cell (World.block_lt_of_cell? W0 p hx)).trans hx)
  have stA := all_gen_stops 4 (w.heap.size + 2) ac aA xs sa.2 (by omega) (KpP (w.heap.size + 3) g) (KpP.refl _ _) (fun h k => h.trans k) W0
    (fun W wr hW hk => (hk.cell (a := ⟨w.heap.size + 2, 0, none⟩) (by show w.heap.size + 2 < _; omega) (by show w.heap.size + 2 ≠ g; omega)).trans ((hW.cell (p := ⟨w.heap.size + 2, 0, none⟩) (by show w.heap.size + 2 < _; omega)).trans bQ.cell))
    (fun W wr hW hk => ⟨_, by
      obtain ⟨⟨A', c', e, -, -, -, h4⟩, -⟩ := sa.nums hN0
      injection e with e1 e2 e3
      subst e1
      exact h4.nums (Nat.le_refl _) ⟨Nat.le_trans hW.size hk.1, keyA W wr hW hk⟩⟩)
    (fun W wr hW hk => (hT.nums hN0).nums ⟨Nat.le_trans hW.size hk.1, keyA W wr hW hk⟩)
  have HX := Lib.hid (And.intro hYS (And.intro mX mY))
  clear hYS mX mY keyA
  refine wpIn_rangeFunc_ownH rfl (by omega) (gf := 46) (lb := #[.pointer (some ⟨w.heap.size + 2, 0, none⟩)]) rfl trivial (enters_of Tryd.func46 (by kernel_rfl) rfl)
    stA (fun h k => h.trans k) (kpP_b (by omega)) (Below.refl _ _) (fun _ => rfl)
    (fun pre W => ((Boxed W w.heap.size 65 (.pointer (some ⟨kb, 0, none⟩)) ∧ Boxed W (w.heap.size + 1) 53 (.slice bA ys.length bc)) ∧ Rws W g n (St.upto R YS (pre.map (·.1)))) ∧ Keeps (fun k => k = g) W0 W)
    (fun _ _ _ => False)
    (OwnFrom.and (OwnFrom.and (OwnFrom.and (Own.from (boxed_own _ _ _) _) (Own.from (boxed_own _ _ _) _)) (Own.from (Rws.own _) _)) (ownFrom_keeps (Nat.le_refl _)))
    (fun _ _ _ _ _ hs _ _ => hs)
    ⟨⟨⟨bK, bB⟩, hR0.iff fun i j => by simp [St.upto]⟩, Keeps.refl _ _⟩
    (fun x a' W => ∃ Bx, w.heap.size + 2 < Bx ∧ Boxed W Bx 3 (.int .i64 (x.1 : Int)) ∧ a' = { tmps := #[.pointer (some ⟨kb, 0, none⟩), .slice aA xs.length ac, .slice bA ys.length bc, .pointer (some ⟨w.heap.size, 0, none⟩), undef, .pointer (some ⟨w.heap.size + 1, 0, none⟩), .pointer (some ⟨Bx, 0, none⟩), undef, .slice aA xs.length ac, .func (.func 46) #[] #[.pointer (some ⟨w.heap.size + 2, 0, none⟩)], .int .i64 (x.1 : Int), undef, undef, undef, undef, undef, undef, undef, undef, undef, undef, undef, undef, undef, undef, undef, undef, undef, undef, undef, undef, undef, undef, undef, undef], defers := [] })
    (fun x a' _ X Y row hs hg hr => by obtain ⟨Bx, h1, h2, h3⟩ := hs; exact ⟨Bx, h1, boxed_own Bx 3 (fun (_ : Unit) => Value.int .i64 (x.1 : Int)) () X Y row h2 hg (fun r e => (hr r e).2), h3⟩)
    ?assign ?body ?done ?stop
  case assign =>
    rintro l pre x W K ⟨⟨⟨b1, b2⟩, b3⟩, b4⟩ hK'
    gi_wp2
    refine hK' _ _ ((KeepsOthers.alloc _ _).from _) ⟨by simp, fun k hk _ => Below.heap_alloc W _ k (by have := b4.size; omega)⟩ ⟨⟨⟨b1.alloc _, b2.alloc _⟩, b3.below (below_alloc (Below.refl _ _) _)⟩, b4.alloc _⟩ ⟨W.heap.size, by have := b4.size; omega, Boxed.new W 3 _, rfl⟩
  case body =>
    rintro l pre x a' W hl ⟨r, hr⟩ ⟨⟨⟨b1, b2⟩, b3⟩, b4⟩ ⟨Bx, hBx, bX, rfl⟩ hlt
    have cB := b2.cell
    gi_wp2_with fail
    refine ⟨trivial, (CallsIn.inRound l (all_gen 2 _ _ _ _)).mono ?_⟩
    rintro e w' ⟨rfl, rfl⟩
    have hsW := b4.size
    have hNW : Nums w W := hN0.trans (hR0.nums_of b4)
    have bN := Boxed.new W 53 (.slice bA ys.length bc)
    have hbN : Below W.heap.size W (W.alloc (.cells #[.slice bA ys.length bc] 53)) := below_alloc (Below.refl _ _) _
    have hr' : (W.alloc (.cells #[.slice bA ys.length bc] 53)).heap[l]? = some (.loop r) := (Below.heap_alloc W _ l (Array.getElem?_eq_some_iff.1 hr).1).trans hr
    have c1 := b1.alloc (.cells #[.slice bA ys.length bc] 53)
    have c2 := b2.alloc (.cells #[.slice bA ys.length bc] 53)
    have cX := bX.alloc (.cells #[.slice bA ys.length bc] 53)
    have hs1 : (W.alloc (.cells #[.slice bA ys.length bc] 53)).heap.size = W.heap.size + 1 := by simp
    have kf1 : KeepsFrom W0.heap.size W (W.alloc (.cells #[.slice bA ys.length bc] 53)) := (KeepsOthers.alloc _ _).from _
    gi_wp2_with fail
    obtain ⟨W1, hW1⟩ : ∃ W1, W.alloc (.cells #[.slice bA ys.length bc] 53) = W1 := ⟨_, rfl⟩
    rw [hW1] at bN hbN hr' c1 c2 cX hs1 kf1 ⊢
    clear hW1
    have hR1 := b3.below hbN
    have keyB : ∀ W' wr, Below W1.heap.size W1 W' → KpP (W.heap.size + 1) g W' wr → ∀ (p : Addr) (k : IntKind) (x : Int), W1.cell? p = some (.int k x) → wr.cell? p = some (.int k x) := fun W' wr hW hk p k x hx =>
      (hk.cell (by rw [← hs1]; exact World.block_lt_of_cell? W1 p hx) (hR1.no_num hx)).trans ((hW.cell (World.block_lt_of_cell? W1 p hx)).trans hx)
    have hNW1 := hNW.trans (Nums.of_below hbN)
    have stB := all_gen_stops 2 W.heap.size bc bA ys sb.2 (by omega) (KpP (W.heap.size + 1) g) (KpP.refl _ _) (fun h k => h.trans k) W1
      (fun W' wr hW hk => (hk.cell (a := ⟨W.heap.size, 0, none⟩) (by show W.heap.size < _; omega) (by show W.heap.size ≠ g; omega)).trans ((hW.cell (p := ⟨W.heap.size, 0, none⟩) (by show W.heap.size < _; omega)).trans bN.cell))
      (fun W' wr hW hk => ⟨_, by
        obtain ⟨⟨A', c', e, -, -, -, h4⟩, -⟩ := sb.nums hNW1
        injection e with e1 e2 e3
        subst e1
        exact h4.nums (Nat.le_refl _) ⟨Nat.le_trans hW.size hk.1, keyB W' wr hW hk⟩⟩)
      (fun W' wr hW hk => (hT.nums hNW1).nums ⟨Nat.le_trans hW.size hk.1, keyB W' wr hW hk⟩)
    clear keyB bN cB
    refine wpIn_rangeFunc_ownN (l₀ := l) (r₀ := r) rfl hr' (by omega) (gf := 46) (lb := #[.pointer (some ⟨W.heap.size, 0, none⟩)]) rfl trivial (enters_of Tryd.func46 (by kernel_rfl) rfl)
      (stB.inRound l) (fun h k => h.trans k) (kpP_b (by omega)) (Below.refl _ _) (fun _ => rfl)
      (fun pre' W' => (((Boxed W' w.heap.size 65 (.pointer (some ⟨kb, 0, none⟩)) ∧ Boxed W' (w.heap.size + 1) 53 (.slice bA ys.length bc)) ∧ Boxed W' Bx 3 (.int .i64 (x.1 : Int))) ∧ Rws W' g n (St.upto2 R YS (pre.map (·.1)) x.1 (pre'.map (·.1)))) ∧ (Keeps (fun k => k = g) W1 W' ∧ KeepsFrom W0.heap.size W1 W'))
      (fun _ _ _ => False)
      (OwnFrom.and (OwnFrom.and (OwnFrom.and (OwnFrom.and (Own.from (boxed_own _ _ _) _) (Own.from (boxed_own _ _ _) _)) (Own.from (boxed_own _ _ _) _)) (Own.from (Rws.own _) _)) (OwnFrom.and (ownFrom_keeps (Nat.le_refl _)) (ownFrom_keepsFrom (Nat.le_refl _))))
      (fun _ _ _ _ _ hs _ _ => hs)
      ⟨⟨⟨⟨c1, c2⟩, cX⟩, hR1.iff fun i j => by simp [St.upto2]⟩, Keeps.refl _ _, KeepsFrom.refl _ _⟩
      (fun y a'' _ => a'' = { tmps := #[.pointer (some ⟨kb, 0, none⟩), .slice aA xs.length ac, .slice bA ys.length bc, .pointer (some ⟨w.heap.size, 0, none⟩), undef, .pointer (some ⟨w.heap.size + 1, 0, none⟩), .pointer (some ⟨Bx, 0, none⟩), .int .i64 (y.1 : Int), .slice aA xs.length ac, .func (.func 46) #[] #[.pointer (some ⟨w.heap.size + 2, 0, none⟩)], .int .i64 (x.1 : Int), .slice bA ys.length bc, .func (.func 46) #[] #[.pointer (some ⟨W.heap.size, 0, none⟩)], .int .i64 (y.1 : Int), undef, undef, undef, undef, undef, undef, undef, undef, undef, undef, undef, undef, undef, undef, undef, undef, undef, undef, undef, undef, undef], defers := [] })
      (fun _ _ _ _ _ _ hs _ _ => hs)
      ?assign2 ?body2 ?done2 ?stop2
    case assign2 =>
      rintro l2 pre' y W' K hi hK'
      gi_wp2
      exact hK' _ _ (KeepsFrom.refl _ _) (KpP.refl _ _ _) hi rfl
    case body2 =>
      rintro l2 pre' y a'' W' _ _ ⟨⟨⟨⟨d1, d2⟩, dX⟩, d3⟩, d4, d5⟩ rfl _
      gi_wp2_with fail
      have hx := hA _ ((HX.out.2.1 x.1).1 x.2)
      have hy := hBn _ ((HX.out.2.2 y.1).1 (by rw [HX.out.1]; exact y.2))
      have kk : Keeps (fun k => k = g) w W' := ((((Keeps.of_below hB0 (fun k => k = g)).step b4 fun i _ h => h).step (Keeps.of_below hbN (fun k => k = g)) fun i _ h => h).step d4 fun i _ h => h)
      have e1 := d1.cell
      have eX := dX.cell
      have ek : W'.cell? ⟨kb, 0, none⟩ = some (.slice (some ⟨g, 0, none⟩) n n) := ((hK.keeps kk (fun e => hgk e.symm)).cell 0).trans rfl
      have d3' := d3
      obtain ⟨vs, hvl, hvB, hvS⟩ := d3
      obtain ⟨x, hxm⟩ := x
      obtain ⟨y, hym⟩ := y
      simp only at hx hy eX d3' ⊢
      obtain ⟨lo, hlo⟩ : ∃ lo, lo = min x y := ⟨_, rfl⟩
      obtain ⟨hi, hhi⟩ : ∃ hi, hi = max x y := ⟨_, rfl⟩
      have hln : lo < n := by omega
      obtain ⟨u0, hu0⟩ : ∃ u, vs[lo]? = some u := ⟨_, List.getElem?_eq_getElem (by omega)⟩
      have hS0 := hvS _ _ hu0
      have ec : W'.cell? ⟨g, lo, none⟩ = some u0 := (hvB.cell lo).trans hu0
      have keepS : ∀ w', Below W'.heap.size W' w' → (Below W'.heap.size W' w' ∧ w'.cell? ⟨w.heap.size, 0, none⟩ = some (.pointer (some ⟨kb, 0, none⟩)) ∧ w'.cell? ⟨Bx, 0, none⟩ = some (.int .i64 (x : Int)) ∧ w'.cell? ⟨kb, 0, none⟩ = some (.slice (some ⟨g, 0, none⟩) n n) ∧ w'.cell? ⟨g, lo, none⟩ = some u0) := fun w' hb =>
        ⟨hb, (hb.cell (World.block_lt_of_cell? W' _ e1)).trans e1, (hb.cell (World.block_lt_of_cell? W' _ eX)).trans eX, (hb.cell (World.block_lt_of_cell? W' _ ek)).trans ek, (hb.cell (World.block_lt_of_cell? W' _ ec)).trans ec⟩
      have HV := Lib.hid (And.intro hu0 (And.intro hvl (And.intro hlo hhi)))
      have hD := keepS _ (below_drew (Below.refl _ _))
      have hmin : min (x : Int) (y : Int) = (lo : Int) := by omega
      have hmax : max (x : Int) (y : Int) = (hi : Int) := by omega
      have hhi65 : hi ≤ 65535 := by omega
      clear hu0 hvl hvS ec ek e1 eX kk hlo hhi hx hy
      change Code.wpIn (Fence.wide.inRound l2) _ _ _ _ _ _
      refine wpIn_walk_last (by kernel_rfl) (by kernel_rfl) (by rintro ⟨_, _, h⟩; exact h) (fun w w' => Below w.heap.size w w') (fun w' => (Below W'.heap.size W' w' ∧ w'.cell? ⟨w.heap.size, 0, none⟩ = some (.pointer (some ⟨kb, 0, none⟩)) ∧ w'.cell? ⟨Bx, 0, none⟩ = some (.int .i64 (x : Int)) ∧ w'.cell? ⟨kb, 0, none⟩ = some (.slice (some ⟨g, 0, none⟩) n n) ∧ w'.cell? ⟨g, lo, none⟩ = some u0)) hD ?_
      simp only [List.length_cons, List.length_nil, Nat.reduceAdd, Nat.reduceSub, List.take_succ_cons, List.take_zero, List.drop_succ_cons, List.drop_zero]
      repeat (first | (refine settle_skip (fun _ => by rfl) ?_; (simp only [Act.put, List.setIfInBounds_toArray, List.set_cons_zero, List.set_cons_succ])) | (refine' settle_run (fun _ _ => Below.refl _ _) (fun _ => by rfl) ?_ ?_; rotate_left; (focus (intro ρ w hS hF; (try dsimp only at hS); go_split_ands; go_simp; try with_reducible rfl)); (simp only [Act.put, List.setIfInBounds_toArray, List.set_cons_zero, List.set_cons_succ])))
      (refine settle_known (FSet (fun z ↦ St.upto2 R YS (pre.map (·.1)) x (pre'.map (·.1)) lo z ∨ z = hi)) (by rfl) (fun _ => by rfl)  ?_ ?_; (focus (intro ρ w hS hF K hK; (simp only [Act.put, List.setIfInBounds_toArray, List.set_cons_zero, List.set_cons_succ] at hK); go_simp; (refine (add_set _ _ _ _ (hS0.below hS.1) hhi65).mono ?_; rintro e w6 ⟨v, rfl, hF', hb'⟩; exact hK _ _ hF' (keepS _ (below_next hb' hS.1)) hb'))); (simp only [Act.put, List.setIfInBounds_toArray, List.set_cons_zero, List.set_cons_succ]))
      repeat (first | (refine settle_skip (fun _ => by rfl) ?_; (simp only [Act.put, List.setIfInBounds_toArray, List.set_cons_zero, List.set_cons_succ])) | (refine' settle_run (fun _ _ => Below.refl _ _) (fun _ => by rfl) ?_ ?_; rotate_left; (focus (intro ρ w hS hF; (try dsimp only at hS); go_split_ands; go_simp; try with_reducible rfl)); (simp only [Act.put, List.setIfInBounds_toArray, List.set_cons_zero, List.set_cons_succ])))
      refine settle_nil ?_
      intro ρ w3 hS hF
      have hU := hF 33 (FSet (fun z => St.upto2 R YS (pre.map (·.1)) x (pre'.map (·.1)) lo z ∨ z = hi)) List.mem_cons_self
      have hU : SetV w3 (ρ 33) (fun z => St.upto2 R YS (pre.map (·.1)) x (pre'.map (·.1)) lo z ∨ z = hi) := hU
      have hb3 := hS.1
      clear hF hS keepS hD
      dsimp only
      generalize ρ 33 = U at hU ⊢
      obtain ⟨Ua, Um, Uc, rfl⟩ := hU.lt
      have hB3 := hvB.below hb3
      refine wpl_set_blk hB3 lo (.slice Ua Um Uc) (by kernel_rfl) (by rw [HV.out.2.1]; exact hln) rfl rfl rfl rfl rfl rfl ?_
      intro w4 hB4 hg4
      have hR4 := (d3'.below hb3).put hU hB3 hB4 hg4
      have hgb := grown_of_below hb3 none
      have f1 := (d1.kept hgb (by simp)).kept hg4 (fun e => by injection e with e; omega)
      have f2 := (d2.kept hgb (by simp)).kept hg4 (fun e => by injection e with e; omega)
      have fX := (dX.kept hgb (by simp)).kept hg4 (fun e => by injection e with e; omega)
      have k1 : Keeps (fun k => k = g) W' w4 := ((Keeps.of_below hb3 (fun k => k = g)).step (Keeps.of_grown hg4) fun i _ e => by injection e)
      have k2 := d4.step k1 fun i _ h => h
      have hW1 := d4.size
      have kf : ∀ B, g < B → KeepsFrom B W' w4 := fun B hB => (KeepsFrom.of_grownBy hgb (fun j e => by cases e)).trans (KeepsFrom.of_grownBy hg4 (fun j e => by injection e with e; omega))
      have HR := Lib.hid (And.intro hR4 (And.intro f1 (And.intro f2 (And.intro fX (And.intro k1 (And.intro k2 kf))))))
      clear hR4 f1 f2 fX k1 k2 kf hB4 hB3 hb3 hgb
      go_wp2
      refine ⟨HR.out.2.2.2.2.2.2 _ (by omega), kpP_of_keeps HR.out.2.2.2.2.1 (by omega), ⟨⟨⟨HR.out.2.1, HR.out.2.2.1⟩, HR.out.2.2.2.1⟩, HR.out.1.iff fun i j => ?_⟩, HR.out.2.2.2.2.2.1, by first | exact d5.trans (HR.out.2.2.2.2.2.2 _ (by omega)) | (rw [← hsz]; exact d5.trans (HR.out.2.2.2.2.2.2 _ (by omega)))⟩
      have h1 := HV.out.2.2.1
      have h2 := HV.out.2.2.2
      simp only [List.unattach, List.map_append, List.map_cons, List.map_nil]
      unfold St.upto2
      split
      · rename_i e
        subst e
        rw [or_assoc]
        refine or_congr Iff.rfl ⟨?_, ?_⟩
        · rintro (⟨y', hy', e1, e2⟩ | e)
          · exact ⟨y', List.mem_append_left _ hy', e1, e2⟩
          · exact ⟨y, List.mem_append_right _ List.mem_cons_self, h1, by omega⟩
        · rintro ⟨y', hy', e1, e2⟩
          rcases List.mem_append.1 hy' with hy' | hy'
          · exact .inl ⟨y', hy', e1, e2⟩
          · rw [List.mem_singleton] at hy'
            subst hy'
            exact .inr (by omega)
      · rename_i e
        refine or_congr Iff.rfl ⟨?_, ?_⟩
        · rintro ⟨y', hy', e1, e2⟩
          exact ⟨y', List.mem_append_left _ hy', e1, e2⟩
        · rintro ⟨y', hy', e1, e2⟩
          rcases List.mem_append.1 hy' with hy' | hy'
          · exact ⟨y', hy', e1, e2⟩
          · rw [List.mem_singleton] at hy'
            subst hy'
            exact absurd (e1.trans h1.symm) e
    case done2 =>
      rintro ys' W' hys ⟨⟨⟨⟨d1, d2⟩, dX⟩, d3⟩, d4, d5⟩
      have kW := (Keeps.of_below hbN (fun k => k = g)).step d4 fun i _ h => h
      gi_wp2
      refine ⟨kf1.trans d5, kpP_of_keeps kW (by omega), ⟨⟨d1, d2⟩, d3.iff fun i j => ?_⟩, b4.step kW fun i _ h => h⟩
      rw [hys, ← HX.out.1]
      simp only [List.map_append, List.map_cons, List.map_nil]
      unfold St.upto2 St.upto
      rw [or_assoc]
      refine or_congr Iff.rfl ⟨?_, ?_⟩
      · rintro (⟨x', hx', y, h⟩ | ⟨y, h⟩)
        · exact ⟨x', List.mem_append_left _ hx', y, h⟩
        · exact ⟨x.1, List.mem_append_right _ List.mem_cons_self, y, h⟩
      · rintro ⟨x', hx', y, h⟩
        rcases List.mem_append.1 hx' with hx' | hx'
        · exact .inl ⟨x', hx', y, h⟩
        · rw [List.mem_singleton] at hx'
          subst hx'
          exact .inr ⟨y, h⟩
    case stop2 =>
      rintro c pre' W' _ h
      exact h.elim
  case done =>
    rintro D zs W hD hzs ⟨⟨⟨b1, b2⟩, b3⟩, b4⟩ hKD
    gi_wp2
    refine ⟨by simp, .inl ⟨_, _, rfl, run_takeDeferred hKD, ?_⟩⟩
    have hg := grownBy_putObj' W D (.deferred none)
    have hrow : ∀ r, (some D : Option Nat) = some r → ∃ o : Obj, W.heap[r]? = some o ∧ o.isCells = false := fun r e => by cases e; exact ⟨_, hKD, rfl⟩
    refine ⟨_, results_none rfl _ _ _, ⟨_, rfl⟩, (Rws.own (fun (_ : Unit) => St.upto R YS (zs.map (·.1))) () W _ _ b3 hg hrow).iff fun i j => ?_, ((Keeps.of_below hB0 _).step b4 fun i _ h => h).step (Keeps.of_grown hg) fun i hi e => by injection e with e; omega⟩
    unfold St.upto St.mixed
    refine or_congr Iff.rfl ⟨?_, ?_⟩
    · rintro ⟨x, hx, y, hy, e1, e2⟩
      exact ⟨x, y, (HX.out.2.1 x).1 (by rw [← hzs]; exact hx), (HX.out.2.2 y).1 hy, e1, e2⟩
    · rintro ⟨x, y, hx, hy, e1, e2⟩
      exact ⟨x, (by rw [hzs]; exact (HX.out.2.1 x).2 hx), y, (HX.out.2.2 y).2 hy, e1, e2⟩
  case stop =>
    rintro D c pre W _ _ h _
    exact h.elim
end Go.Proofs.YtniekhedpdkmiaaDoor
