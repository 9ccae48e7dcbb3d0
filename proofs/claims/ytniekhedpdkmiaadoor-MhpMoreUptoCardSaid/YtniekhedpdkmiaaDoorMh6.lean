/-
  mhp.Pairs, walked.
-/
import Derived.Test.YtniekhedpdkmiaaDoorMh5
namespace Go.Proofs.YtniekhedpdkmiaaDoor
set_option linter.unusedVariables false
set_option linter.unusedSimpArgs false
open Go.RowKit Go.Shelf

attribute [local go_sem] Oper.semAt_some

/-! ### a range over a function within a plain loop: a mark for each round -/
def markOf (D : Nat) : Deferred := { target := .collected D, args := #[] }
theorem leaves_marks {F : Fence} {n : Nat} {P : Program} {fn : Func} {tmps : Array Value} {R : Ending → World → Prop} (b : Nat) (T : World → Prop)
    (hT : ∀ W D, b ≤ D → T W → W.heap[D]? = some (.deferred (some [])) → T (W.putObj D (.deferred none))) (hend : ∀ W, T W → LeavesInM F n P fn tmps R [] .returning W) :
    ∀ (Ds : List Nat) (W : World), Ds.Nodup → (∀ D ∈ Ds, b ≤ D ∧ W.heap[D]? = some (.deferred (some []))) → T W → LeavesInM F n P fn tmps R (Ds.map markOf) .returning W
  | [], W, _, _, h => hend W h
  | D :: Ds, W, hn, hD, h => by
    obtain ⟨h1, h2⟩ := hD D List.mem_cons_self
    have hn' := List.nodup_cons.1 hn
    refine ⟨by simp, .inl ⟨D, _, rfl, run_takeDeferred h2, ?_⟩⟩
    refine leaves_marks b T hT hend Ds _ hn'.2 (fun D' hD' => ?_) (hT _ _ h1 h h2)
    obtain ⟨h3, h4⟩ := hD D' (List.mem_cons_of_mem _ hD')
    exact ⟨h3, (World.putObj_heap_other (fun e => hn'.1 (by subst e; exact hD'))).trans h4⟩

def pairc (x : Nat × Nat) : List Value := [.int .i64 (x.1 : Int), .int .i64 (x.2 : Int)]
def paircs (l : List (Nat × Nat)) : List Value := l.flatMap pairc
theorem paircs_length (l : List (Nat × Nat)) : (paircs l).length = l.length * 2 := flat_length pairc 2 (fun _ => rfl) l
theorem info_pair : (Tryd.prog.info? 47).map (fun i => (i.zero, i.size, i.bytes)) = some (some (.agg #[.int .i64 0, .int .i64 0]), 2, 16) := by kernel_rfl

/-- of the blocks below p all are as they were; and so is a box -/
def KpQ (p q : Nat) (A B : World) : Prop := A.heap.size ≤ B.heap.size ∧ (∀ k, k < p → B.heap[k]? = A.heap[k]?) ∧ ∀ v, Boxed A q 53 v → Boxed B q 53 v
theorem KpQ.refl (p q : Nat) (A : World) : KpQ p q A A := ⟨Nat.le_refl _, fun _ _ => rfl, fun _ h => h⟩
theorem KpQ.trans {p q : Nat} {A B C : World} (h : KpQ p q A B) (k : KpQ p q B C) : KpQ p q A C := ⟨Nat.le_trans h.1 k.1, fun i hi => (k.2.1 i hi).trans (h.2.1 i hi), fun v hv => k.2.2 v (h.2.2 v hv)⟩
theorem KpQ.put {p q : Nat} {W : World} {l : Nat} {o o' : Obj} (hl : p ≤ l) (h : W.heap[l]? = some o) (ho : o.isCells = false) : KpQ p q W (W.putObj l o') := by
  have hg := grownBy_putObj' W l o'
  refine ⟨hg.size, fun k hk => hg.block k (by have := (Array.getElem?_eq_some_iff.1 h).1; omega) (fun e => by cases e; omega), fun v hv => hv.kept hg fun e => ?_⟩
  injection e with e
  subst e
  rw [show W.heap[q]? = _ from hv] at h
  cases h
  cases ho
/-- the pairs of the first k -/
noncomputable def St.prs (m : Nat) (R : Nat → Nat → Prop) (k : Nat) : List (Nat × Nat) := (List.range k).flatMap fun i => (St.listOf m (R i)).map fun j => (i, j)
theorem St.prs_succ (m : Nat) (R : Nat → Nat → Prop) (k : Nat) : St.prs m R (k + 1) = St.prs m R k ++ (St.listOf m (R k)).map fun j => (k, j) := by
  unfold St.prs
  rw [List.range_succ, List.flatMap_append]
  simp
theorem St.listOf_length (n : Nat) (S : Nat → Prop) : (St.listOf n S).length ≤ n := by
  unfold St.listOf
  exact Nat.le_trans (List.length_filter_le _ _) (by simp)
theorem St.prs_length {m : Nat} (hm : m ≤ 65535) (R : Nat → Nat → Prop) : ∀ k, (St.prs m R k).length ≤ k * 65536
  | 0 => by simp [St.prs]
  | k + 1 => by
    rw [St.prs_succ, List.length_append, List.length_map]
    have := St.prs_length hm R k
    have := St.listOf_length m (R k)
    omega

theorem pairs_big (p : St.P) (w : World) (B n c : Nat) (A : Option Addr) (hB : B ≤ w.heap.size) (hp : PR B w A n p) (hnc : n ≤ c) (hcm : c ≤ maxLen) (hsz : p.size ≤ 1099511627776) (hbig : 65535 < St.labels p) :
    Calls Tryd.prog 22 #[.slice A n c] w fun e w' => e = .returned (.slice none 0 0) ∧ Below w.heap.size w w' := by
  have hlp := St.labels_le p
  go_enter Tryd.func22, Tryd.ntmps22
  go_wp2_with fail
  refine (labels_any p w B n c A hB hp hnc hcm (by omega)).mono ?_
  rintro e w1 ⟨rfl, hb1⟩
  obtain ⟨m, hm⟩ : ∃ m, m = St.labels p := ⟨_, rfl⟩
  rw [← hm] at hlp hbig ⊢
  have hd : decide ((65535 : Int) < (m : Int)) = true := by simp; omega
  clear hm
  go_wp2_with (at_make; refine wp_make_blk _ _ _ _ (.slice none 0 0) 1 24 m Tryd.underlying66 info_words rfl (by decide) rfl rfl (by omega) (by omega) rfl rfl rfl rfl ?_; intro w2 hB2 hb2 hz2)
  have hb3 := below_alloc (below_next hb2 hb1) (.cells #[.slice (some ⟨w1.heap.size, 0, none⟩) m m] 68)
  clear hB2 hb2 hz2 hb1
  go_ret
  exact ⟨rfl, hb3⟩

set_option maxRecDepth 100000 in
set_option maxHeartbeats 4000000 in
theorem pairs_small (p : St.P) (w : World) (B n c : Nat) (A : Option Addr) (hB : B ≤ w.heap.size) (hp : PR B w A n p) (hnc : n ≤ c) (hcm : c ≤ maxLen) (hsz : p.size ≤ 1099511627776) (hT : Tab w) (hsm : St.labels p ≤ 65535) :
    Calls Tryd.prog 22 #[.slice A n c] w fun e w' => ∃ u, e = .returned u ∧ SlV w' 2 u (St.pairsOf (St.labels p) (St.noted 0 St.none_ p)).length (paircs (St.pairsOf (St.labels p) (St.noted 0 St.none_ p))) ∧ Below w.heap.size w w' := by
  obtain ⟨m, hm⟩ : ∃ m, m = St.labels p := ⟨_, rfl⟩
  have hnl := St.noted_lt p 0 m St.none_ (fun x h => h.elim) (by omega)
  obtain ⟨R, hR⟩ : ∃ R, R = St.noted 0 St.none_ p := ⟨_, rfl⟩
  rw [← hR] at hnl ⊢
  refine (callsIn_wide (n := 4)).1 ?_
  refine callsIn_of_wp_marks Tryd.func22 rfl trivial ?_ rfl
  simp only [Tryd.ntmps22, List.size_toArray, List.length_cons, List.length_nil, Nat.reduceAdd, Nat.reduceSub, Array.replicate_succ, Array.replicate_zero, List.push_toArray, List.append_toArray, List.nil_append, List.cons_append]
  refine wpIn_wide.2 ?_
  go_wp2_with fail
  refine (labels_any p w B n c A hB hp hnc hcm (by omega)).mono ?_
  rintro e w1 ⟨rfl, hb1⟩
  rw [← hm] at hsm ⊢
  have hp1 := hp.later (hb1.mono hB)
  have hT1 := hT.nums (Nums.of_below hb1)
  have hB1 : B ≤ w1.heap.size := Nat.le_trans hB hb1.size
  have HM := Lib.hid (And.intro hm hR)
  clear hp hT hm hR
  have hd : decide ((65535 : Int) < (m : Int)) = false := by simp; omega
  go_wp2_with (at_make; refine wp_make_blk _ _ _ _ (.slice none 0 0) 1 24 m Tryd.underlying66 info_words rfl (by decide) rfl rfl (by omega) (by omega) rfl rfl rfl rfl ?_; intro w2 hB2 hb2 hz2)
  have hL := lk_new hT1 hB2 hb2 hz2
  have hp2 := (hp1.later (hb2.mono hB1)).later ((below_alloc (Below.refl _ w2) (.cells #[.slice (some ⟨w1.heap.size, 0, none⟩) m m] 68)).mono (Nat.le_trans hB1 hb2.size))
  have hk2 : Below w1.heap.size w1 (w2.alloc (.cells #[.slice (some ⟨w1.heap.size, 0, none⟩) m m] 68)) := below_alloc hb2 _
  generalize w2.alloc (.cells #[.slice (some ⟨w1.heap.size, 0, none⟩) m m] 68) = w3 at hL hp2 hk2 ⊢
  have hk3 := hk2.size
  refine (block_any p w3 B n c (w1.heap.size + 1) w1.heap.size m 0 A _ (.slice none 0 0) St.none_ (by omega) hp2 hnc hcm (by omega) hL hB1 (SetV.nil _) (fun x h => h.elim) (by rw [Nat.zero_add, ← HM.out.1]; exact Nat.le_refl _) (by omega)).mono ?_
  rintro e w4 ⟨u4, rfl, -, hR4, hk4⟩
  have hL4 := hL.step hR4 hk4
  have hR4 := hL4.rws.iff (R' := R) fun i j => by rw [HM.out.2]; simp
  have hK4 : Blk w4 (w1.heap.size + 1) 68 [.slice (some ⟨w1.heap.size, 0, none⟩) m m] := hL4.blk
  have hT4 := hL4.tab
  have hb4 : Below w.heap.size w w4 := hb1.trans ((hk2.mono hb1.size).trans (hk4.below (Nat.le_trans hb1.size hk3) (fun i e => by have := hb1.size; omega)))
  obtain ⟨kb, hkb⟩ : ∃ kb, kb = w1.heap.size + 1 := ⟨_, rfl⟩
  rw [← hkb] at hK4 ⊢
  obtain ⟨g, hg⟩ : ∃ g, g = w1.heap.size := ⟨_, rfl⟩
  rw [← hg] at hK4 hR4 ⊢
  clear hL hp2 hk2 hk3 hk4 hp1 hT1 hB2 hb2 hz2 hb1 hL4 hg hkb hB1
  obtain ⟨p0, hp0⟩ : ∃ p0, p0 = w4.heap.size := ⟨_, rfl⟩
  have hba : Below w4.heap.size w4 (w4.alloc (.cells #[.slice none 0 0] 42)) := below_alloc (Below.refl _ _) _
  have hbx := Boxed.new w4 42 (.slice none 0 0)
  have hK5 := hK4.below hba
  have c5 : (w4.alloc (.cells #[.slice none 0 0] 42)).cell? ⟨kb, 0, none⟩ = some (.slice (some ⟨g, 0, none⟩) m m) := (hK5.cell 0).trans rfl
  go_wp2_with fail
  have hz5 : (w4.alloc (.cells #[.slice none 0 0] 42)).heap.size = w4.heap.size + 1 := by simp
  generalize w4.alloc (.cells #[.slice none 0 0] 42) = W5 at hba hbx hK5 hz5 ⊢
  clear hp0 hK5 hd
  refine (wpIn_wide (n := 4)).1 ?_
  refine wpIn_loop (fun a W => ∃ (k : Nat) (Ds : List Nat) (u6 u7 u26 u27 u28 u29 u30 u31 u39 : Value), k ≤ m ∧ (∃ u, Boxed W w4.heap.size 42 u ∧ W.ownsRow (w4.heap.size + 1) 47 2 u (St.prs m R k).length (paircs (St.prs m R k)) ∧ True) ∧ Below w4.heap.size w4 W ∧ (Ds.Nodup ∧ ∀ D ∈ Ds, w4.heap.size + 1 ≤ D ∧ W.heap[D]? = some (.deferred (some []))) ∧ a = { tmps := #[.slice A n c, undef, .slice none 0 0, .int .i64 (m : Int), .pointer (some ⟨kb, 0, none⟩), .pointer (some ⟨w4.heap.size, 0, none⟩), u6, u7, undef, .slice A n c, .int .i64 (m : Int), .int .i64 (m : Int), .slice (some ⟨g, 0, none⟩) m m, .agg #[.slice (some ⟨g, 0, none⟩) m m], .pointer (some ⟨kb, 0, none⟩), .int .i64 (m : Int), .bool false, .pointer (some ⟨kb, 0, none⟩), .slice A n c, u4, .pointer (some ⟨kb, 0, none⟩), .pointer (some ⟨kb, 0, none⟩), .pointer (some ⟨kb, 0, none⟩), .slice (some ⟨g, 0, none⟩) m m, .int .i64 (m : Int), .int .i64 (k : Int), u26, u27, u28, u29, u30, u31, undef, undef, undef, undef, undef, undef, undef, u39, undef], defers := Ds.map markOf }) (fun a _ => m - (intOf (a.tmps.getD 25 undef)).toNat) ?_ ?_
  · exact ⟨0, [], undef, undef, undef, undef, undef, undef, undef, undef, undef, Nat.zero_le _, ⟨_, hbx, World.ownsRow_nil _ _ _ _, trivial⟩, hba, ⟨List.nodup_nil, fun D hD => by cases hD⟩, rfl⟩
  · rintro a W ⟨k, Ds, u6, u7, u26, u27, u28, u29, u30, u31, u39, hk, ⟨u, hbx1, hown, -⟩, hbW, hDs, rfl⟩
    clear hbx hba hz5
    dsimp only
    have hpl := St.prs_length hsm R k
    have hbl := hbx1.lt
    by_cases hlt : k < m
    · obtain ⟨vs, v1, v2, v3⟩ := hR4
      obtain ⟨vk, hvk⟩ : ∃ v, vs[k]? = some v := ⟨_, List.getElem?_eq_getElem (by omega)⟩
      obtain ⟨xs, sx, lx, mx⟩ := v3 k vk hvk
      obtain ⟨aA, ac, rfl⟩ := slU_form sx
      have ck : W.cell? ⟨g, k, none⟩ = some (.slice aA xs.length ac) := (hbW.cell (p := ⟨g, k, none⟩) v2.lt).trans ((v2.cell k).trans hvk)
      have hls : Bs.ls 0 xs = St.listOf m (R k) := St.ls_listOf sx.2 mx (fun j hj => (hnl k j hj).2)
      have hTW := hT4.nums (Nums.of_below hbW)
      obtain ⟨q, hq⟩ : ∃ q, q = W.heap.size := ⟨_, rfl⟩
      have bI := (Boxed.new W 3 (.int .i64 (k : Int))).alloc (.cells #[.slice aA xs.length ac] 53)
      have bQ := Boxed.new (W.alloc (.cells #[.int .i64 (k : Int)] 3)) 53 (.slice aA xs.length ac)
      simp only [World.size_alloc] at bQ
      have bO := (hbx1.alloc (.cells #[.int .i64 (k : Int)] 3)).alloc (.cells #[.slice aA xs.length ac] 53)
      have oO := (hown.alloc (.cells #[.int .i64 (k : Int)] 3)).alloc (.cells #[.slice aA xs.length ac] 53)
      have hbA : Below W.heap.size W ((W.alloc (.cells #[.int .i64 (k : Int)] 3)).alloc (.cells #[.slice aA xs.length ac] 53)) := below_alloc (below_alloc (Below.refl _ _) _) _
      have hzA : ((W.alloc (.cells #[.int .i64 (k : Int)] 3)).alloc (.cells #[.slice aA xs.length ac] 53)).heap.size = W.heap.size + 2 := by simp
      clear v1 v2 v3 hvk
      gi_wp2_with fail
      refine ⟨trivial, (all_gen 2 _ _ _ _).mono ?_⟩
      rintro e w' ⟨rfl, rfl⟩
      gi_wp2_with fail
      obtain ⟨W2, hW2⟩ : ∃ W2, (W.alloc (.cells #[.int .i64 (k : Int)] 3)).alloc (.cells #[.slice aA xs.length ac] 53) = W2 := ⟨_, rfl⟩
      rw [hW2] at bI bQ bO oO hbA hzA ⊢
      clear hW2
      have hsW := hbW.size
      have keyN : ∀ W' wr, Below W2.heap.size W2 W' → KpQ w4.heap.size (W.heap.size + 1) W' wr → Nums w4 wr := fun W' wr hW hk => ⟨by have := hk.1; have := hW.size; omega, fun p i x hx => by
        have hp := World.block_lt_of_cell? w4 p hx
        exact (World.cell?_of_block (hk.2.1 _ hp)).trans ((hW.cell (by omega)).trans ((hbA.cell (by omega)).trans ((hbW.cell hp).trans hx)))⟩
      have stA := all_gen_stops 2 (W.heap.size + 1) ac aA xs sx.2 (by omega) (KpQ w4.heap.size (W.heap.size + 1)) (KpQ.refl _ _) (fun h k => h.trans k) W2
        (fun W' wr hW hk => (hk.2.2 _ (bQ.kept (grown_of_below hW none) (by simp))).cell)
        (fun W' wr hW hk => ⟨_, by
          obtain ⟨⟨A', c', e, -, -, -, h4⟩, -⟩ := sx.nums (keyN W' wr hW hk)
          injection e with e1 e2 e3
          subst e1
          exact h4⟩)
        (fun W' wr hW hk => hT4.nums (keyN W' wr hW hk))
      have hll : (Bs.ls 0 xs).length ≤ 65536 := by rw [hls]; have := St.listOf_length m (R k); omega
      have hDs2 : ∀ D ∈ Ds, W2.heap[D]? = some (.deferred (some [])) := fun D hD => (hbA.block D (Array.getElem?_eq_some_iff.1 (hDs.2 D hD).2).1).trans (hDs.2 D hD).2
      have hDlt : ∀ D ∈ Ds, D < W.heap.size := fun D hD => (Array.getElem?_eq_some_iff.1 (hDs.2 D hD).2).1
      have hbW2 := hbW.trans (hbA.mono hsW)
      have HX := Lib.hid (And.intro hls hpl)
      clear keyN hls hpl sx mx ck hTW hq c5 lx bQ
      refine wpIn_rangeFunc_ownH rfl (by omega) (gf := 46) (lb := #[.pointer (some ⟨W.heap.size + 1, 0, none⟩)]) rfl trivial (enters_of Tryd.func46 (by kernel_rfl) rfl)
        stA (fun h k => h.trans k) (fun W' l o o' hl ho h1 h2 => KpQ.put (by omega) ho h1) (Below.refl _ _) (fun _ => rfl)
        (fun pre W' => ((∃ u, Boxed W' w4.heap.size 42 u ∧ W'.ownsRow (w4.heap.size + 1) 47 2 u ((St.prs m R k).length + pre.length) (paircs (St.prs m R k ++ pre.map fun x => (k, x.1))) ∧ True) ∧ Boxed W' W.heap.size 3 (.int .i64 (k : Int))) ∧ (Below w4.heap.size w4 W' ∧ ∀ D ∈ Ds, W'.heap[D]? = some (.deferred (some []))))
        (fun _ _ _ => False)
        (OwnFrom.and (OwnFrom.and (Own.from (holdsRow_own (w4.heap.size + 1) w4.heap.size 42 47 2 (fun pre : List { x : Nat // x ∈ Bs.ls 0 xs } => (St.prs m R k).length + pre.length) (fun pre => paircs (St.prs m R k ++ pre.map fun x => (k, x.1))) (fun _ _ => True)) _) (Own.from (boxed_own _ _ _) _)) (OwnFrom.and (ownFrom_below (Nat.le_refl _) (by omega)) (fun s X Y row hs hg hr D hD => (hg.block D (Array.getElem?_eq_some_iff.1 (hs D hD)).1 (fun e => by have := (hr D e.symm).1; have := hDlt D hD; omega)).trans (hs D hD))))
        (fun _ _ _ _ _ hs _ _ => hs)
        ⟨⟨⟨u, bO, by simpa using oO, trivial⟩, bI⟩, hbW2, hDs2⟩
        (fun x a' W' => a' = { tmps := #[.slice A n c, undef, .slice none 0 0, .int .i64 (m : Int), .pointer (some ⟨kb, 0, none⟩), .pointer (some ⟨w4.heap.size, 0, none⟩), .pointer (some ⟨W.heap.size, 0, none⟩), .slice aA xs.length ac, .int .i64 (x.1 : Int), .slice A n c, .int .i64 (m : Int), .int .i64 (m : Int), .slice (some ⟨g, 0, none⟩) m m, .agg #[.slice (some ⟨g, 0, none⟩) m m], .pointer (some ⟨kb, 0, none⟩), .int .i64 (m : Int), .bool false, .pointer (some ⟨kb, 0, none⟩), .slice A n c, u4, .pointer (some ⟨kb, 0, none⟩), .pointer (some ⟨kb, 0, none⟩), .pointer (some ⟨kb, 0, none⟩), .slice (some ⟨g, 0, none⟩) m m, .int .i64 (m : Int), .int .i64 (k : Int), .bool true, .int .i64 (k : Int), .pointer (some ⟨g, k, none⟩), .slice aA xs.length ac, .slice aA xs.length ac, .func (.func 46) #[] #[.pointer (some ⟨W.heap.size + 1, 0, none⟩)], .int .i64 (x.1 : Int), undef, undef, undef, undef, undef, undef, u39, undef], defers := [] })
        (fun x a' _ X Y row hs hg hr => hs)
        ?assign ?body ?done ?stop
      case assign =>
        rintro l pre x W' K hI hK
        gi_wp2
        exact hK _ _ (KeepsFrom.refl _ _) (KpQ.refl _ _ _) hI rfl
      case body =>
        rintro l pre x a' W' hl ⟨r, hr⟩ ⟨⟨⟨u, b1, b2, -⟩, b3⟩, b4, b5⟩ rfl hlt'
        have hlW : l < W'.heap.size := (Array.getElem?_eq_some_iff.1 hr).1
        have hzW : w4.heap.size + 1 ≤ W'.heap.size := by omega
        have c0 := b1.cell
        have f0 := b1.frozen
        have cI := b3.cell
        obtain ⟨U, uc, rfl, hu1, hu2⟩ := own_slice b2
        obtain ⟨i, hi, hz0, hz1, hz2⟩ := info_parts info_pair
        have hN : (St.prs m R k).length + pre.length ≤ 4294967296 := by have := HX.out.2; omega
        have n1 : (St.prs m R k).length + pre.length + 1 ≤ maxLen := by unfold maxLen; omega
        have n2 : ((St.prs m R k).length + pre.length + 1) * 16 ≤ 140737488355328 := by omega
        have hnew : ∀ j u, [Value.int .i64 (k : Int), Value.int .i64 (x.1 : Int)][j]? = some u → (W'.alloc (.cells #[.int .i64 (k : Int), .int .i64 (x.1 : Int)] 47)).cell? ((⟨W'.heap.size, 0, none⟩ : Addr).add j) = some u := fun j u hu => by
          rw [Addr.add_lit, Nat.zero_add]
          exact ((Blk.new W' 47 [.int .i64 (k : Int), .int .i64 (x.1 : Int)]).cell j).trans hu
        have hte : (42 : TypeId) ≠ 47 := by decide
        have hte2 : (53 : TypeId) ≠ 47 := by decide
        have hte3 : (3 : TypeId) ≠ 47 := by decide
        have hone : ∀ u ∈ [Value.int .i64 (k : Int), Value.int .i64 (x.1 : Int)], u.oneCell' = true := fun u hu => by
          simp at hu
          rcases hu with rfl | rfl <;> rfl
        obtain ⟨len, hlen⟩ : ∃ len, len = (St.prs m R k).length + pre.length := ⟨_, rfl⟩
        rw [← hlen] at b2 c0 hu1 n1 n2 hN
        have HL := Lib.hid hlen
        clear hlen
        gi_wp2_with (first | (refine wpListIn_append_own _ rfl _ _ _ rfl (w4.heap.size + 1) 47 i (.agg #[.int .i64 0, .int .i64 0]) 2 16 Tryd.underlying42 hi hz0 hz1 hz2 rfl (by decide) (.slice U len uc) _ _ rfl (b2.alloc _) _ 1 1 [.int .i64 (k : Int), .int .i64 (x.1 : Int)] rfl rfl hnew hone n1 n2 (by simp; omega) ?_; intro v' w1 hown' hgrow _; have hbx1 := (b1.alloc (.cells #[.int .i64 (k : Int), .int .i64 (x.1 : Int)] 47)).kept hgrow (b1.not_row hte b2); have c1 := hbx1.cell; have f1 := hbx1.frozen; obtain ⟨gg, cap', rfl⟩ := ownsRow_succ hown') | fail)
        have hge := own_ge b2
        have kf := ((KeepsOthers.alloc W' (.cells #[.int .i64 (k : Int), .int .i64 (x.1 : Int)] 47)).trans (KeepsOthers.of_grownBy hgrow fun j o ej hj => by
          rcases (b2.alloc (.cells #[.int .i64 (k : Int), .int .i64 (x.1 : Int)] 47)).2 with ⟨e, _⟩ | ⟨g, cap, cur, e, _, hgb, _⟩
          · rw [e] at ej
            simp [Value.ownBlock] at ej
          · rw [e] at ej
            obtain rfl : g = j := by simpa [Value.ownBlock] using ej
            rw [hgb] at hj; cases hj; rfl)).trans (KeepsOthers.setCell w1 ⟨w4.heap.size, 0, none⟩ (.slice (some ⟨gg, 0, none⟩) (len + 1) cap'))
        have hsz1 := hgrow.size
        have hsz2 := (grownBy_setCell' w1 w4.heap.size (.slice (some ⟨gg, 0, none⟩) (len + 1) cap')).size
        have hsz3 : (W'.alloc (.cells #[.int .i64 (k : Int), .int .i64 (x.1 : Int)] 47)).heap.size = W'.heap.size + 1 := by simp
        have hrow := hown'.kept (grownBy_setCell' w1 w4.heap.size (.slice (some ⟨gg, 0, none⟩) (len + 1) cap')) (.inr (hbx1.not_row hte hown').symm)
        refine ⟨kf.from _, ⟨?_, fun k' hk' => ?_, fun v hv => ?_⟩, ⟨⟨_, hbx1.set _, ?_, trivial⟩, ?_⟩, ?_, fun D hD => kf.same D _ (b5 D hD) rfl⟩
        · omega
        · have h1 := (grownBy_setCell' w1 w4.heap.size (.slice (some ⟨gg, 0, none⟩) (len + 1) cap')).block k' (by omega) (fun e => by injection e; omega)
          have h2 := hgrow.block k' (by omega) (fun e => by have := hge k' e.symm; omega)
          exact h1.trans (h2.trans (Below.heap_alloc W' _ k' (by omega)))
        · exact ((hv.alloc (.cells #[.int .i64 (k : Int), .int .i64 (x.1 : Int)] 47)).kept hgrow (hv.not_row hte2 b2)).other (by omega) _
        · have := HL.out
          rw [List.length_append, List.length_singleton, ← Nat.add_assoc, ← this]
          simpa [paircs, pairc] using hrow
        · exact ((b3.alloc (.cells #[.int .i64 (k : Int), .int .i64 (x.1 : Int)] 47)).kept hgrow (b3.not_row hte3 b2)).other (by omega) _
        · exact b4.trans ((((Below.refl w4.heap.size W').alloc (by omega) _).grown hgrow (by simp; omega) (fun k e => by have := hge k e; omega)).setCell (p := ⟨w4.heap.size, 0, none⟩) (by show w4.heap.size ≤ w4.heap.size; omega) _)
      case done =>
        rintro D ys W' hD hys ⟨⟨⟨u, b1, b2, -⟩, b3⟩, b4, b5⟩ hKD
        have hcells : paircs (St.prs m R k ++ ys.map fun x => (k, x.1)) = paircs (St.prs m R (k + 1)) ∧ (St.prs m R k).length + ys.length = (St.prs m R (k + 1)).length := by
          have e : (ys.map fun x => (k, x.1)) = (St.listOf m (R k)).map fun j => (k, j) := by
            have := congrArg (List.map fun j => (k, j)) hys
            rw [List.map_map] at this
            exact this.trans (congrArg _ HX.out.1)
          have e2 : ys.length = (St.listOf m (R k)).length := by
            have := congrArg List.length hys
            rw [List.length_map] at this
            exact this.trans (congrArg List.length HX.out.1)
          rw [St.prs_succ, e, List.length_append, List.length_map, e2]
          exact ⟨rfl, rfl⟩
        rw [hcells.1, hcells.2] at b2
        gi_wp2
        refine ⟨⟨k + 1, D :: Ds, _, _, _, _, _, _, _, _, _, by omega, ⟨u, b1, b2, trivial⟩, b4, ⟨List.nodup_cons.2 ⟨fun h => by have := hDlt D h; omega, hDs.1⟩, fun D' hD' => ?_⟩, rfl⟩, ?_⟩
        · rcases List.mem_cons.1 hD' with rfl | h
          · exact ⟨by omega, hKD⟩
          · exact ⟨(hDs.2 D' h).1, b5 D' h⟩
        · simp [intOf]
          omega
      case stop =>
        rintro D c pre W' hD _ hF hK
        exact hF.elim
    · have HK := Lib.hid (show k = m by omega)
      have c0 := hbx1.cell
      clear hpl
      gi_wp2
      go_wp2
      refine leaves_marks (w4.heap.size + 1) (fun W => W.ownsRow (w4.heap.size + 1) 47 2 u (St.prs m R k).length (paircs (St.prs m R k)) ∧ Below w.heap.size w W) (fun W D hD hT hd => ?_) (fun W hT => ?_) Ds W hDs.1 hDs.2 ⟨hown, hb4.trans (hbW.mono hb4.size)⟩
      · have hg := grownBy_putObj' W D (.deferred none)
        exact ⟨ownsRow_putObj hT.1 _ hd rfl, hT.2.grown hg hT.2.size (fun i e => by cases e; have := hb4.size; omega)⟩
      · refine ⟨u, by simp [results, Tryd.results22, go_sem], u, rfl, ?_, hT.2⟩
        have := SlV.of_own hT.1
        rw [HK.out] at this
        rw [← HM.out.1]
        exact this
theorem pairs_any (p : St.P) (w : World) (B n c : Nat) (A : Option Addr) (hB : B ≤ w.heap.size) (hp : PR B w A n p) (hnc : n ≤ c) (hcm : c ≤ maxLen) (hsz : p.size ≤ 1099511627776) (hT : Tab w) :
    Calls Tryd.prog 22 #[.slice A n c] w fun e w' => ∃ u, e = .returned u ∧ SlV w' 2 u (St.pairs p).length (paircs (St.pairs p)) ∧ Below w.heap.size w w' := by
  by_cases h : 65535 < St.labels p
  · refine (pairs_big p w B n c A hB hp hnc hcm hsz h).mono ?_
    rintro e w' ⟨rfl, hb⟩
    refine ⟨_, rfl, ?_, hb⟩
    unfold St.pairs
    rw [if_pos h]
    exact SlV.nil _ _
  · unfold St.pairs
    rw [if_neg h]
    exact pairs_small p w B n c A hB hp hnc hcm hsz hT (by omega)
end Go.Proofs.YtniekhedpdkmiaaDoor
