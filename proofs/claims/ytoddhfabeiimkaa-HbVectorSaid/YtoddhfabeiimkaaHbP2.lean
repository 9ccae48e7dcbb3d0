/-
  Clocks tell it all; to be ahead is an order: the two laws, walked.
-/
import Derived.Test.YtoddhfabeiimkaaHbP1
import Derived.Test.YtoddhfabeiimkaaChecked
import Derived.Test.YtoddhfabeiimkaaDqP1
import Derived.Laws.StructEq

namespace Go.Proofs.Ytoddhfabeiimkaa
set_option linter.unusedVariables false
set_option linter.unusedSimpArgs false
set_option maxRecDepth 100000
open Go.RowKit Go.Maps

namespace Hb
def nul : Ev := ⟨0, 0, 0, 0, false, 0⟩
def clash (a b : Ev) (ca cb : List Int) : Bool := (a.kind == 1) && ((b.kind == 1) && ((a.cell == b.cell) && ((a.write || b.write) && (decide (known a.act) && (decide (known b.act) && decide (Vec.hand cb a.act < Vec.hand ca a.act))))))
def clashAt (l : List Ev) (i j : Nat) : Bool := clash (l.getD i nul) (l.getD j nul) (cat l i) (cat l j)
def inner (l : List Ev) (j k : Nat) : List (Nat × Nat) := ((List.range k).filter fun i => clashAt l i j).map fun i => (i, j)
def outer (l : List Ev) (k : Nat) : List (Nat × Nat) := (List.range k).flatMap fun j => inner l j j
def races (l : List Ev) : List (Nat × Nat) := outer l l.length
theorem inner_yes {l : List Ev} {j k : Nat} (h : clashAt l k j = true) : inner l j (k + 1) = inner l j k ++ [(k, j)] := by
  unfold inner
  rw [List.range_succ, List.filter_append, List.map_append]
  simp [h]
theorem inner_no {l : List Ev} {j k : Nat} (h : clashAt l k j = false) : inner l j (k + 1) = inner l j k := by
  unfold inner
  rw [List.range_succ, List.filter_append, List.map_append]
  simp [h]
theorem outer_succ (l : List Ev) (k : Nat) : outer l (k + 1) = outer l k ++ inner l k k := by
  unfold outer
  rw [List.range_succ, List.flatMap_append]
  simp
theorem inner_length (l : List Ev) (j k : Nat) : (inner l j k).length ≤ k := by
  unfold inner
  rw [List.length_map]
  exact Nat.le_trans (List.length_filter_le _ _) (by simp)
theorem outer_length (l : List Ev) : ∀ k n, k ≤ n → (outer l k).length ≤ k * n
  | 0, n, _ => by simp [outer]
  | k + 1, n, h => by
    rw [outer_succ, List.length_append, Nat.add_mul]
    have h1 := outer_length l k n (by omega)
    have h2 := inner_length l k k
    omega
def prcs (l : List (Nat × Nat)) : List Value := l.flatMap fun p => [.int .i64 (p.1 : Int), .int .i64 (p.2 : Int)]
end Hb
theorem info_pair : (Try.prog.info? 61).map (fun i => (i.zero, i.size, i.bytes)) = some (some (.agg #[.int .i64 0, .int .i64 0]), 2, 16) := by kernel_rfl
theorem Hb.prcs_snoc (l : List (Nat × Nat)) (k j : Nat) : Hb.prcs (l ++ [(k, j)]) = Hb.prcs l ++ [.int .i64 (k : Int), .int .i64 (j : Int)] := by simp [Hb.prcs]



set_option maxHeartbeats 2000000 in
theorem races_any (v : Value) (l : List Hb.Ev) (w : World) (h : SlV w 6 v l.length (evcs l)) (hl : l.length ≤ 2000000) :
    Calls Try.prog 21 #[v] w fun e w' => ∃ u, e = .returned u ∧ w'.ownsRow w.heap.size 61 2 u (Hb.races l).length (Hb.prcs (Hb.races l)) ∧ Below w.heap.size w w' := by
  have hcl := clocks_any _ l w h (by omega)
  obtain ⟨A, c, rfl, hle, hm, hlen, hc⟩ := id h
  unfold maxLen at hm
  clear hc hlen
  go_enter Try.func21, Try.ntmps21
  go_wp2_with fail
  refine hcl.mono ?_
  rintro _ w1 ⟨u, vs, rfl, ⟨hrow, hck⟩, hb1⟩
  have hvl : vs.length = l.length := by have := hrow.1; omega
  obtain ⟨gA, gc, rfl, -, -⟩ := own_slice hrow
  clear hcl
  go_wp2_with fail
  go_loopw [4, 13] (fun out i wr => ∃ j : Nat, j ≤ l.length ∧ i = .int .i64 (j : Int) ∧ Below w1.heap.size w1 wr ∧ wr.ownsRow w1.heap.size 61 2 out (Hb.outer l j).length (Hb.prcs (Hb.outer l j))) (fun _ i _ => l.length - (intOf i).toNat)
  case atStart => exact ⟨0, Nat.zero_le _, rfl, Below.refl _ _, World.ownsRow_nil _ _ _ _⟩
  case round =>
    obtain ⟨j, hj, rfl, hb, hown⟩ := hrel
    obtain ⟨W0, hW0⟩ : ∃ W0, W0 = wr := ⟨_, rfl⟩
    subst hW0
    by_cases hlt : j < l.length
    · obtain ⟨g, cg, hA, hg1, hg2, -, hg4⟩ := own_addr hrow (by omega)
      injection hA with hA _ hA2
      subst hA hA2
      unfold maxLen at hg2
      have hej := List.getElem?_eq_getElem hlt
      obtain ⟨A', c', e', -, -, -, hcc⟩ := h.below (below_next hb hb1)
      injection e' with e1 e2 e3
      subst e1 e3
      obtain ⟨b, off, rfl, hbl, c0, c1, c2, c3, c4, c5⟩ := ev_cells hcc hej
      have hdj : l.getD j Hb.nul = l[j] := by rw [List.getD_eq_getElem?_getD, hej]; rfl
      obtain ⟨ej, hejd⟩ : ∃ ej, ej = l[j] := ⟨_, rfl⟩
      rw [← hejd] at c0 c1 c2 c3 c4 c5 hdj
      have HD := Lib.hid hdj
      clear hej hejd hcc hdj
      obtain ⟨kj, aj, oj, cej, wj, lj⟩ := ej
      dsimp only at c0 c1 c2 c3 c4 c5
      have hB1 : Blk (W0.alloc (.cells #[.int .i64 kj, .int .i64 aj, .int .i64 oj, .int .i64 cej, .bool wj, .int .i64 lj] 42)) W0.heap.size 42 [.int .i64 kj, .int .i64 aj, .int .i64 oj, .int .i64 cej, .bool wj, .int .i64 lj] := Blk.new _ _ _
      have hbA : Below w1.heap.size w1 (W0.alloc (.cells #[.int .i64 kj, .int .i64 aj, .int .i64 oj, .int .i64 cej, .bool wj, .int .i64 lj] 42)) := below_alloc hb _
      have hownA := hown.alloc (.cells #[.int .i64 kj, .int .i64 aj, .int .i64 oj, .int .i64 cej, .bool wj, .int .i64 lj] 42)
      have HA := Lib.hid (And.intro hB1 (And.intro hbA hownA))
      clear hB1 hbA hownA hown
      go_wp2_with fail
      clear c0 c1 c2 c3 c4 c5 hbl
      go_loopw [4, 22] (fun out i wr => ∃ k : Nat, k ≤ j ∧ i = .int .i64 (k : Int) ∧ Below w1.heap.size w1 wr ∧ wr.ownsRow w1.heap.size 61 2 out (Hb.outer l j ++ Hb.inner l j k).length (Hb.prcs (Hb.outer l j ++ Hb.inner l j k)) ∧ Blk wr W0.heap.size 42 [.int .i64 kj, .int .i64 aj, .int .i64 oj, .int .i64 cej, .bool wj, .int .i64 lj]) (fun _ i _ => j - (intOf i).toNat)
      case atStart => exact ⟨0, Nat.zero_le _, rfl, HA.out.2.1, by simpa [Hb.inner] using HA.out.2.2, HA.out.1⟩
      case round =>
        clear HA hb
        obtain ⟨k, hk, rfl, hbk, hownk, hBq⟩ := hrel
        by_cases hkj : k < j
        · have hkl : k < l.length := by omega
          have hek := List.getElem?_eq_getElem hkl
          obtain ⟨A', c', e', -, -, -, hcc⟩ := h.below (below_next hbk hb1)
          injection e' with e1 e2 e3
          subst e3
          obtain ⟨b', off', e1', hbl, c0, c1, c2, c3, c4, c5⟩ := ev_cells hcc hek
          rw [← e1] at e1'
          injection e1' with e1'
          injection e1' with e4 e5
          subst e4 e5
          have hdk : l.getD k Hb.nul = l[k] := by rw [List.getD_eq_getElem?_getD, hek]; rfl
          obtain ⟨ek, hekd⟩ : ∃ ek, ek = l[k] := ⟨_, rfl⟩
          rw [← hekd] at c0 c1 c2 c3 c4 c5 hdk
          obtain ⟨ki, ai, oi, cei, wi, li⟩ := ek
          dsimp only at c0 c1 c2 c3 c4 c5
          have ec : Hb.clashAt l k j = (!(ki != 1) && (!(kj != 1) && (!(cei != cej) && ((wi || wj) && (decide (Hb.known ai) && (decide (Hb.known aj) && decide (Vec.hand (Hb.cat l j) ai < Vec.hand (Hb.cat l k) ai))))))) := by
            unfold Hb.clashAt
            rw [hdk, HD.out]
            simp only [bne, Bool.not_not]
            rfl
          have hql := hBq.lt
          have f0 : wr.cell? ⟨W0.heap.size, 0, none⟩ = some (.int .i64 kj) := by rw [hBq.cell]; rfl
          have f1 : wr.cell? ⟨W0.heap.size, 1, none⟩ = some (.int .i64 aj) := by rw [hBq.cell]; rfl
          have f3 : wr.cell? ⟨W0.heap.size, 3, none⟩ = some (.int .i64 cej) := by rw [hBq.cell]; rfl
          have f4 : wr.cell? ⟨W0.heap.size, 4, none⟩ = some (.bool wj) := by rw [hBq.cell]; rfl
          have hbk' : Below w1.heap.size w1 (wr.alloc (.cells #[.int .i64 ki, .int .i64 ai, .int .i64 oi, .int .i64 cei, .bool wi, .int .i64 li] 42)) := below_alloc hbk _
          have hownk' := hownk.alloc (.cells #[.int .i64 ki, .int .i64 ai, .int .i64 oi, .int .i64 cei, .bool wi, .int .i64 li] 42)
          have hBq' := hBq.alloc (.cells #[.int .i64 ki, .int .i64 ai, .int .i64 oi, .int .i64 cei, .bool wi, .int .i64 li] 42)
          clear hek hekd hcc hdk e1 e2 hbk hownk
          rcases h1 : (ki != 1) with _ | _
          rotate_left
          · have hcl : Hb.clashAt l k j = false := by rw [ec, h1]; rfl
            clear ec
            have HC := Lib.hid (And.intro hcl (And.intro hbk' hownk'))
            have HB := Lib.hid hBq'
            clear hcl hbk' hownk' hBq'
            go_wp2_with fail
            go_roundw
            case rel => exact ⟨k + 1, by omega, by go_num, HC.out.2.1, by rw [Hb.inner_no HC.out.1]; exact HC.out.2.2, HB.out⟩
            case measure => simp [intOf]; omega
          rcases h2 : (kj != 1) with _ | _
          rotate_left
          · have hcl : Hb.clashAt l k j = false := by rw [ec, h1, h2]; rfl
            clear ec
            have HC := Lib.hid (And.intro hcl (And.intro hbk' hownk'))
            have HB := Lib.hid hBq'
            clear hcl hbk' hownk' hBq'
            go_wp2_with fail
            go_roundw
            case rel => exact ⟨k + 1, by omega, by go_num, HC.out.2.1, by rw [Hb.inner_no HC.out.1]; exact HC.out.2.2, HB.out⟩
            case measure => simp [intOf]; omega
          rcases h3 : (cei != cej) with _ | _
          rotate_left
          · have hcl : Hb.clashAt l k j = false := by rw [ec, h1, h2, h3]; rfl
            clear ec
            have HC := Lib.hid (And.intro hcl (And.intro hbk' hownk'))
            have HB := Lib.hid hBq'
            clear hcl hbk' hownk' hBq'
            go_wp2_with fail
            go_roundw
            case rel => exact ⟨k + 1, by omega, by go_num, HC.out.2.1, by rw [Hb.inner_no HC.out.1]; exact HC.out.2.2, HB.out⟩
            case measure => simp [intOf]; omega
          rcases wi with _ | _
          · rcases wj with _ | _
            · have hcl : Hb.clashAt l k j = false := by rw [ec, h1, h2, h3]; rfl
              clear ec
              have HC := Lib.hid (And.intro hcl (And.intro hbk' hownk'))
              have HB := Lib.hid hBq'
              clear hcl hbk' hownk' hBq'
              go_wp2_with fail
              go_roundw
              case rel => exact ⟨k + 1, by omega, by go_num, HC.out.2.1, by rw [Hb.inner_no HC.out.1]; exact HC.out.2.2, HB.out⟩
              case measure => simp [intOf]; omega
            · rcases h5 : decide (Hb.known ai) with _ | _
              · have hcl : Hb.clashAt l k j = false := by rw [ec, h1, h2, h3, h5]; (simp)
                clear ec
                have HC := Lib.hid (And.intro hcl (And.intro hbk' hownk'))
                have HB := Lib.hid hBq'
                clear hcl hbk' hownk' hBq'
                go_wp2_with fail; refine (known_any _ _ h5 _).mono ?_; rintro _ _ ⟨rfl, rfl⟩; go_wp2_with fail
                go_roundw
                case rel => exact ⟨k + 1, by omega, by go_num, HC.out.2.1, by rw [Hb.inner_no HC.out.1]; exact HC.out.2.2, HB.out⟩
                case measure => simp [intOf]; omega
              rcases h6 : decide (Hb.known aj) with _ | _
              · have hcl : Hb.clashAt l k j = false := by rw [ec, h1, h2, h3, h5, h6]; (simp)
                clear ec
                have HC := Lib.hid (And.intro hcl (And.intro hbk' hownk'))
                have HB := Lib.hid hBq'
                clear hcl hbk' hownk' hBq'
                go_wp2_with fail; refine (known_any _ _ h5 _).mono ?_; rintro _ _ ⟨rfl, rfl⟩; go_wp2_with fail; refine (known_any _ _ h6 _).mono ?_; rintro _ _ ⟨rfl, rfl⟩; go_wp2_with fail
                go_roundw
                case rel => exact ⟨k + 1, by omega, by go_num, HC.out.2.1, by rw [Hb.inner_no HC.out.1]; exact HC.out.2.2, HB.out⟩
                case measure => simp [intOf]; omega
              have ec2 : Hb.clashAt l k j = decide (Vec.hand (Hb.cat l j) ai < Vec.hand (Hb.cat l k) ai) := by rw [ec, h1, h2, h3, h5, h6]; (simp)
              have HE2 := Lib.hid ec2
              clear ec ec2
              have hcl1 := Hb.clks_length l Hb.zero
              have k1 := hrow.cellAt k (by omega)
              have k2 := hrow.cellAt j (by omega)
              rw [List.getElem?_eq_getElem (by omega)] at k1 k2
              have hui := hck k vs[k] (Hb.cat l k) (List.getElem?_eq_getElem _) (by unfold Hb.cat; rw [Int.toNat_natCast, List.getD_eq_getElem?_getD, List.getElem?_eq_getElem (by omega)]; rfl)
              have huj := hck j vs[j] (Hb.cat l j) (List.getElem?_eq_getElem _) (by unfold Hb.cat; rw [Int.toNat_natCast, List.getD_eq_getElem?_getD, List.getElem?_eq_getElem (by omega)]; rfl)
              generalize vs[k] = ui at k1 hui
              generalize vs[j] = uj at k2 huj
              have k1' := (hbk'.cell (p := ⟨g, k, none⟩) hg4).trans k1
              have k2' := (hbk'.cell (p := ⟨g, j, none⟩) hg4).trans k2
              have hui' := hui.below hbk'
              have huj' := huj.below hbk'
              have hga := Nat.lt_of_lt_of_le hg4 hbk'.size
              have hqa : wr.heap.size < (wr.alloc (.cells #[.int .i64 ki, .int .i64 ai, .int .i64 oi, .int .i64 cei, .bool false, .int .i64 li] 42)).heap.size := by simp
              have hBk : Blk (wr.alloc (.cells #[.int .i64 ki, .int .i64 ai, .int .i64 oi, .int .i64 cei, .bool false, .int .i64 li] 42)) wr.heap.size 42 [.int .i64 ki, .int .i64 ai, .int .i64 oi, .int .i64 cei, .bool false, .int .i64 li] := Blk.new _ _ _
              clear hcl1 k1 k2 hui huj
              go_wp2_with fail
              refine (known_any _ _ h5 _).mono ?_
              rintro _ _ ⟨rfl, rfl⟩
              go_wp2_with fail
              refine (known_any _ _ h6 _).mono ?_
              rintro _ _ ⟨rfl, rfl⟩
              go_wp2_with fail
              generalize (wr.alloc (.cells #[.int .i64 ki, .int .i64 ai, .int .i64 oi, .int .i64 cei, .bool false, .int .i64 li] 42)) = WA at hbk' hownk' hBq' k1' k2' hui' huj' hga hqa hBk ⊢
              have keepS : ∀ w', Below WA.heap.size WA w' → (Below WA.heap.size WA w' ∧ w'.cell? ⟨wr.heap.size, 1, none⟩ = some (.int .i64 ai) ∧ w'.cell? ⟨g, k, none⟩ = some ui ∧ w'.cell? ⟨g, j, none⟩ = some uj) := fun w' hb =>
                ⟨hb, by rw [(hBk.below hb).cell]; rfl, (hb.cell (p := ⟨g, k, none⟩) hga).trans k1', (hb.cell (p := ⟨g, j, none⟩) hga).trans k2'⟩
              have hS0 := keepS _ (below_drew (Below.refl _ _))
              clear f0 f1 f3 f4 c0 c1 c2 c3 c4 c5
              refine wp_walk (by kernel_rfl) (by kernel_rfl) (fun _ _ => True) (fun w' => (Below WA.heap.size WA w' ∧ w'.cell? ⟨wr.heap.size, 1, none⟩ = some (.int .i64 ai) ∧ w'.cell? ⟨g, k, none⟩ = some ui ∧ w'.cell? ⟨g, j, none⟩ = some uj)) hS0 ?_
              repeat (first | (refine settle_skip (fun _ => by rfl) ?_; (simp only [Act.put, List.setIfInBounds_toArray, List.set_cons_zero, List.set_cons_succ])) | (refine' settle_run (fun _ _ => trivial) (fun _ => by rfl) ?_ ?_; rotate_left; (focus (intro ρ w hS hF; (try dsimp only at hS); go_split_ands; go_simp; try with_reducible rfl)); (simp only [Act.put, List.setIfInBounds_toArray, List.set_cons_zero, List.set_cons_succ])))
              (refine' settle_step (fun _ => by rfl) ?_ ?_; rotate_left; (focus (intro ρ w hS hF K hK; (simp only [Act.put, List.setIfInBounds_toArray, List.set_cons_zero, List.set_cons_succ] at hK); go_simp; (refine (at_any ui _ ai _ (hui'.below hS.1)).mono ?_; rintro e w6 ⟨rfl, rfl⟩; have hS' := hS; have hE' := True.intro); exact hK _ hS' hE')); (simp only [Act.put, List.setIfInBounds_toArray, List.set_cons_zero, List.set_cons_succ]))
              repeat (first | (refine settle_skip (fun _ => by rfl) ?_; (simp only [Act.put, List.setIfInBounds_toArray, List.set_cons_zero, List.set_cons_succ])) | (refine' settle_run (fun _ _ => trivial) (fun _ => by rfl) ?_ ?_; rotate_left; (focus (intro ρ w hS hF; (try dsimp only at hS); go_split_ands; go_simp; try with_reducible rfl)); (simp only [Act.put, List.setIfInBounds_toArray, List.set_cons_zero, List.set_cons_succ])))
              (refine' settle_step (fun _ => by rfl) ?_ ?_; rotate_left; (focus (intro ρ w hS hF K hK; (simp only [Act.put, List.setIfInBounds_toArray, List.set_cons_zero, List.set_cons_succ] at hK); go_simp; (refine (at_any uj _ ai _ (huj'.below hS.1)).mono ?_; rintro e w6 ⟨rfl, rfl⟩; have hS' := hS; have hE' := True.intro); exact hK _ hS' hE')); (simp only [Act.put, List.setIfInBounds_toArray, List.set_cons_zero, List.set_cons_succ]))
              repeat (first | (refine settle_skip (fun _ => by rfl) ?_; (simp only [Act.put, List.setIfInBounds_toArray, List.set_cons_zero, List.set_cons_succ])) | (refine' settle_run (fun _ _ => trivial) (fun _ => by rfl) ?_ ?_; rotate_left; (focus (intro ρ w hS hF; (try dsimp only at hS); go_split_ands; go_simp; try with_reducible rfl)); (simp only [Act.put, List.setIfInBounds_toArray, List.set_cons_zero, List.set_cons_succ])))
              refine settle_nil ?_
              intro ρ w4 hS _
              have hb5 := hS.1
              clear hS hS0 keepS k1' k2' hui' huj' hBk
              have hbk5 := below_next hb5 hbk'
              have hB5 := hBq'.below hb5
              have hown5 := own_keeps hownk' (Keeps.of_below hb5 (fun _ => False)) (fun _ _ => id)
              have hbase5 := hbk5.size
              clear hbk' hBq' hownk'
              rcases h7 : decide (Vec.hand (Hb.cat l j) ai < Vec.hand (Hb.cat l k) ai) with _ | _
              · have HC := Lib.hid (And.intro (HE2.out.trans h7) (And.intro hbk5 hown5))
                have HB := Lib.hid hB5
                clear hbk5 hown5 hB5
                go_wp2_with fail
                go_roundw
                case rel => exact ⟨k + 1, by omega, by go_num, HC.out.2.1, by rw [Hb.inner_no HC.out.1]; exact HC.out.2.2, HB.out⟩
                case measure => simp [intOf]; omega
              · have hne := own_blk_ne hown5 hB5 (by decide)
                have hlen1 := Hb.outer_length l j l.length hj
                have hlen2 := Hb.inner_length l j k
                have hlen3 : j * l.length ≤ 2000000 * 2000000 := Nat.mul_le_mul (by omega) hl
                have n63 : (Hb.outer l j ++ Hb.inner l j k).length + 1 ≤ maxLen := by rw [List.length_append]; unfold maxLen; omega
                have n47 : ((Hb.outer l j ++ Hb.inner l j k).length + 1) * 16 ≤ 140737488355328 := by rw [List.length_append]; omega
                have HC := Lib.hid (And.intro (HE2.out.trans h7) (And.intro hbk5 hB5))
                clear hlen1 hlen2 hlen3 hbk5 hB5
                go_wp2_with (first | (at_builtin; refine wp_push_at _ _ _ _ (by first | rfl | simp) _ _ _ _ _ _ Try.underlying59 info_pair rfl (by decide) hown5 [.int .i64 (k : Int), .int .i64 (j : Int)] rfl (by simp [Value.oneCell']) n63 n47 hbase5 rfl rfl rfl rfl ?_; intro v7 w7 hr7 hg7 hv7 hb7) | fail)
                have HP := Lib.hid (And.intro hr7 (And.intro (HC.out.2.1.trans hb7) (HC.out.2.2.grown hg7 (fun e => hne e.symm))))
                clear hr7 hg7 hv7 hb7 hne
                go_roundw
                case rel => exact ⟨k + 1, by omega, by go_num, HP.out.2.1, by
                  rw [Hb.inner_yes HC.out.1, ← List.append_assoc, Hb.prcs_snoc, List.length_append (bs := [_])]
                  exact HP.out.1, HP.out.2.2⟩
                case measure => simp [intOf]; omega
          · rcases h5 : decide (Hb.known ai) with _ | _
            · have hcl : Hb.clashAt l k j = false := by rw [ec, h1, h2, h3, h5]; (simp)
              clear ec
              have HC := Lib.hid (And.intro hcl (And.intro hbk' hownk'))
              have HB := Lib.hid hBq'
              clear hcl hbk' hownk' hBq'
              go_wp2_with fail; refine (known_any _ _ h5 _).mono ?_; rintro _ _ ⟨rfl, rfl⟩; go_wp2_with fail
              go_roundw
              case rel => exact ⟨k + 1, by omega, by go_num, HC.out.2.1, by rw [Hb.inner_no HC.out.1]; exact HC.out.2.2, HB.out⟩
              case measure => simp [intOf]; omega
            rcases h6 : decide (Hb.known aj) with _ | _
            · have hcl : Hb.clashAt l k j = false := by rw [ec, h1, h2, h3, h5, h6]; (simp)
              clear ec
              have HC := Lib.hid (And.intro hcl (And.intro hbk' hownk'))
              have HB := Lib.hid hBq'
              clear hcl hbk' hownk' hBq'
              go_wp2_with fail; refine (known_any _ _ h5 _).mono ?_; rintro _ _ ⟨rfl, rfl⟩; go_wp2_with fail; refine (known_any _ _ h6 _).mono ?_; rintro _ _ ⟨rfl, rfl⟩; go_wp2_with fail
              go_roundw
              case rel => exact ⟨k + 1, by omega, by go_num, HC.out.2.1, by rw [Hb.inner_no HC.out.1]; exact HC.out.2.2, HB.out⟩
              case measure => simp [intOf]; omega
            have ec2 : Hb.clashAt l k j = decide (Vec.hand (Hb.cat l j) ai < Vec.hand (Hb.cat l k) ai) := by rw [ec, h1, h2, h3, h5, h6]; (simp)
            have HE2 := Lib.hid ec2
            clear ec ec2
            have hcl1 := Hb.clks_length l Hb.zero
            have k1 := hrow.cellAt k (by omega)
            have k2 := hrow.cellAt j (by omega)
            rw [List.getElem?_eq_getElem (by omega)] at k1 k2
            have hui := hck k vs[k] (Hb.cat l k) (List.getElem?_eq_getElem _) (by unfold Hb.cat; rw [Int.toNat_natCast, List.getD_eq_getElem?_getD, List.getElem?_eq_getElem (by omega)]; rfl)
            have huj := hck j vs[j] (Hb.cat l j) (List.getElem?_eq_getElem _) (by unfold Hb.cat; rw [Int.toNat_natCast, List.getD_eq_getElem?_getD, List.getElem?_eq_getElem (by omega)]; rfl)
            generalize vs[k] = ui at k1 hui
            generalize vs[j] = uj at k2 huj
            have k1' := (hbk'.cell (p := ⟨g, k, none⟩) hg4).trans k1
            have k2' := (hbk'.cell (p := ⟨g, j, none⟩) hg4).trans k2
            have hui' := hui.below hbk'
            have huj' := huj.below hbk'
            have hga := Nat.lt_of_lt_of_le hg4 hbk'.size
            have hqa : wr.heap.size < (wr.alloc (.cells #[.int .i64 ki, .int .i64 ai, .int .i64 oi, .int .i64 cei, .bool true, .int .i64 li] 42)).heap.size := by simp
            have hBk : Blk (wr.alloc (.cells #[.int .i64 ki, .int .i64 ai, .int .i64 oi, .int .i64 cei, .bool true, .int .i64 li] 42)) wr.heap.size 42 [.int .i64 ki, .int .i64 ai, .int .i64 oi, .int .i64 cei, .bool true, .int .i64 li] := Blk.new _ _ _
            clear hcl1 k1 k2 hui huj
            go_wp2_with fail
            refine (known_any _ _ h5 _).mono ?_
            rintro _ _ ⟨rfl, rfl⟩
            go_wp2_with fail
            refine (known_any _ _ h6 _).mono ?_
            rintro _ _ ⟨rfl, rfl⟩
            go_wp2_with fail
            generalize (wr.alloc (.cells #[.int .i64 ki, .int .i64 ai, .int .i64 oi, .int .i64 cei, .bool true, .int .i64 li] 42)) = WA at hbk' hownk' hBq' k1' k2' hui' huj' hga hqa hBk ⊢
            have keepS : ∀ w', Below WA.heap.size WA w' → (Below WA.heap.size WA w' ∧ w'.cell? ⟨wr.heap.size, 1, none⟩ = some (.int .i64 ai) ∧ w'.cell? ⟨g, k, none⟩ = some ui ∧ w'.cell? ⟨g, j, none⟩ = some uj) := fun w' hb =>
              ⟨hb, by rw [(hBk.below hb).cell]; rfl, (hb.cell (p := ⟨g, k, none⟩) hga).trans k1', (hb.cell (p := ⟨g, j, none⟩) hga).trans k2'⟩
            have hS0 := keepS _ (below_drew (Below.refl _ _))
            clear f0 f1 f3 f4 c0 c1 c2 c3 c4 c5
            refine wp_walk (by kernel_rfl) (by kernel_rfl) (fun _ _ => True) (fun w' => (Below WA.heap.size WA w' ∧ w'.cell? ⟨wr.heap.size, 1, none⟩ = some (.int .i64 ai) ∧ w'.cell? ⟨g, k, none⟩ = some ui ∧ w'.cell? ⟨g, j, none⟩ = some uj)) hS0 ?_
            repeat (first | (refine settle_skip (fun _ => by rfl) ?_; (simp only [Act.put, List.setIfInBounds_toArray, List.set_cons_zero, List.set_cons_succ])) | (refine' settle_run (fun _ _ => trivial) (fun _ => by rfl) ?_ ?_; rotate_left; (focus (intro ρ w hS hF; (try dsimp only at hS); go_split_ands; go_simp; try with_reducible rfl)); (simp only [Act.put, List.setIfInBounds_toArray, List.set_cons_zero, List.set_cons_succ])))
            (refine' settle_step (fun _ => by rfl) ?_ ?_; rotate_left; (focus (intro ρ w hS hF K hK; (simp only [Act.put, List.setIfInBounds_toArray, List.set_cons_zero, List.set_cons_succ] at hK); go_simp; (refine (at_any ui _ ai _ (hui'.below hS.1)).mono ?_; rintro e w6 ⟨rfl, rfl⟩; have hS' := hS; have hE' := True.intro); exact hK _ hS' hE')); (simp only [Act.put, List.setIfInBounds_toArray, List.set_cons_zero, List.set_cons_succ]))
            repeat (first | (refine settle_skip (fun _ => by rfl) ?_; (simp only [Act.put, List.setIfInBounds_toArray, List.set_cons_zero, List.set_cons_succ])) | (refine' settle_run (fun _ _ => trivial) (fun _ => by rfl) ?_ ?_; rotate_left; (focus (intro ρ w hS hF; (try dsimp only at hS); go_split_ands; go_simp; try with_reducible rfl)); (simp only [Act.put, List.setIfInBounds_toArray, List.set_cons_zero, List.set_cons_succ])))
            (refine' settle_step (fun _ => by rfl) ?_ ?_; rotate_left; (focus (intro ρ w hS hF K hK; (simp only [Act.put, List.setIfInBounds_toArray, List.set_cons_zero, List.set_cons_succ] at hK); go_simp; (refine (at_any uj _ ai _ (huj'.below hS.1)).mono ?_; rintro e w6 ⟨rfl, rfl⟩; have hS' := hS; have hE' := True.intro); exact hK _ hS' hE')); (simp only [Act.put, List.setIfInBounds_toArray, List.set_cons_zero, List.set_cons_succ]))
            repeat (first | (refine settle_skip (fun _ => by rfl) ?_; (simp only [Act.put, List.setIfInBounds_toArray, List.set_cons_zero, List.set_cons_succ])) | (refine' settle_run (fun _ _ => trivial) (fun _ => by rfl) ?_ ?_; rotate_left; (focus (intro ρ w hS hF; (try dsimp only at hS); go_split_ands; go_simp; try with_reducible rfl)); (simp only [Act.put, List.setIfInBounds_toArray, List.set_cons_zero, List.set_cons_succ])))
            refine settle_nil ?_
            intro ρ w4 hS _
            have hb5 := hS.1
            clear hS hS0 keepS k1' k2' hui' huj' hBk
            have hbk5 := below_next hb5 hbk'
            have hB5 := hBq'.below hb5
            have hown5 := own_keeps hownk' (Keeps.of_below hb5 (fun _ => False)) (fun _ _ => id)
            have hbase5 := hbk5.size
            clear hbk' hBq' hownk'
            rcases h7 : decide (Vec.hand (Hb.cat l j) ai < Vec.hand (Hb.cat l k) ai) with _ | _
            · have HC := Lib.hid (And.intro (HE2.out.trans h7) (And.intro hbk5 hown5))
              have HB := Lib.hid hB5
              clear hbk5 hown5 hB5
              go_wp2_with fail
              go_roundw
              case rel => exact ⟨k + 1, by omega, by go_num, HC.out.2.1, by rw [Hb.inner_no HC.out.1]; exact HC.out.2.2, HB.out⟩
              case measure => simp [intOf]; omega
            · have hne := own_blk_ne hown5 hB5 (by decide)
              have hlen1 := Hb.outer_length l j l.length hj
              have hlen2 := Hb.inner_length l j k
              have hlen3 : j * l.length ≤ 2000000 * 2000000 := Nat.mul_le_mul (by omega) hl
              have n63 : (Hb.outer l j ++ Hb.inner l j k).length + 1 ≤ maxLen := by rw [List.length_append]; unfold maxLen; omega
              have n47 : ((Hb.outer l j ++ Hb.inner l j k).length + 1) * 16 ≤ 140737488355328 := by rw [List.length_append]; omega
              have HC := Lib.hid (And.intro (HE2.out.trans h7) (And.intro hbk5 hB5))
              clear hlen1 hlen2 hlen3 hbk5 hB5
              go_wp2_with (first | (at_builtin; refine wp_push_at _ _ _ _ (by first | rfl | simp) _ _ _ _ _ _ Try.underlying59 info_pair rfl (by decide) hown5 [.int .i64 (k : Int), .int .i64 (j : Int)] rfl (by simp [Value.oneCell']) n63 n47 hbase5 rfl rfl rfl rfl ?_; intro v7 w7 hr7 hg7 hv7 hb7) | fail)
              have HP := Lib.hid (And.intro hr7 (And.intro (HC.out.2.1.trans hb7) (HC.out.2.2.grown hg7 (fun e => hne e.symm))))
              clear hr7 hg7 hv7 hb7 hne
              go_roundw
              case rel => exact ⟨k + 1, by omega, by go_num, HP.out.2.1, by
                rw [Hb.inner_yes HC.out.1, ← List.append_assoc, Hb.prcs_snoc, List.length_append (bs := [_])]
                exact HP.out.1, HP.out.2.2⟩
              case measure => simp [intOf]; omega
        · obtain rfl : k = j := by omega
          have HC := Lib.hid (And.intro hbk hownk)
          clear hbk hownk hBq
          go_wp2_with fail
          go_roundw
          case rel => exact ⟨k + 1, by omega, by go_num, HC.out.1, by rw [Hb.outer_succ]; exact HC.out.2⟩
          case measure => simp [intOf]; omega
    · obtain rfl : j = l.length := by omega
      have HC := Lib.hid (And.intro (below_next hb hb1) (own_base hown hb1.size))
      obtain ⟨Ao, co, rfl, -, -⟩ := own_slice hown
      clear hown hb
      go_wp2_with fail
      go_ret
      exact ⟨_, rfl, HC.out.2, HC.out.1⟩
end Go.Proofs.Ytoddhfabeiimkaa


namespace Go.Proofs.Ytoddhfabeiimkaa
set_option linter.unusedVariables false
set_option linter.unusedSimpArgs false
set_option maxRecDepth 100000
open Go.RowKit

def pairc (x : Nat × Nat) : List Value := [.int .i64 (x.1 : Int), .int .i64 (x.2 : Int)]
def paircs (l : List (Nat × Nat)) : List Value := l.flatMap pairc
theorem paircs_get (l : List (Nat × Nat)) (i : Nat) (p : Nat × Nat) (h : l[i]? = some p) : (paircs l)[i * 2]? = some (.int .i64 (p.1 : Int)) ∧ (paircs l)[i * 2 + 1]? = some (.int .i64 (p.2 : Int)) :=
  ⟨flat_get pairc 2 (fun _ => rfl) l i 0 p h (by omega), flat_get pairc 2 (fun _ => rfl) l i 1 p h (by omega)⟩
theorem take_snoc_eq {α : Type} {xs ys : List α} {k : Nat} {x y : α} (hx : xs[k]? = some x) (hy : ys[k]? = some y) (ht : xs.take k = ys.take k) (e : x = y) : xs.take (k + 1) = ys.take (k + 1) := by
  have hsn : ∀ (z : α) (l : List α), l[k]? = some z → l.take (k + 1) = l.take k ++ [z] := fun z l h => by
    obtain ⟨h', rfl⟩ := List.getElem?_eq_some_iff.1 h
    exact List.take_succ_eq_append_getElem h'
  rw [hsn _ _ hx, hsn _ _ hy, ht, e]
theorem ne_of_get {α : Type} {xs ys : List α} {k : Nat} {x y : α} (hx : xs[k]? = some x) (hy : ys[k]? = some y) (e : x ≠ y) : xs ≠ ys := by
  rintro rfl
  rw [hx] at hy
  injection hy with hy
  exact e hy

set_option maxHeartbeats 2000000 in
theorem equal_pairs (v v' : Value) (xs ys : List (Nat × Nat)) (w : World) (h : SlV w 2 v xs.length (paircs xs)) (h' : SlV w 2 v' ys.length (paircs ys)) :
    Calls Try.prog 20 #[v, v'] w fun e w' => e = .returned (.bool (decide (xs = ys))) ∧ ∃ m, w' = w.drewN m := by
  obtain ⟨A, c, rfl, hle, hm, hlen, hc⟩ := h
  obtain ⟨A', c', rfl, hle', hm', hlen', hc'⟩ := h'
  clear hlen hlen'
  unfold maxLen at hm hm'
  by_cases hn : xs.length = ys.length
  · have hne : ((xs.length : Int) != ys.length) = false := by simp [hn]
    have HN := Lib.hid hn
    clear hn
    go_enter Try.func20, Try.ntmps20
    go_wp2
    go_loopw [13] (fun i wr => ∃ k : Nat, k ≤ xs.length ∧ i = .int .i64 k ∧ (∃ a, wr = w.drewN a) ∧ xs.take k = ys.take k) (fun i _ => xs.length - (intOf i).toNat)
    case atStart => exact ⟨0, Nat.zero_le _, rfl, ⟨0, rfl⟩, rfl⟩
    case round =>
      obtain ⟨k, hk, rfl, ⟨a, rfl⟩, ht⟩ := hrel
      have HT := Lib.hid ht
      clear ht
      by_cases hlt : k < xs.length
      · have hlt' : k < ys.length := by rw [← HN.out]; exact hlt
        obtain ⟨⟨x1, x2⟩, hx⟩ : ∃ x, xs[k]? = some x := ⟨_, List.getElem?_eq_getElem hlt⟩
        obtain ⟨⟨y1, y2⟩, hy⟩ : ∃ x, ys[k]? = some x := ⟨_, List.getElem?_eq_getElem hlt'⟩
        obtain ⟨gx1, gx2⟩ := paircs_get _ _ _ hx
        obtain ⟨gy1, gy2⟩ := paircs_get _ _ _ hy
        obtain ⟨b, o, rfl, hb, hcc⟩ := hc.at_ (fun e => by rw [e] at gx1; simp at gx1)
        obtain ⟨b', o', rfl, hb', hcc'⟩ := hc'.at_ (fun e => by rw [e] at gy1; simp at gy1)
        have c1 := hcc _ _ gx1
        have c2 := hcc _ _ gx2
        have d1 := hcc' _ _ gy1
        have d2 := hcc' _ _ gy2
        rw [← Nat.add_assoc] at c2 d2
        have HX := Lib.hid hx
        have HY := Lib.hid hy
        clear hc hc' hcc hcc' hx hy gx1 gx2 gy1 gy2
        by_cases e : x1 = y1 ∧ x2 = y2
        · obtain ⟨rfl, rfl⟩ := e
          go_wp2
          go_quiet (fail)
          go_wp2
          go_roundw
          case rel => exact ⟨k + 1, by omega, by go_num, ⟨_, rfl⟩, take_snoc_eq HX.out HY.out HT.out rfl⟩
          case measure => simp [intOf]; omega
        · have hnl : xs ≠ ys := ne_of_get HX.out HY.out (fun h => by injection h with h1 h2; exact e ⟨h1, h2⟩)
          have HNL := Lib.hid hnl
          obtain ⟨X1, hX1⟩ : ∃ z : Int, z = x1 := ⟨_, rfl⟩
          obtain ⟨X2, hX2⟩ : ∃ z : Int, z = x2 := ⟨_, rfl⟩
          obtain ⟨Y1, hY1⟩ : ∃ z : Int, z = y1 := ⟨_, rfl⟩
          obtain ⟨Y2, hY2⟩ : ∃ z : Int, z = y2 := ⟨_, rfl⟩
          have he : (X1 == Y1 && X2 == Y2) = false := by
            rw [Bool.eq_false_iff]
            intro h
            simp only [Bool.and_eq_true, beq_iff_eq] at h
            exact e ⟨by omega, by omega⟩
          rw [← hX1] at c1
          rw [← hX2] at c2
          rw [← hY1] at d1
          rw [← hY2] at d2
          clear e hnl hX1 hX2 hY1 hY2
          rcases h1 : X1 == Y1 with _ | _
          · clear he
            go_wp2
            go_quiet (fail)
            go_wp2
            go_ret
            exact ⟨ret_bool (by simp [HNL.out]), ⟨_, World.drewN_drewN _ _ _⟩⟩
          · have h2 : (X2 == Y2) = false := by rw [h1] at he; simpa using he
            clear he
            go_wp2
            go_quiet (fail)
            go_wp2
            go_ret
            exact ⟨ret_bool (by simp [HNL.out]), ⟨_, World.drewN_drewN _ _ _⟩⟩
      · have HK := Lib.hid (show k = xs.length by omega)
        clear hc hc'
        go_wp2
        go_ret
        refine ⟨ret_bool ?_, ⟨_, rfl⟩⟩
        symm
        simp only [decide_eq_true_eq]
        have := HT.out
        rw [HK.out, List.take_length, HN.out, List.take_length] at this
        exact this
  · have hne : ((xs.length : Int) != ys.length) = true := by simp; omega
    have hnl : xs ≠ ys := fun e => hn (by rw [e])
    have HNL := Lib.hid hnl
    clear hnl hc hc'
    go_enter Try.func20, Try.ntmps20
    go_wp2
    go_ret
    exact ⟨ret_bool (by simp [HNL.out]), ⟨0, rfl⟩⟩

end Go.Proofs.Ytoddhfabeiimkaa


namespace Go.Proofs.Ytoddhfabeiimkaa
set_option linter.unusedVariables false
set_option linter.unusedSimpArgs false
set_option maxRecDepth 100000
open Go.RowKit Go.Maps

theorem equal_ints (v v' : Value) (xs ys : List Int) (w : World) (h : SlV w 1 v xs.length (ints .i64 xs)) (h' : SlV w 1 v' ys.length (ints .i64 ys)) :
    Calls Try.prog 10 #[v, v'] w fun e w' => e = .returned (.bool (decide (xs = ys))) ∧ ∃ m, w' = w.drewN m := by
  obtain ⟨A, c, rfl, hle, hm, hlen, hc⟩ := h
  obtain ⟨A', c', rfl, hle', hm', hlen', hc'⟩ := h'
  clear hlen hlen'
  unfold maxLen at hm hm'
  by_cases hn : xs.length = ys.length
  · have hne : ((xs.length : Int) != ys.length) = false := by simp [hn]
    have HN := Lib.hid hn
    clear hn
    go_enter Try.func10, Try.ntmps10
    go_wp2
    go_loopw [13] (fun i wr => ∃ k : Nat, k ≤ xs.length ∧ i = .int .i64 k ∧ (∃ a, wr = w.drewN a) ∧ xs.take k = ys.take k) (fun i _ => xs.length - (intOf i).toNat)
    case atStart => exact ⟨0, Nat.zero_le _, rfl, ⟨0, rfl⟩, rfl⟩
    case round =>
      obtain ⟨k, hk, rfl, ⟨a, rfl⟩, ht⟩ := hrel
      have HT := Lib.hid ht
      clear ht
      by_cases hlt : k < xs.length
      · have hlt' : k < ys.length := by rw [← HN.out]; exact hlt
        obtain ⟨b, o, x, rfl, hb, hx, hcc⟩ := hc.one hlt
        obtain ⟨b', o', y, rfl, hb', hy, hcc'⟩ := hc'.one hlt'
        clear hc hc'
        have hsn : ∀ (z : Int) (l : List Int), l[k]? = some z → l.take (k + 1) = l.take k ++ [z] := fun z l h => by
          obtain ⟨h', rfl⟩ := List.getElem?_eq_some_iff.1 h
          exact List.take_succ_eq_append_getElem h'
        have HSN := Lib.hid hsn
        clear hsn
        rcases hg : x != y with _ | _
        · go_wp2
          go_quiet (fail)
          go_wp2
          go_roundw
          case rel => exact ⟨k + 1, by omega, by go_num, ⟨_, rfl⟩, by rw [HSN.out _ _ hx.out, HSN.out _ _ hy.out, HT.out, show x = y by simpa using hg]⟩
          case measure => simp [intOf]; omega
        · go_wp2
          go_quiet (fail)
          go_wp2
          go_ret
          refine ⟨ret_bool ?_, ⟨_, World.drewN_drewN _ _ _⟩⟩
          symm
          simp only [decide_eq_false_iff_not]
          rintro rfl
          rw [hx.out] at hy
          simp at hg
          exact hg (by simpa using hy.out)
      · have HK := Lib.hid (show k = xs.length by omega)
        clear hc hc'
        go_wp2
        go_ret
        refine ⟨ret_bool ?_, ⟨_, rfl⟩⟩
        symm
        simp only [decide_eq_true_eq]
        have := HT.out
        rw [HK.out, List.take_length, HN.out, List.take_length] at this
        exact this
  · have hne : ((xs.length : Int) != ys.length) = true := by simp; omega
    have hnl : xs ≠ ys := fun e => hn (by rw [e])
    have HNL := Lib.hid hnl
    clear hnl hc hc'
    go_enter Try.func10, Try.ntmps10
    go_wp2
    go_ret
    exact ⟨ret_bool (by simp [HNL.out]), ⟨0, rfl⟩⟩

theorem compact_one (v : Value) (x : Int) (w : World) (h : SlV w 1 v 1 (ints .i64 [x])) :
    Calls Try.prog 41 #[v] w fun e w' => e = .returned v ∧ w' = w := by
  obtain ⟨A, c, rfl, hle, hm, hlen, hc⟩ := h
  unfold maxLen at hm
  clear hc hlen
  go_enter Try.func41, Try.ntmps41
  go_wp2
  go_ret
  exact ⟨rfl, rfl⟩

theorem info_int' : (Try.prog.info? 3).map (fun i => (i.zero, i.size, i.bytes)) = some (some (.int .i64 0), 1, 8) := by kernel_rfl

set_option maxHeartbeats 2000000 in
theorem cells_one (v : Value) (l : List Hb.Ev) (w : World) (i j : Nat) (x : Hb.Ev) (h : SlV w 6 v l.length (evcs l)) (hl : l.length ≤ 2000000) (hr : Hb.races l = [(i, j)]) (hx : l[i]? = some x) :
    Calls Try.prog 22 #[v] w fun e w' => ∃ u, e = .returned u ∧ SlV w' 1 u 1 (ints .i64 [x.cell]) ∧ Below w.heap.size w w' := by
  have hrc := races_any v l w h hl
  rw [hr] at hrc
  simp only [List.length_singleton] at hrc
  obtain ⟨y, hy⟩ : ∃ y, y = x.cell := ⟨_, rfl⟩
  rw [← hy]
  have HY := Lib.hid hy
  obtain ⟨A, c, rfl, hle, hm, hlen, hc⟩ := id h
  unfold maxLen at hm
  clear hlen
  go_enter Try.func22, Try.ntmps22
  go_wp2_with fail
  refine hrc.mono ?_
  rintro _ w1 ⟨u, rfl, hrow, hb1⟩
  obtain ⟨gA, gc, rfl, hg1, hg2, -, hg4⟩ := own_addr hrow (by decide)
  unfold maxLen at hg2
  have k1 : w1.cell? ⟨gA, 0, none⟩ = some (.int .i64 (i : Int)) := hrow.cellAt 0 (by decide)
  have k2 : w1.cell? ⟨gA, 1, none⟩ = some (.int .i64 (j : Int)) := hrow.cellAt 1 (by decide)
  obtain ⟨b, off, rfl, hbl, c0, c1, c2, c3, c4, c5⟩ := ev_cells hc hx
  have il : i < l.length := (List.getElem?_eq_some_iff.1 hx).1
  have d3 := (hb1.cell (p := ⟨b, off + i * 6 + 3, none⟩) hbl).trans c3
  have hbl1 := Nat.lt_of_lt_of_le hbl hb1.size
  rw [← HY.out] at d3
  clear hrc hrow hc c0 c1 c2 c3 c4 c5 hy hx
  go_wp2_with fail
  go_loopw [3, 9] (fun out i wr => ∃ k : Nat, k ≤ 1 ∧ i = .int .i64 (k : Int) ∧ Below w1.heap.size w1 wr ∧ wr.ownsRow w1.heap.size 3 1 out k (ints .i64 (List.replicate k y))) (fun _ i _ => 1 - (intOf i).toNat)
  case atStart => exact ⟨0, Nat.zero_le _, rfl, Below.refl _ _, World.ownsRow_nil _ _ _ _⟩
  case round =>
    obtain ⟨k, hk, rfl, hb, hown⟩ := hrel
    by_cases hk0 : k = 0
    · subst hk0
      have k1' := (hb.cell (p := ⟨gA, 0, none⟩) hg4).trans k1
      have k2' := (hb.cell (p := ⟨gA, 1, none⟩) hg4).trans k2
      have d3' := (hb.cell (p := ⟨b, off + i * 6 + 3, none⟩) hbl1).trans d3
      have hga := Nat.lt_of_lt_of_le hg4 hb.size
      have hba := Nat.lt_of_lt_of_le hbl1 hb.size
      have hownA := hown.alloc (.cells #[.int .i64 (i : Int), .int .i64 (j : Int)] 61)
      have hbA : Below w1.heap.size w1 (wr.alloc (.cells #[.int .i64 (i : Int), .int .i64 (j : Int)] 61)) := below_alloc hb _
      have hbase := hbA.size
      go_wp2_with (first | (at_builtin; refine wp_push_at _ _ _ _ (by first | rfl | simp) _ _ _ _ _ _ Try.underlying25 info_int' rfl (by decide) hownA [.int .i64 y] rfl (by simp [Value.oneCell']) (by decide) (by decide) hbase rfl rfl rfl rfl ?_; intro v7 w7 hr7 hg7 hv7 hb7) | fail)
      have HP := Lib.hid (And.intro hr7 (hbA.trans hb7))
      clear hr7 hg7 hv7 hb7
      go_roundw
      case rel => exact ⟨1, by omega, by go_num, HP.out.2, HP.out.1⟩
      case measure => simp [intOf]
    · obtain rfl : k = 1 := by omega
      have hso := sort_own _ [y] wr w1.heap.size hown (by simp)
      have hbs := hb.size
      have hge := own_ge hown
      clear hown k1 k2 d3
      go_wp2_with fail
      refine hso.mono ?_
      rintro _ w3 ⟨rfl, hown3, hg3⟩
      have hb3 : Below w1.heap.size w1 w3 := hb.trans ((Keeps.of_grown hg3).below hbs (fun i hi => hge i hi.symm))
      rw [show srt [y] = [y] by simp [srt]] at hown3
      have hsl := SlV.of_own hown3
      obtain ⟨Ao, co, rfl, -, -⟩ := own_slice hown3
      have HP := Lib.hid (And.intro hsl (below_next hb3 hb1))
      have hco := compact_one _ _ _ hsl
      clear hown3 hso hg3 hge hb3 hsl
      go_wp2_with fail
      refine hco.mono ?_
      rintro _ _ ⟨rfl, rfl⟩
      go_wp2
      go_ret
      exact ⟨_, rfl, HP.out.1, HP.out.2⟩

def Hb.alive : List Hb.Ev := [⟨2, 0, 1, 0, false, 0⟩, ⟨1, 1, 0, 1, true, 0⟩, ⟨1, 0, 0, 1, true, 0⟩, ⟨4, 0, 1, 0, false, 0⟩, ⟨1, 0, 0, 1, true, 0⟩]
theorem Hb.alive_races : Hb.races Hb.alive = [(1, 2)] := by decide +kernel
theorem Hb.alive_14 : Hb.ahead Hb.alive 1 4 = true := by decide +kernel
theorem Hb.alive_12 : Hb.ahead Hb.alive 1 2 = false := by decide +kernel

theorem equal_pairs_call (v v' : Value) (xs ys : List (Nat × Nat)) (b : Bool) (hb : decide (xs = ys) = b) (w : World) (h : SlV w 2 v xs.length (paircs xs)) (h' : SlV w 2 v' ys.length (paircs ys)) :
    Calls Try.prog 20 #[v, v'] w fun e w' => e = .returned (.bool b) ∧ Below w.heap.size w w' := by
  subst hb
  exact (equal_pairs v v' xs ys w h h').mono fun e w' ⟨h1, m, h2⟩ => ⟨h1, by rw [h2]; exact below_drewN (Below.refl _ _) m⟩

set_option maxHeartbeats 2000000 in
theorem alive19_any (w : World) : Calls Try.prog 11 #[] w fun e w' => e = .returned (.bool true) ∧ Below w.heap.size w w' := by
  go_enter Try.func11, Try.ntmps11
  go_wp2_with fail
  have hl : SlV ((w.alloc (.cells #[.int .i64 1, .bool true, .int .i64 0] 40)).alloc (.cells (evcs Hb.alive).toArray 42)) 6 (.slice (some ⟨w.heap.size + 1, 0, none⟩) 5 5) 5 (evcs Hb.alive) := by
    have := SlV.lit (w.alloc (.cells #[.int .i64 1, .bool true, .int .i64 0] 40)) (evcs Hb.alive) 42 6 5 rfl (by decide)
    simpa using this
  have hb0 : Below w.heap.size w ((w.alloc (.cells #[.int .i64 1, .bool true, .int .i64 0] 40)).alloc (.cells (evcs Hb.alive).toArray 42)) := below_alloc (below_alloc (Below.refl _ _) _) _
  change Calls _ _ _ ((w.alloc (.cells #[.int .i64 1, .bool true, .int .i64 0] 40)).alloc (.cells (evcs Hb.alive).toArray 42)) _
  generalize ((w.alloc (.cells #[.int .i64 1, .bool true, .int .i64 0] 40)).alloc (.cells (evcs Hb.alive).toArray 42)) = w1 at hl hb0 ⊢
  refine (races_any _ Hb.alive w1 hl (by decide)).mono ?_
  rintro _ w2 ⟨u, rfl, hr2, hb2⟩
  rw [Hb.alive_races] at hr2
  have hb2' := below_next hb2 hb0
  have hl2 := hl.below hb2
  have hs2 := SlV.of_own hr2
  clear hr2
  go_wp2_with fail
  have hs2' := hs2.alloc (.cells #[.int .i64 1, .int .i64 2] 61)
  refine (equal_pairs_call u _ [(1, 2)] [(1, 2)] true (by decide) _ hs2' (by have := SlV.lit w2 (paircs [(1, 2)]) 61 2 1 rfl (by decide); exact this)).mono ?_
  rintro _ w3 ⟨rfl, hb3⟩
  have hb3' := below_next hb3 (below_alloc hb2' _)
  have hl3 := (hl2.alloc _).below hb3
  clear hs2 hs2' hb0 hb2 hb2' hl2 hl hb3
  go_wp2_with fail
  refine (ahead_any _ Hb.alive 1 4 true Hb.alive_14 w3 hl3 (by decide)).mono ?_
  rintro _ w4 ⟨rfl, hb4⟩
  have hb4' := below_next hb4 hb3'
  have hl4 := hl3.below hb4
  clear hb4 hb3' hl3
  go_wp2_with fail
  refine (ahead_any _ Hb.alive 1 2 false Hb.alive_12 w4 hl4 (by decide)).mono ?_
  rintro _ w5 ⟨rfl, hb5⟩
  have hb5' := below_next hb5 hb4'
  have hl5 := hl4.below hb5
  clear hb5 hb4' hl4
  go_wp2_with fail
  refine (cells_one _ Hb.alive w5 1 2 ⟨1, 1, 0, 1, true, 0⟩ hl5 (by decide) Hb.alive_races rfl).mono ?_
  rintro _ w6 ⟨u6, rfl, hs6, hb6⟩
  have hb6' := below_next hb6 hb5'
  have hl6 := hl5.below hb6
  clear hb6 hb5' hl5
  go_wp2_with fail
  refine (equal_ints u6 _ [1] [1] _ (hs6.alloc _) (by have := SlV.lit w6 (ints .i64 [1]) 3 1 1 rfl (by decide); exact this)).mono ?_
  rintro _ w7 ⟨rfl, m, rfl⟩
  have hb7' := below_drewN (below_alloc hb6' (.cells #[.int .i64 1] 3)) m
  have hl7 := (hl6.alloc (.cells #[.int .i64 1] 3)).below (below_drewN (Below.refl _ _) m)
  have hc7 := clocks_any _ Hb.alive _ hl7 (by decide)
  clear hs6 hb6' hl6 hl7
  go_wp2_with fail
  refine hc7.mono ?_
  rintro _ w8 ⟨u8, vs, rfl, ⟨hr8, -⟩, hb8⟩
  have hb8' := below_next hb8 hb7'
  obtain ⟨A8, c8, rfl, -, -⟩ := own_slice hr8
  clear hr8 hb8 hb7' hc7
  go_wp2
  go_ret
  exact ⟨rfl, hb8'⟩
end Go.Proofs.Ytoddhfabeiimkaa


namespace Go.Proofs.Ytoddhfabeiimkaa
set_option linter.unusedVariables false
set_option linter.unusedSimpArgs false
set_option maxRecDepth 100000
open Go.RowKit Go.Maps

namespace Hb
theorem cat_pos (l : List Ev) (hl : l.length < 18446744073709551615) {i : Nat} (h : i < l.length) : Vec.Pos (cat l i) := by
  rw [cat_nat l h]
  exact clk_pos (inv_take l hl i (by omega)) (by omega)
theorem ahead_nat (l : List Ev) (hl : l.length < 18446744073709551615) {a b : Nat} (hab : a < b) (hb : b < l.length) : ahead l a b = (decide (known (l[a]'(by omega)).act) && (decide (known l[b].act) && Vec.within (cat l a) (cat l b))) := by
  unfold ahead
  rw [actAt_nat l (show a < l.length by omega), actAt_nat l hb, cat_nat l (show a < l.length by omega), cat_nat l hb]
  rw [show decide (0 ≤ (a : Int)) = true by simp, show decide ((b : Int) < l.length) = true by simp; omega, show decide ((a : Int) < b) = true by simp; omega]
  simp only [Bool.true_and]
  by_cases ka : known (l[a]'(by omega)).act
  · by_cases kb : known l[b].act
    · have h := ahead_iff l hl hab hb ka kb
      rw [decide_eq_true ka, decide_eq_true kb, Bool.true_and, Bool.true_and]
      rw [Bool.eq_iff_iff, decide_eq_true_iff]
      exact h
    · rw [decide_eq_false kb]; simp
  · rw [decide_eq_false ka]; simp
theorem ahead_range {l : List Ev} {i j : Int} (h : ahead l i j = true) : 0 ≤ i ∧ i < j ∧ j < l.length := by
  unfold ahead at h
  simp only [Bool.and_eq_true, decide_eq_true_iff] at h
  exact ⟨h.1, h.2.2.1, h.2.1⟩
theorem ahead_out {l : List Ev} {i j : Int} (h : ¬ (0 ≤ i ∧ i < j ∧ j < l.length)) : ahead l i j = false := by
  rcases e : ahead l i j with _ | _
  · rfl
  · exact absurd (ahead_range e) h
theorem ahead_trans {l : List Ev} (hl : l.length < 18446744073709551615) {i j k : Int} (h1 : ahead l i j = true) (h2 : ahead l j k = true) : ahead l i k = true := by
  have r1 := ahead_range h1
  have r2 := ahead_range h2
  obtain ⟨i, rfl⟩ := Int.eq_ofNat_of_zero_le r1.1
  obtain ⟨j, rfl⟩ := Int.eq_ofNat_of_zero_le r2.1
  obtain ⟨k, rfl⟩ := Int.eq_ofNat_of_zero_le (show 0 ≤ k by omega)
  have hi : i < l.length := by omega
  have hj : j < l.length := by omega
  have hk : k < l.length := by omega
  rw [ahead_nat l hl (by omega) (by omega)] at h1 h2 ⊢
  simp only [Bool.and_eq_true, decide_eq_true_iff] at h1 h2 ⊢
  refine ⟨h1.1, h2.2.1, ?_⟩
  have w1 := (Vec.within_iff (cat_pos l hl hj)).1 h1.2.2
  have w2 := (Vec.within_iff (cat_pos l hl hk)).1 h2.2.2
  exact (Vec.within_iff (cat_pos l hl hk)).2 fun x => Int.le_trans (w1 x) (w2 x)
theorem ahead_own {l : List Ev} (hl : l.length < 18446744073709551615) {a b : Nat} (hab : a < b) (hb : b < l.length) (he : (l[a]'(by omega)).act = l[b].act) (h0 : 0 ≤ (l[a]'(by omega)).act) (h1 : (l[a]'(by omega)).act < 200) : ahead l a b = true := by
  have ka : known (l[a]'(by omega)).act := ⟨h0, h1⟩
  have kb : known l[b].act := by rw [← he]; exact ka
  have := (ahead_iff l hl hab hb ka kb).1 (ahead_same l hl hab hb ka he)
  rw [ahead_nat l hl hab hb, decide_eq_true ka, decide_eq_true kb, cat_nat l (show a < l.length by omega), cat_nat l hb]
  exact this
theorem cat_nil {l : List Ev} (hl : l.length < 18446744073709551615) {i : Nat} (h : i < l.length) : cat l i = [] ↔ ¬ known l[i].act := by
  rw [cat_nat l h]
  constructor
  · intro h0 hk
    exact clk_ne l hl h hk h0
  · exact clk_nil
end Hb


set_option maxHeartbeats 2000000 in
theorem hbVector_walk (v : Value) (l : List Hb.Ev) (i j : Int) (w : World) (h : SlV w 6 v l.length (evcs l)) (hl : l.length ≤ 2932031007402) :
    Calls Try.prog 5 #[v, .int .i64 i, .int .i64 j] w fun e w' => e = .returned (.bool true) ∧ Below w.heap.size w w' := by
  obtain ⟨A, c, rfl, hle, hm, hlen, hc⟩ := id h
  unfold maxLen at hm
  clear hc hlen
  by_cases hout : 0 ≤ i ∧ i < j ∧ j < l.length
  · obtain ⟨h0, h1, h2⟩ := hout
    obtain ⟨i, rfl⟩ := Int.eq_ofNat_of_zero_le h0
    obtain ⟨j, rfl⟩ := Int.eq_ofNat_of_zero_le (show 0 ≤ j by omega)
    have hij : i < j := by omega
    have hjl : j < l.length := by omega
    have hil : i < l.length := by omega
    clear h0 h1 h2
    have g0 : decide ((i : Int) < 0) = false := by simp
    have g1 : decide (l.length ≤ j) = false := by simp; omega
    have g2 : decide (j ≤ i) = false := by simp; omega
    have hcl1 := Hb.clks_length l Hb.zero
    go_enter Try.func5, Try.ntmps5
    go_wp2_with fail
    refine (alive19_any w).mono ?_
    rintro _ w1 ⟨rfl, hb1⟩
    have hcl := clocks_any _ l w1 (h.below hb1) hl
    go_wp2_with fail
    refine hcl.mono ?_
    rintro _ w2 ⟨u, vs, rfl, ⟨hrow, hck⟩, hb2⟩
    have hb2' := below_next hb2 hb1
    clear hcl
    have hvl : vs.length = l.length := by have := hrow.1; omega
    obtain ⟨g, cg, rfl, hg1, hg2, -, hg4⟩ := own_addr hrow (by omega)
    unfold maxLen at hg2
    have k1 := hrow.cellAt i (by omega)
    have k2 := hrow.cellAt j (by omega)
    rw [List.getElem?_eq_getElem (by omega)] at k1 k2
    have hui := hck i vs[i] (Hb.cat l i) (List.getElem?_eq_getElem _) (by unfold Hb.cat; rw [Int.toNat_natCast, List.getD_eq_getElem?_getD, List.getElem?_eq_getElem (by omega)]; rfl)
    have huj := hck j vs[j] (Hb.cat l j) (List.getElem?_eq_getElem _) (by unfold Hb.cat; rw [Int.toNat_natCast, List.getD_eq_getElem?_getD, List.getElem?_eq_getElem (by omega)]; rfl)
    generalize vs[i] = ui at k1 hui
    generalize vs[j] = uj at k2 huj
    obtain ⟨Ai, ci, rfl, -⟩ := id hui.1
    obtain ⟨Aj, cj, rfl, -⟩ := id huj.1
    clear hrow hck hcl1 hvl
    by_cases hi0 : Hb.cat l i = []
    · have hf : Hb.ahead l i j = false := by rw [Hb.ahead_nat l (by omega) hij hjl, decide_eq_false ((Hb.cat_nil (by omega) hil).1 hi0)]; rfl
      have z1 : (((Hb.cat l i).length : Int) == 0) = true := by rw [hi0]; rfl
      clear hi0
      go_wp2_with fail
      refine (ahead_any _ l _ _ false hf _ (h.below hb2') hl).mono ?_
      rintro _ w3 ⟨rfl, hb3⟩
      have hb3' := below_next hb3 hb2'
      go_wp2
      go_ret
      exact ⟨rfl, hb3'⟩
    by_cases hj0 : Hb.cat l j = []
    · have hf : Hb.ahead l i j = false := by rw [Hb.ahead_nat l (by omega) hij hjl, decide_eq_false ((Hb.cat_nil (by omega) hjl).1 hj0), Bool.false_and, Bool.and_false]
      have z1 : (((Hb.cat l i).length : Int) == 0) = false := by simp [hi0]
      have z2 : (((Hb.cat l j).length : Int) == 0) = true := by rw [hj0]; rfl
      clear hi0 hj0
      go_wp2_with fail
      refine (ahead_any _ l _ _ false hf _ (h.below hb2') hl).mono ?_
      rintro _ w3 ⟨rfl, hb3⟩
      have hb3' := below_next hb3 hb2'
      go_wp2
      go_ret
      exact ⟨rfl, hb3'⟩
    have hf : Hb.ahead l i j = Vec.within (Hb.cat l i) (Hb.cat l j) := by
      rw [Hb.ahead_nat l (by omega) hij hjl, decide_eq_true (Decidable.byContradiction fun h => hi0 ((Hb.cat_nil (by omega) hil).2 h)), decide_eq_true (Decidable.byContradiction fun h => hj0 ((Hb.cat_nil (by omega) hjl).2 h))]
      rfl
    have z1 : (((Hb.cat l i).length : Int) == 0) = false := by simp [hi0]
    have z2 : (((Hb.cat l j).length : Int) == 0) = false := by simp [hj0]
    have keepS : ∀ w', Below w2.heap.size w2 w' → (Below w2.heap.size w2 w' ∧ w'.cell? ⟨g, i, none⟩ = some (.slice Ai (Hb.cat l i).length ci) ∧ w'.cell? ⟨g, j, none⟩ = some (.slice Aj (Hb.cat l j).length cj)) := fun w' hb =>
      ⟨hb, (hb.cell (p := ⟨g, i, none⟩) hg4).trans k1, (hb.cell (p := ⟨g, j, none⟩) hg4).trans k2⟩
    have hS0 := keepS _ (below_drew (Below.refl _ _))
    have hAh : ∀ w', Below w.heap.size w w' → Calls Try.prog 12 #[.slice A l.length c, .int .i64 (i : Int), .int .i64 (j : Int)] w' fun e w'' => e = .returned (.bool (Vec.within (Hb.cat l i) (Hb.cat l j))) ∧ Below w'.heap.size w' w'' := fun w' hb => ahead_any _ l _ _ _ hf w' (h.below hb) hl
    clear hi0 hj0 hf
    go_wp2_with fail
    refine wp_walk (by kernel_rfl) (by kernel_rfl) (fun _ _ => True) (fun w' => (Below w2.heap.size w2 w' ∧ w'.cell? ⟨g, i, none⟩ = some (.slice Ai (Hb.cat l i).length ci) ∧ w'.cell? ⟨g, j, none⟩ = some (.slice Aj (Hb.cat l j).length cj))) hS0 ?_
    repeat (first | (refine settle_skip (fun _ => by rfl) ?_; (simp only [Act.put, List.setIfInBounds_toArray, List.set_cons_zero, List.set_cons_succ])) | (refine' settle_run (fun _ _ => trivial) (fun _ => by rfl) ?_ ?_; rotate_left; (focus (intro ρ w hS hF; (try dsimp only at hS); go_split_ands; go_simp; try with_reducible rfl)); (simp only [Act.put, List.setIfInBounds_toArray, List.set_cons_zero, List.set_cons_succ])))
    (refine' settle_step (fun _ => by rfl) ?_ ?_; rotate_left; (focus (intro ρ w hS hF K hK; (simp only [Act.put, List.setIfInBounds_toArray, List.set_cons_zero, List.set_cons_succ] at hK); go_simp; (refine (hAh _ (below_next hS.1 hb2')).mono ?_; rintro e w6 ⟨rfl, hb6⟩; have hS' := keepS _ (below_next hb6 hS.1); have hE' := True.intro); exact hK _ hS' hE')); (simp only [Act.put, List.setIfInBounds_toArray, List.set_cons_zero, List.set_cons_succ]))
    repeat (first | (refine settle_skip (fun _ => by rfl) ?_; (simp only [Act.put, List.setIfInBounds_toArray, List.set_cons_zero, List.set_cons_succ])) | (refine' settle_run (fun _ _ => trivial) (fun _ => by rfl) ?_ ?_; rotate_left; (focus (intro ρ w hS hF; (try dsimp only at hS); go_split_ands; go_simp; try with_reducible rfl)); (simp only [Act.put, List.setIfInBounds_toArray, List.set_cons_zero, List.set_cons_succ])))
    (refine' settle_step (fun _ => by rfl) ?_ ?_; rotate_left; (focus (intro ρ w hS hF K hK; (simp only [Act.put, List.setIfInBounds_toArray, List.set_cons_zero, List.set_cons_succ] at hK); go_simp; (refine (within_any _ _ (Hb.cat l i) (Hb.cat l j) _ (hui.below hS.1) (huj.below hS.1)).mono ?_; rintro e w6 ⟨rfl, rfl⟩; have hS' := hS; have hE' := True.intro); exact hK _ hS' hE')); (simp only [Act.put, List.setIfInBounds_toArray, List.set_cons_zero, List.set_cons_succ]))
    repeat (first | (refine settle_skip (fun _ => by rfl) ?_; (simp only [Act.put, List.setIfInBounds_toArray, List.set_cons_zero, List.set_cons_succ])) | (refine' settle_run (fun _ _ => trivial) (fun _ => by rfl) ?_ ?_; rotate_left; (focus (intro ρ w hS hF; (try dsimp only at hS); go_split_ands; go_simp; try with_reducible rfl)); (simp only [Act.put, List.setIfInBounds_toArray, List.set_cons_zero, List.set_cons_succ])))
    refine settle_nil ?_
    intro ρ w4 hS _
    have hbe := below_next hS.1 hb2'
    clear hS hS0 keepS
    go_wp2
    go_ret
    exact ⟨ret_bool (by simp), hbe⟩
  · have hf := Hb.ahead_out hout
    by_cases h0 : i < 0
    · clear hout
      go_enter Try.func5, Try.ntmps5
      go_wp2_with fail
      refine (alive19_any w).mono ?_
      rintro _ w1 ⟨rfl, hb1⟩
      have hcl := clocks_any _ l w1 (h.below hb1) hl
      go_wp2_with fail
      refine hcl.mono ?_
      rintro _ w2 ⟨u, vs, rfl, ⟨hrow, hck⟩, hb2⟩
      have hb2' := below_next hb2 hb1
      clear hcl
      obtain ⟨gA, gc, rfl, -, -⟩ := own_slice hrow
      clear hrow hck
      go_wp2_with fail
      refine (ahead_any _ l _ _ false hf _ (h.below hb2') hl).mono ?_
      rintro _ w3 ⟨rfl, hb3⟩
      have hb3' := below_next hb3 hb2'
      go_wp2
      go_ret
      exact ⟨rfl, hb3'⟩
    by_cases h1 : (l.length : Int) ≤ j
    · clear hout
      go_enter Try.func5, Try.ntmps5
      go_wp2_with fail
      refine (alive19_any w).mono ?_
      rintro _ w1 ⟨rfl, hb1⟩
      have hcl := clocks_any _ l w1 (h.below hb1) hl
      go_wp2_with fail
      refine hcl.mono ?_
      rintro _ w2 ⟨u, vs, rfl, ⟨hrow, hck⟩, hb2⟩
      have hb2' := below_next hb2 hb1
      clear hcl
      obtain ⟨gA, gc, rfl, -, -⟩ := own_slice hrow
      clear hrow hck
      go_wp2_with fail
      refine (ahead_any _ l _ _ false hf _ (h.below hb2') hl).mono ?_
      rintro _ w3 ⟨rfl, hb3⟩
      have hb3' := below_next hb3 hb2'
      go_wp2
      go_ret
      exact ⟨rfl, hb3'⟩
    · have h2 : j ≤ i := by omega
      clear hout
      go_enter Try.func5, Try.ntmps5
      go_wp2_with fail
      refine (alive19_any w).mono ?_
      rintro _ w1 ⟨rfl, hb1⟩
      have hcl := clocks_any _ l w1 (h.below hb1) hl
      go_wp2_with fail
      refine hcl.mono ?_
      rintro _ w2 ⟨u, vs, rfl, ⟨hrow, hck⟩, hb2⟩
      have hb2' := below_next hb2 hb1
      clear hcl
      obtain ⟨gA, gc, rfl, -, -⟩ := own_slice hrow
      clear hrow hck
      go_wp2_with fail
      refine (ahead_any _ l _ _ false hf _ (h.below hb2') hl).mono ?_
      rintro _ w3 ⟨rfl, hb3⟩
      have hb3' := below_next hb3 hb2'
      go_wp2
      go_ret
      exact ⟨rfl, hb3'⟩
end Go.Proofs.Ytoddhfabeiimkaa
