/-
  MhpNone's calm, walked.
-/
import Derived.Test.YtniekhedpdkmiaaDoorStPl
namespace Go.Proofs.YtniekhedpdkmiaaDoor
set_option linter.unusedVariables false
set_option linter.unusedSimpArgs false
open Go.RowKit


/-- what the elements reach -/
def offS (B H Q0 : Nat) (v : Value) (b : Nat) : Prop := ((b < B ∨ H ≤ b) ∧ some b ≠ v.ownBlock) ∧ b ≠ Q0
def clo (cb : Nat) : Value := .func (.func 20) #[] #[.pointer (some ⟨cb, 0, none⟩)]
def CalmOK (p : St.P) : Prop := ∀ (w : World) (B n c cb : Nat) (A : Option Addr), B ≤ w.heap.size → cb < w.heap.size → w.cell? ⟨cb, 0, none⟩ = some (clo cb) → PR B w A n p → n ≤ c → c ≤ maxLen → p.size ≤ 274877906944 →
  Calls Tryd.prog 20 #[.slice A n c, .pointer (some ⟨cb, 0, none⟩)] w fun e w' => ∃ u, e = .returned u ∧ SP (newS B w.heap.size) w' u (St.calm p) ∧ Below w.heap.size w w'

set_option maxHeartbeats 4000000 in
theorem calm_step (p : St.P) (ih : ∀ q : St.P, q.size < p.size → CalmOK q) : CalmOK p := by
  intro w B n c cb A hB hcb0 hcl0 hp hnc hcm hsz
  obtain ⟨g, o, hA, hpl⟩ := hp.place
  have hnp : n ≤ 274877906944 := by have := hp.length; have := p.length_le; omega
  go_enter Tryd.func20, Tryd.ntmps20
  go_wp2
  go_loopw [4, 9] (fun out i wr => ∃ (k : Nat) (q dn : St.P) (cs : List Value), k ≤ n ∧ i = .int .i64 (k : Int) ∧ wr.ownsRow w.heap.size 40 12 out k cs ∧ CS (fun b => (b < B ∨ w.heap.size ≤ b) ∧ some b ≠ out.ownBlock) wr cs k dn ∧ PR B wr (some ⟨g, o + k * 12, none⟩) (n - k) q ∧ Below w.heap.size w wr ∧ (q.size ≤ p.size ∧ dn ++ St.calm q = St.calm p)) (fun out i _ => n - (intOf i).toNat)
  case atStart => exact ⟨0, p, .nil, [], Nat.zero_le _, rfl, World.ownsRow_nil _ _ _ _, CS.nil, hpl, Below.refl _ _, Nat.le_refl _, rfl⟩
  case round =>
    obtain ⟨k, q, dn, cs, hk, rfl, hown, hcs, hq, hb, hqs⟩ := hrel
    have hcl : wr.cell? ⟨cb, 0, none⟩ = some (clo cb) := (hb.cell (p := ⟨cb, 0, none⟩) hcb0).trans hcl0
    have hcbr : cb < wr.heap.size := Nat.lt_of_lt_of_le hcb0 hb.size
    clear hcl0
    by_cases hlt : k < n
    · obtain ⟨kd, nm, ak, an, bk, bn, sa, sb, aA, bA, al, ac, bl, bc, ea, eb, D, dl, dc, E, el, ec, body, els, rest, rfl, hg, ⟨hd1, hd2, he1, he2⟩, hcell, xa, xb, pb, pe, pr⟩ := hq.next (by omega)
      have hAA := hA (by omega)
      subst hAA
      have c0 : wr.cell? ⟨g, o + k * 12, none⟩ = some (.int .i64 kd) := hcell 0 _ rfl
      have c1 := hcell 1 _ rfl
      have c2 := hcell 2 _ rfl
      have c3 := hcell 3 _ rfl
      have c4 := hcell 4 _ rfl
      have c5 := hcell 5 _ rfl
      have c6 := hcell 6 _ rfl
      have c7 := hcell 7 _ rfl
      have c8 := hcell 8 _ rfl
      have c9 := hcell 9 _ rfl
      have c10 := hcell 10 _ rfl
      have c11 := hcell 11 _ rfl
      have hBr : B ≤ wr.heap.size := Nat.le_trans hB hb.size
      have hs : body.size < p.size ∧ els.size < p.size ∧ rest.size ≤ p.size := by rw [St.P.size] at hqs; omega
      clear hcell hq hpl hp
      by_cases k4 : kd = 4
      · subst k4
        obtain ⟨Q0, hQ0⟩ : ∃ Q0, Q0 = wr.heap.size := ⟨_, rfl⟩
        have hB0 := Blk.new wr 40 [.int .i64 4, .string nm, .int .i64 ak, .int .i64 an, .string sa, .slice aA al ac, .int .i64 bk, .int .i64 bn, .string sb, .slice bA bl bc, .slice D dl dc, .slice E el ec]
        have hbW : Below wr.heap.size wr (wr.alloc (.cells ([.int .i64 4, .string nm, .int .i64 ak, .int .i64 an, .string sa, .slice aA al ac, .int .i64 bk, .int .i64 bn, .string sb, .slice bA bl bc, .slice D dl dc, .slice E el ec] : List Value).toArray 40)) := below_alloc (Below.refl _ _) _
        have hzW : (wr.alloc (.cells ([.int .i64 4, .string nm, .int .i64 ak, .int .i64 an, .string sa, .slice aA al ac, .int .i64 bk, .int .i64 bn, .string sb, .slice bA bl bc, .slice D dl dc, .slice E el ec] : List Value).toArray 40)).heap.size = wr.heap.size + 1 := by simp
        rw [← hQ0] at hB0 hzW
        go_wp2_with fail
        rw [← hQ0]
        generalize (wr.alloc (.cells ([.int .i64 4, .string nm, .int .i64 ak, .int .i64 an, .string sa, .slice aA al ac, .int .i64 bk, .int .i64 bn, .string sb, .slice bA bl bc, .slice D dl dc, .slice E el ec] : List Value).toArray 40)) = W at hB0 hbW hzW ⊢
        have hcsW := hcs.go (S' := fun b => ((b < B ∨ w.heap.size ≤ b) ∧ some b ≠ u4.ownBlock) ∧ b ≠ Q0) (grown_of_below hbW none) (fun b hl hb => ⟨⟨hb, by omega⟩, by simp⟩)
        have hownW := hown.kept (grown_of_below hbW none) (by rcases hown.2 with ⟨rfl, _⟩ | ⟨g', _, _, rfl, _⟩ <;> simp [Value.ownBlock])
        have hbB := hbW.mono hBr
        have xaW := xa.later hbB
        have xbW := xb.later hbB
        have pbW := pb.later hbB
        have peW := pe.later hbB
        have prW := pr.later hbB
        have hclW := (hbW.cell (p := ⟨cb, 0, none⟩) hcbr).trans hcl
        have hcbW : cb < W.heap.size := Nat.lt_of_lt_of_le hcbr hbW.size
        have hbw := below_next hbW hb
        have hBW : B ≤ W.heap.size := Nat.le_trans hBr hbW.size
        have hol : ∀ gg, u4.ownBlock = some gg → w.heap.size ≤ gg ∧ gg < Q0 := fun gg e => by rw [hQ0]; exact hown.lt gg e
        have hqw : w.heap.size ≤ Q0 := by rw [hQ0]; exact hb.size
        have gB : ∀ (w' : World), Below W.heap.size W w' → Calls Tryd.prog 20 #[.slice D dl dc, .pointer (some ⟨cb, 0, none⟩)] w' fun e w'' => ∃ v, e = .returned v ∧ SP (newS B W.heap.size) w'' v (St.calm body) ∧ Below w'.heap.size w' w'' := fun w' hb' =>
          (ih body hs.1 w' B dl dc cb D (Nat.le_trans hBW hb'.size) (Nat.lt_of_lt_of_le hcbW hb'.size) ((hb'.cell (p := ⟨cb, 0, none⟩) hcbW).trans hclW) (pbW.later (hb'.mono hBW)) hd1 hd2 (by omega)).mono fun e w'' ⟨v, h1, h2, h3⟩ => ⟨v, h1, h2.go (World.grownBy.refl w'' none) fun b _ hb => ⟨hb.imp id fun h => Nat.le_trans hb'.size h, by simp⟩, h3⟩
        have gE : ∀ (w' : World), Below W.heap.size W w' → Calls Tryd.prog 20 #[.slice E el ec, .pointer (some ⟨cb, 0, none⟩)] w' fun e w'' => ∃ v, e = .returned v ∧ SP (newS B W.heap.size) w'' v (St.calm els) ∧ Below w'.heap.size w' w'' := fun w' hb' =>
          (ih els (by first | exact hs.2.1 | (simp only [St.P.size]; omega)) w' B _ _ cb _ (Nat.le_trans hBW hb'.size) (Nat.lt_of_lt_of_le hcbW hb'.size) ((hb'.cell (p := ⟨cb, 0, none⟩) hcbW).trans hclW) (by first | exact peW.later (hb'.mono hBW) | exact .nil _) (by first | exact he1 | decide) (by first | exact he2 | decide) (by first | omega | (simp only [St.P.size]; omega))).mono fun e w'' ⟨v, h1, h2, h3⟩ => ⟨v, h1, h2.go (World.grownBy.refl w'' none) fun b _ hb => ⟨hb.imp id fun h => Nat.le_trans hb'.size h, by simp⟩, h3⟩
        have keepS : ∀ w', Below W.heap.size W w' → (Below W.heap.size W w' ∧ w'.cell? ⟨Q0, 10, none⟩ = some (.slice D dl dc) ∧ w'.cell? ⟨Q0, 11, none⟩ = some (.slice E el ec) ∧ w'.cell? ⟨cb, 0, none⟩ = some (clo cb)) := fun w' hb => ⟨hb, ((hB0.below hb).cell 10).trans rfl, ((hB0.below hb).cell 11).trans rfl, (hb.cell (p := ⟨cb, 0, none⟩) hcbW).trans hclW⟩
        have hS0 := keepS _ (below_drew (Below.refl _ _))
        have HQ := Lib.hid (And.intro hQ0 (And.intro hzW (And.intro hs hqs)))
        clear hcl hcbr hQ0 hzW hs hqs pb pe pr xa xb pbW peW hown hcs hb hbW hbB ih c0 c1 c2 c3 c4 c5 c6 c7 c8 c9 c10 c11
        refine wp_walk_tail 9 (by kernel_rfl) (by kernel_rfl) (fun w w' => Below w.heap.size w w') (fun w' => (Below W.heap.size W w' ∧ w'.cell? ⟨Q0, 10, none⟩ = some (.slice D dl dc) ∧ w'.cell? ⟨Q0, 11, none⟩ = some (.slice E el ec) ∧ w'.cell? ⟨cb, 0, none⟩ = some (clo cb))) hS0 ?_
        simp only [List.length_cons, List.length_nil, Nat.reduceAdd, Nat.reduceSub, List.take_succ_cons, List.take_zero, List.drop_succ_cons, List.drop_zero]
        repeat (first | (refine settle_skip (fun _ => by rfl) ?_; (simp only [Act.put, List.setIfInBounds_toArray, List.set_cons_zero, List.set_cons_succ])) | (refine' settle_run (fun _ _ => Below.refl _ _) (fun _ => by rfl) ?_ ?_; rotate_left; (focus (intro ρ w hS hF; (try dsimp only at hS); go_split_ands; go_simp; try with_reducible rfl)); (simp only [Act.put, List.setIfInBounds_toArray, List.set_cons_zero, List.set_cons_succ])))
        (refine settle_known (FSP (newS B W.heap.size) (St.calm body)) (by rfl) (fun _ => by rfl)  ?_ ?_; (focus (intro ρ w hS hF K hK; (simp only [Act.put, List.setIfInBounds_toArray, List.set_cons_zero, List.set_cons_succ] at hK); go_simp; (refine (gB _ hS.1).mono ?_; rintro e w' ⟨v, rfl, hF', hb'⟩; exact hK _ _ hF' (keepS _ (below_next hb' hS.1)) hb'))); (simp only [Act.put, List.setIfInBounds_toArray, List.set_cons_zero, List.set_cons_succ]))
        repeat (first | (refine settle_skip (fun _ => by rfl) ?_; (simp only [Act.put, List.setIfInBounds_toArray, List.set_cons_zero, List.set_cons_succ])) | (refine' settle_run (fun _ _ => Below.refl _ _) (fun _ => by rfl) ?_ ?_; rotate_left; (focus (intro ρ w hS hF; (try dsimp only at hS); go_split_ands; go_simp; try with_reducible rfl)); (simp only [Act.put, List.setIfInBounds_toArray, List.set_cons_zero, List.set_cons_succ])))
        (refine settle_known (FSP (newS B W.heap.size) (St.calm els)) (by rfl) (fun _ => by rfl)  ?_ ?_; (focus (intro ρ w hS hF K hK; (simp only [Act.put, List.setIfInBounds_toArray, List.set_cons_zero, List.set_cons_succ] at hK); go_simp; (refine (gE _ hS.1).mono ?_; rintro e w' ⟨v, rfl, hF', hb'⟩; exact hK _ _ hF' (keepS _ (below_next hb' hS.1)) hb'))); (simp only [Act.put, List.setIfInBounds_toArray, List.set_cons_zero, List.set_cons_succ]))
        repeat (first | (refine settle_skip (fun _ => by rfl) ?_; (simp only [Act.put, List.setIfInBounds_toArray, List.set_cons_zero, List.set_cons_succ])) | (refine' settle_run (fun _ _ => Below.refl _ _) (fun _ => by rfl) ?_ ?_; rotate_left; (focus (intro ρ w hS hF; (try dsimp only at hS); go_split_ands; go_simp; try with_reducible rfl)); (simp only [Act.put, List.setIfInBounds_toArray, List.set_cons_zero, List.set_cons_succ])))
        refine settle_nil ?_
        intro ρ w4 hS hF
        have hu1 : SP (newS B W.heap.size) w4 (ρ 16) (St.calm body) := hF 16 (FSP (newS B W.heap.size) (St.calm body)) (by repeat (first | exact List.mem_cons_self | apply List.mem_cons_of_mem))
        have hu2 : SP (newS B W.heap.size) w4 (ρ 20) (St.calm els) := hF 20 (FSP (newS B W.heap.size) (St.calm els)) (by repeat (first | exact List.mem_cons_self | apply List.mem_cons_of_mem))
        have hb4 := hS.1
        clear hF hS hS0 keepS gB gE
        dsimp only
        generalize ρ 16 = U1 at hu1 ⊢
        generalize ρ 20 = U2 at hu2 ⊢
        obtain ⟨D1, m1, k1, rfl, f1, f1', s1⟩ := hu1
        obtain ⟨D2, m2, k2, rfl, f2, f2', s2⟩ := hu2
        have hB4 := hB0.below hb4
        have hown4 := hownW.kept (grown_of_below hb4 none) (by rcases hownW.2 with ⟨rfl, _⟩ | ⟨g', _, _, rfl, _⟩ <;> simp [Value.ownBlock])
        have hl4 := hb4.size
        have hWq : W.heap.size = Q0 + 1 := HQ.out.2.1
        clear hB0 hownW
        refine wpl_set_blk hB4 10 (.slice D1 m1 k1) (by kernel_rfl) (by simp) rfl rfl rfl rfl rfl rfl ?_
        intro w5 hB5 hg5
        have hend : ∀ w6, w5.grownBy w6 (some Q0) → w.heap.size ≤ w6.heap.size ∧ Q0 < w6.heap.size ∧ w6.ownsRow w.heap.size 40 12 u4 k cs ∧ CS (offS B w.heap.size Q0 u4) w6 cs k dn ∧ CS (offS B w.heap.size Q0 u4) w6 (stcells 4 nm (xcells ak an sa aA al ac) (xcells bk bn sb bA bl bc) D1 m1 k1 D2 m2 k2) 1 (.cons 4 nm.data.toList ea eb (St.calm body) (St.calm els) .nil) ∧ PR B w6 (some ⟨g, o + (k + 1) * 12, none⟩) (n - k - 1) rest ∧ Below w.heap.size w w6 := fun w6 hg6 => by
          have hl5 := hg5.size
          have hl6 := hg6.size
          have gw : w4.grownBy w6 (some Q0) := grown_trans hg5 hg6
          have s1' := s1.go (S' := offS B w.heap.size Q0 u4) gw (fun b _ hb => by
            unfold newS at hb
            exact ⟨⟨⟨by omega, fun e => by have := hol b e.symm; omega⟩, by omega⟩, fun e => by injection e with e; omega⟩)
          have s2' := s2.go (S' := offS B w.heap.size Q0 u4) gw (fun b _ hb => by
            unfold newS at hb
            exact ⟨⟨⟨by omega, fun e => by have := hol b e.symm; omega⟩, by omega⟩, fun e => by injection e with e; omega⟩)
          have hbB4 : Below B W w4 := hb4.mono hBW
          have hbB6 : Below B W w6 := hbB4.trans (below_of_grown gw (by omega) (by omega))
          have hbw6 : Below w.heap.size w w6 := (hbw.trans (hb4.mono hbw.size)).trans (below_of_grown gw (by omega) (by omega))
          have hcs6 := hcsW.go (S' := offS B w.heap.size Q0 u4) (grown_trans (grown_of_below hb4 (some Q0)) gw) (fun b _ hb => ⟨hb, fun e => by injection e with e; exact hb.2 e⟩)
          have hSB : ∀ b, b < B → offS B w.heap.size Q0 u4 b := fun b hb => ⟨⟨.inl hb, fun e => by have := hol b e.symm; omega⟩, by omega⟩
          refine ⟨by omega, by omega, hown4.kept gw (.inr fun e => by have := hol Q0 e; omega), hcs6, CS.one ⟨f1, f1', f2, f2'⟩ (XS.of (xaW.later hbB6) (by omega) hSB) (XS.of (xbW.later hbB6) (by omega) hSB) s1' s2', prW.later hbB6, hbw6⟩
        have n63 : k + 1 ≤ maxLen := by unfold maxLen; omega
        have n47 : (k + 1) * 184 ≤ 140737488355328 := by omega
        clear hcsW xaW xbW prW hbw hB4 hown4 s1 s2 f1 f1' f2 f2' hWq hclW
        go_wp2_with (first | (refine wpl_set_blk hB5 11 (.slice D2 m2 k2) (by kernel_rfl) (by simp) rfl rfl rfl rfl rfl rfl ?_; intro w6 hB6 hg6; simp only [List.set_cons_succ, List.set_cons_zero] at hB6; obtain ⟨hl6, hq6, hown6, hcs6, hone6, pr6, hbw6⟩ := hend w6 hg6; have d0 : w6.cell? ⟨Q0, 0, none⟩ = some (.int .i64 4) := (hB6.cell 0).trans rfl; clear hend hB5 hg5 hg6 hb4 hl4) | (refine wpl_get_blk (ty := 40) hB6 (by kernel_rfl) (by kernel_rfl) rfl rfl rfl ?_))
        have p6 := Blk.new w6 40 [.int .i64 4, .string nm, .int .i64 ak, .int .i64 an, .string sa, .slice aA al ac, .int .i64 bk, .int .i64 bn, .string sb, .slice bA bl bc, .slice D1 m1 k1, .slice D2 m2 k2]
        have ha6 : Below w6.heap.size w6 (w6.alloc (.cells ([.int .i64 4, .string nm, .int .i64 ak, .int .i64 an, .string sa, .slice aA al ac, .int .i64 bk, .int .i64 bn, .string sb, .slice bA bl bc, .slice D1 m1 k1, .slice D2 m2 k2] : List Value).toArray 40)) := below_alloc (Below.refl _ _) _
        have hz6 : (w6.alloc (.cells ([.int .i64 4, .string nm, .int .i64 ak, .int .i64 an, .string sa, .slice aA al ac, .int .i64 bk, .int .i64 bn, .string sb, .slice bA bl bc, .slice D1 m1 k1, .slice D2 m2 k2] : List Value).toArray 40)).heap.size = w6.heap.size + 1 := by simp
        obtain ⟨R, hR⟩ : ∃ R, R = w6.heap.size := ⟨_, rfl⟩
        rw [← hR] at p6 hz6 ⊢
        generalize (w6.alloc (.cells ([.int .i64 4, .string nm, .int .i64 ak, .int .i64 an, .string sa, .slice aA al ac, .int .i64 bk, .int .i64 bn, .string sb, .slice bA bl bc, .slice D1 m1 k1, .slice D2 m2 k2] : List Value).toArray 40)) = w7 at p6 ha6 hz6 ⊢
        refine (finish_any _ _ _ w7).mono ?_
        rintro e w8 ⟨rfl, hb8⟩
        have hlR : ∀ gg, u4.ownBlock = some gg → gg < R := fun gg e => by have := hol gg e; omega
        have in7 := (hone6.go (S' := offS B w.heap.size Q0 u4) (grown_of_below ha6 none) (fun b _ hb => ⟨hb, by simp⟩)).read R 0 (fun _ => p6.lt) (fun j u hu => by rw [Nat.zero_add, p6.cell]; exact hu)
        have in8 := in7.go (S' := offS B w.heap.size Q0 u4) (grown_of_below hb8 none) (fun b _ hb => ⟨hb.elim id fun e => by subst e; exact ⟨⟨.inr (by omega), fun e => by have := hlR b e.symm; omega⟩, by omega⟩, by simp⟩)
        have hb68 := below_next hb8 ha6
        have hcs8 := hcs6.go (S' := offS B w.heap.size Q0 u4) (grown_of_below hb68 none) (fun b _ hb => ⟨hb, by simp⟩)
        have hown8 := hown6.kept (grown_of_below hb68 none) (Classical.em _)
        have hB8 := hB6.below hb68
        have pr8 := pr6.later (hb68.mono (by omega))
        have hbw8 := hbw6.trans (hb68.mono (by omega))
        have hl8 := hb68.size
        have hend2 : ∀ w9, w8.grownBy w9 (some Q0) → w.heap.size ≤ w9.heap.size ∧ w9.ownsRow w.heap.size 40 12 u4 k cs ∧ CS (offS B w.heap.size Q0 u4) w9 (cs ++ stcells 5 ⟨#[]⟩ (xcells 0 0 ⟨#[]⟩ none 0 0) (xcells 0 0 ⟨#[]⟩ none 0 0) (some ⟨R, 0, none⟩) 1 1 none 0 0) (k + 1) (dn ++ .cons 5 [] .bad .bad (.cons 4 nm.data.toList ea eb (St.calm body) (St.calm els) .nil) .nil .nil) ∧ PR B w9 (some ⟨g, o + (k + 1) * 12, none⟩) (n - k - 1) rest ∧ Below w.heap.size w w9 := fun w9 hg9 => by
          have hl9 := hg9.size
          have ne : ∀ b, offS B w.heap.size Q0 u4 b → some b ≠ some Q0 := fun b hb e => by injection e with e; exact hb.2 e
          have in9 := in8.go (S' := offS B w.heap.size Q0 u4) hg9 (fun b _ hb => ⟨hb, ne b hb⟩)
          have hcs9 := hcs8.go (S' := offS B w.heap.size Q0 u4) hg9 (fun b _ hb => ⟨hb, ne b hb⟩)
          exact ⟨by omega, hown8.kept hg9 (.inr fun e => by have := hol Q0 e; omega), hcs9.append (CS.one ⟨Nat.le_refl _, by decide, Nat.le_refl _, Nat.zero_le _⟩ (XS.of (xbad w9) (Nat.zero_le _) (fun b hb => absurd hb (Nat.not_lt_zero b))) (XS.of (xbad w9) (Nat.zero_le _) (fun b hb => absurd hb (Nat.not_lt_zero b))) in9 (PR.nil _)), pr8.later (below_of_grown hg9 (by omega) (by omega)), hbw8.trans (below_of_grown hg9 (by omega) hqw)⟩
        have h1 := stcells_one 5 ⟨#[]⟩ 0 0 ⟨#[]⟩ none 0 0 0 0 ⟨#[]⟩ none 0 0 (some ⟨R, 0, none⟩) 1 1 none 0 0
        have H1 := Lib.hid h1
        have HR := Lib.hid hR
        clear h1 hR hcs6 hone6 hown6 pr6 hbw6 p6 in7 in8 hcs8 hown8 hB6 pr8 hbw8 hl8 hb68 hb8 ha6 hz6 hlR d0
        simp only [xzeros, stcells, xcells, List.cons_append, List.nil_append]
        go_wp2_with (first | (refine wpl_put_blk hB8 [.int .i64 5, .string ⟨#[]⟩, .int .i64 0, .int .i64 0, .string ⟨#[]⟩, .slice none 0 0, .int .i64 0, .int .i64 0, .string ⟨#[]⟩, .slice none 0 0, .slice (some ⟨R, 0, none⟩) 1 1, .slice none 0 0] (by kernel_rfl) rfl H1.out rfl rfl rfl rfl ?_; intro w9 hB9 hg9; obtain ⟨hl9, hown9, hcs9, pr9, hbw9⟩ := hend2 w9 hg9; clear hend2 hB8 hg9) | (refine wpl_get_blk (ty := 40) hB9 (by kernel_rfl) (by kernel_rfl) rfl rfl rfl ?_) | (at_builtin; refine wp_push w9 _ _ w.heap.size _ _ _ _ _ Tryd.underlying34 info_stmt rfl (by decide) hown9 [.int .i64 5, .string ⟨#[]⟩, .int .i64 0, .int .i64 0, .string ⟨#[]⟩, .slice none 0 0, .int .i64 0, .int .i64 0, .string ⟨#[]⟩, .slice none 0 0, .slice (some ⟨R, 0, none⟩) 1 1, .slice none 0 0] rfl H1.out n63 n47 hl9 rfl rfl rfl rfl ?_; intro v7 w7 hown7 hg7 hv7 hb7; clear hB9))
        have hcs7 := hcs9.row (S' := fun b => b < B ∨ w.heap.size ≤ b) hown9 hg7 (hv7.imp id fun e => ⟨_, Nat.le_succ _, e⟩) (fun b _ hb => hb.1)
        have pr7 := pr9.later (hb7.mono hB)
        have hb7' := hbw9.trans hb7
        have HP := Lib.hid (show (dn ++ .cons 5 [] .bad .bad (.cons 4 nm.data.toList ea eb (St.calm body) (St.calm els) .nil) .nil .nil) ++ St.calm rest = St.calm p by
          rw [← HQ.out.2.2.2.2, St.P.append_assoc, St.P.cons_append, St.P.nil_append]
          first | done | (congr 1 <;> simp [St.calm]))
        clear hcs9 hown9 hg7 hv7 hb7 pr9 hbw9
        go_roundw
        case rel => exact ⟨k + 1, rest, _, _, by omega, by go_num, hown7, hcs7, by rw [show n - (k + 1) = n - k - 1 by omega]; exact pr7, hb7', HQ.out.2.2.1.2.2, HP.out⟩
        case measure => simp [intOf]; omega
      · have k4 : (kd == 4) = false := by simpa using k4
        obtain ⟨Q0, hQ0⟩ : ∃ Q0, Q0 = wr.heap.size := ⟨_, rfl⟩
        have hB0 := Blk.new wr 40 [.int .i64 kd, .string nm, .int .i64 ak, .int .i64 an, .string sa, .slice aA al ac, .int .i64 bk, .int .i64 bn, .string sb, .slice bA bl bc, .slice D dl dc, .slice E el ec]
        have hbW : Below wr.heap.size wr (wr.alloc (.cells ([.int .i64 kd, .string nm, .int .i64 ak, .int .i64 an, .string sa, .slice aA al ac, .int .i64 bk, .int .i64 bn, .string sb, .slice bA bl bc, .slice D dl dc, .slice E el ec] : List Value).toArray 40)) := below_alloc (Below.refl _ _) _
        have hzW : (wr.alloc (.cells ([.int .i64 kd, .string nm, .int .i64 ak, .int .i64 an, .string sa, .slice aA al ac, .int .i64 bk, .int .i64 bn, .string sb, .slice bA bl bc, .slice D dl dc, .slice E el ec] : List Value).toArray 40)).heap.size = wr.heap.size + 1 := by simp
        rw [← hQ0] at hB0 hzW
        go_wp2_with fail
        rw [← hQ0]
        generalize (wr.alloc (.cells ([.int .i64 kd, .string nm, .int .i64 ak, .int .i64 an, .string sa, .slice aA al ac, .int .i64 bk, .int .i64 bn, .string sb, .slice bA bl bc, .slice D dl dc, .slice E el ec] : List Value).toArray 40)) = W at hB0 hbW hzW ⊢
        have hcsW := hcs.go (S' := fun b => ((b < B ∨ w.heap.size ≤ b) ∧ some b ≠ u4.ownBlock) ∧ b ≠ Q0) (grown_of_below hbW none) (fun b hl hb => ⟨⟨hb, by omega⟩, by simp⟩)
        have hownW := hown.kept (grown_of_below hbW none) (by rcases hown.2 with ⟨rfl, _⟩ | ⟨g', _, _, rfl, _⟩ <;> simp [Value.ownBlock])
        have hbB := hbW.mono hBr
        have xaW := xa.later hbB
        have xbW := xb.later hbB
        have pbW := pb.later hbB
        have peW := pe.later hbB
        have prW := pr.later hbB
        have hclW := (hbW.cell (p := ⟨cb, 0, none⟩) hcbr).trans hcl
        have hcbW : cb < W.heap.size := Nat.lt_of_lt_of_le hcbr hbW.size
        have hbw := below_next hbW hb
        have hBW : B ≤ W.heap.size := Nat.le_trans hBr hbW.size
        have hol : ∀ gg, u4.ownBlock = some gg → w.heap.size ≤ gg ∧ gg < Q0 := fun gg e => by rw [hQ0]; exact hown.lt gg e
        have hqw : w.heap.size ≤ Q0 := by rw [hQ0]; exact hb.size
        have gB : ∀ (w' : World), Below W.heap.size W w' → Calls Tryd.prog 20 #[.slice D dl dc, .pointer (some ⟨cb, 0, none⟩)] w' fun e w'' => ∃ v, e = .returned v ∧ SP (newS B W.heap.size) w'' v (St.calm body) ∧ Below w'.heap.size w' w'' := fun w' hb' =>
          (ih body hs.1 w' B dl dc cb D (Nat.le_trans hBW hb'.size) (Nat.lt_of_lt_of_le hcbW hb'.size) ((hb'.cell (p := ⟨cb, 0, none⟩) hcbW).trans hclW) (pbW.later (hb'.mono hBW)) hd1 hd2 (by omega)).mono fun e w'' ⟨v, h1, h2, h3⟩ => ⟨v, h1, h2.go (World.grownBy.refl w'' none) fun b _ hb => ⟨hb.imp id fun h => Nat.le_trans hb'.size h, by simp⟩, h3⟩
        have gE : ∀ (w' : World), Below W.heap.size W w' → Calls Tryd.prog 20 #[.slice E el ec, .pointer (some ⟨cb, 0, none⟩)] w' fun e w'' => ∃ v, e = .returned v ∧ SP (newS B W.heap.size) w'' v (St.calm els) ∧ Below w'.heap.size w' w'' := fun w' hb' =>
          (ih els (by first | exact hs.2.1 | (simp only [St.P.size]; omega)) w' B _ _ cb _ (Nat.le_trans hBW hb'.size) (Nat.lt_of_lt_of_le hcbW hb'.size) ((hb'.cell (p := ⟨cb, 0, none⟩) hcbW).trans hclW) (by first | exact peW.later (hb'.mono hBW) | exact .nil _) (by first | exact he1 | decide) (by first | exact he2 | decide) (by first | omega | (simp only [St.P.size]; omega))).mono fun e w'' ⟨v, h1, h2, h3⟩ => ⟨v, h1, h2.go (World.grownBy.refl w'' none) fun b _ hb => ⟨hb.imp id fun h => Nat.le_trans hb'.size h, by simp⟩, h3⟩
        have keepS : ∀ w', Below W.heap.size W w' → (Below W.heap.size W w' ∧ w'.cell? ⟨Q0, 10, none⟩ = some (.slice D dl dc) ∧ w'.cell? ⟨Q0, 11, none⟩ = some (.slice E el ec) ∧ w'.cell? ⟨cb, 0, none⟩ = some (clo cb)) := fun w' hb => ⟨hb, ((hB0.below hb).cell 10).trans rfl, ((hB0.below hb).cell 11).trans rfl, (hb.cell (p := ⟨cb, 0, none⟩) hcbW).trans hclW⟩
        have hS0 := keepS _ (below_drew (Below.refl _ _))
        have HQ := Lib.hid (And.intro hQ0 (And.intro hzW (And.intro hs hqs)))
        clear hcl hcbr hQ0 hzW hs hqs pb pe pr xa xb pbW peW hown hcs hb hbW hbB ih c0 c1 c2 c3 c4 c5 c6 c7 c8 c9 c10 c11
        refine wp_walk_tail 9 (by kernel_rfl) (by kernel_rfl) (fun w w' => Below w.heap.size w w') (fun w' => (Below W.heap.size W w' ∧ w'.cell? ⟨Q0, 10, none⟩ = some (.slice D dl dc) ∧ w'.cell? ⟨Q0, 11, none⟩ = some (.slice E el ec) ∧ w'.cell? ⟨cb, 0, none⟩ = some (clo cb))) hS0 ?_
        simp only [List.length_cons, List.length_nil, Nat.reduceAdd, Nat.reduceSub, List.take_succ_cons, List.take_zero, List.drop_succ_cons, List.drop_zero]
        repeat (first | (refine settle_skip (fun _ => by rfl) ?_; (simp only [Act.put, List.setIfInBounds_toArray, List.set_cons_zero, List.set_cons_succ])) | (refine' settle_run (fun _ _ => Below.refl _ _) (fun _ => by rfl) ?_ ?_; rotate_left; (focus (intro ρ w hS hF; (try dsimp only at hS); go_split_ands; go_simp; try with_reducible rfl)); (simp only [Act.put, List.setIfInBounds_toArray, List.set_cons_zero, List.set_cons_succ])))
        (refine settle_known (FSP (newS B W.heap.size) (St.calm body)) (by rfl) (fun _ => by rfl)  ?_ ?_; (focus (intro ρ w hS hF K hK; (simp only [Act.put, List.setIfInBounds_toArray, List.set_cons_zero, List.set_cons_succ] at hK); go_simp; (refine (gB _ hS.1).mono ?_; rintro e w' ⟨v, rfl, hF', hb'⟩; exact hK _ _ hF' (keepS _ (below_next hb' hS.1)) hb'))); (simp only [Act.put, List.setIfInBounds_toArray, List.set_cons_zero, List.set_cons_succ]))
        repeat (first | (refine settle_skip (fun _ => by rfl) ?_; (simp only [Act.put, List.setIfInBounds_toArray, List.set_cons_zero, List.set_cons_succ])) | (refine' settle_run (fun _ _ => Below.refl _ _) (fun _ => by rfl) ?_ ?_; rotate_left; (focus (intro ρ w hS hF; (try dsimp only at hS); go_split_ands; go_simp; try with_reducible rfl)); (simp only [Act.put, List.setIfInBounds_toArray, List.set_cons_zero, List.set_cons_succ])))
        (refine settle_known (FSP (newS B W.heap.size) (St.calm els)) (by rfl) (fun _ => by rfl)  ?_ ?_; (focus (intro ρ w hS hF K hK; (simp only [Act.put, List.setIfInBounds_toArray, List.set_cons_zero, List.set_cons_succ] at hK); go_simp; (refine (gE _ hS.1).mono ?_; rintro e w' ⟨v, rfl, hF', hb'⟩; exact hK _ _ hF' (keepS _ (below_next hb' hS.1)) hb'))); (simp only [Act.put, List.setIfInBounds_toArray, List.set_cons_zero, List.set_cons_succ]))
        repeat (first | (refine settle_skip (fun _ => by rfl) ?_; (simp only [Act.put, List.setIfInBounds_toArray, List.set_cons_zero, List.set_cons_succ])) | (refine' settle_run (fun _ _ => Below.refl _ _) (fun _ => by rfl) ?_ ?_; rotate_left; (focus (intro ρ w hS hF; (try dsimp only at hS); go_split_ands; go_simp; try with_reducible rfl)); (simp only [Act.put, List.setIfInBounds_toArray, List.set_cons_zero, List.set_cons_succ])))
        refine settle_nil ?_
        intro ρ w4 hS hF
        have hu1 : SP (newS B W.heap.size) w4 (ρ 16) (St.calm body) := hF 16 (FSP (newS B W.heap.size) (St.calm body)) (by repeat (first | exact List.mem_cons_self | apply List.mem_cons_of_mem))
        have hu2 : SP (newS B W.heap.size) w4 (ρ 20) (St.calm els) := hF 20 (FSP (newS B W.heap.size) (St.calm els)) (by repeat (first | exact List.mem_cons_self | apply List.mem_cons_of_mem))
        have hb4 := hS.1
        clear hF hS hS0 keepS gB gE
        dsimp only
        generalize ρ 16 = U1 at hu1 ⊢
        generalize ρ 20 = U2 at hu2 ⊢
        obtain ⟨D1, m1, k1, rfl, f1, f1', s1⟩ := hu1
        obtain ⟨D2, m2, k2, rfl, f2, f2', s2⟩ := hu2
        have hB4 := hB0.below hb4
        have hown4 := hownW.kept (grown_of_below hb4 none) (by rcases hownW.2 with ⟨rfl, _⟩ | ⟨g', _, _, rfl, _⟩ <;> simp [Value.ownBlock])
        have hl4 := hb4.size
        have hWq : W.heap.size = Q0 + 1 := HQ.out.2.1
        clear hB0 hownW
        refine wpl_set_blk hB4 10 (.slice D1 m1 k1) (by kernel_rfl) (by simp) rfl rfl rfl rfl rfl rfl ?_
        intro w5 hB5 hg5
        have hend : ∀ w6, w5.grownBy w6 (some Q0) → w.heap.size ≤ w6.heap.size ∧ Q0 < w6.heap.size ∧ w6.ownsRow w.heap.size 40 12 u4 k cs ∧ CS (offS B w.heap.size Q0 u4) w6 cs k dn ∧ CS (offS B w.heap.size Q0 u4) w6 (stcells kd nm (xcells ak an sa aA al ac) (xcells bk bn sb bA bl bc) D1 m1 k1 D2 m2 k2) 1 (.cons kd nm.data.toList ea eb (St.calm body) (St.calm els) .nil) ∧ PR B w6 (some ⟨g, o + (k + 1) * 12, none⟩) (n - k - 1) rest ∧ Below w.heap.size w w6 := fun w6 hg6 => by
          have hl5 := hg5.size
          have hl6 := hg6.size
          have gw : w4.grownBy w6 (some Q0) := grown_trans hg5 hg6
          have s1' := s1.go (S' := offS B w.heap.size Q0 u4) gw (fun b _ hb => by
            unfold newS at hb
            exact ⟨⟨⟨by omega, fun e => by have := hol b e.symm; omega⟩, by omega⟩, fun e => by injection e with e; omega⟩)
          have s2' := s2.go (S' := offS B w.heap.size Q0 u4) gw (fun b _ hb => by
            unfold newS at hb
            exact ⟨⟨⟨by omega, fun e => by have := hol b e.symm; omega⟩, by omega⟩, fun e => by injection e with e; omega⟩)
          have hbB4 : Below B W w4 := hb4.mono hBW
          have hbB6 : Below B W w6 := hbB4.trans (below_of_grown gw (by omega) (by omega))
          have hbw6 : Below w.heap.size w w6 := (hbw.trans (hb4.mono hbw.size)).trans (below_of_grown gw (by omega) (by omega))
          have hcs6 := hcsW.go (S' := offS B w.heap.size Q0 u4) (grown_trans (grown_of_below hb4 (some Q0)) gw) (fun b _ hb => ⟨hb, fun e => by injection e with e; exact hb.2 e⟩)
          have hSB : ∀ b, b < B → offS B w.heap.size Q0 u4 b := fun b hb => ⟨⟨.inl hb, fun e => by have := hol b e.symm; omega⟩, by omega⟩
          refine ⟨by omega, by omega, hown4.kept gw (.inr fun e => by have := hol Q0 e; omega), hcs6, CS.one ⟨f1, f1', f2, f2'⟩ (XS.of (xaW.later hbB6) (by omega) hSB) (XS.of (xbW.later hbB6) (by omega) hSB) s1' s2', prW.later hbB6, hbw6⟩
        have n63 : k + 1 ≤ maxLen := by unfold maxLen; omega
        have n47 : (k + 1) * 184 ≤ 140737488355328 := by omega
        clear hcsW xaW xbW prW hbw hB4 hown4 s1 s2 f1 f1' f2 f2' hWq hclW
        have HK4 := Lib.hid (show ¬ kd = 4 by simpa using k4)
        go_wp2_with (first | (refine wpl_set_blk hB5 11 (.slice D2 m2 k2) (by kernel_rfl) (by simp) rfl rfl rfl rfl rfl rfl ?_; intro w6 hB6 hg6; simp only [List.set_cons_succ, List.set_cons_zero] at hB6; obtain ⟨hl6, hq6, hown6, hcs6, hone6, pr6, hbw6⟩ := hend w6 hg6; have d0 : w6.cell? ⟨Q0, 0, none⟩ = some (.int .i64 kd) := (hB6.cell 0).trans rfl; clear hend hB5 hg5 hg6 hb4 hl4 hol) | (refine wpl_get_blk (ty := 40) hB6 (by kernel_rfl) (by kernel_rfl) rfl rfl rfl ?_) | (at_builtin; refine wp_push w6 _ _ w.heap.size _ _ _ _ _ Tryd.underlying34 info_stmt rfl (by decide) hown6 [.int .i64 kd, .string nm, .int .i64 ak, .int .i64 an, .string sa, .slice aA al ac, .int .i64 bk, .int .i64 bn, .string sb, .slice bA bl bc, .slice D1 m1 k1, .slice D2 m2 k2] rfl (stcells_one _ _ _ _ _ _ _ _ _ _ _ _ _ _ _ _ _ _ _ _) n63 n47 hl6 rfl rfl rfl rfl ?_; intro v7 w7 hown7 hg7 hv7 hb7; clear hB6))
        have hcs7 := (hcs6.append hone6).row (S' := fun b => b < B ∨ w.heap.size ≤ b) hown6 hg7 (hv7.imp id fun e => ⟨_, Nat.le_succ _, e⟩) (fun b _ hb => hb.1)
        have pr7 := pr6.later (hb7.mono hB)
        have hb7' := hbw6.trans hb7
        have HP := Lib.hid (show (dn ++ .cons kd nm.data.toList ea eb (St.calm body) (St.calm els) .nil) ++ St.calm rest = St.calm p by
          rw [← HQ.out.2.2.2.2, St.P.append_assoc, St.P.cons_append, St.P.nil_append]
          first | done | (congr 1 <;> simp [St.calm, HK4.out]))
        clear hcs6 hown6 hg7 hv7 hb7 pr6 hbw6 d0 hone6
        go_roundw
        case rel => exact ⟨k + 1, rest, _, _, by omega, by go_num, hown7, hcs7, by rw [show n - (k + 1) = n - k - 1 by omega]; exact pr7, hb7', HQ.out.2.2.1.2.2, HP.out⟩
        case measure => simp [intOf]; omega
    · have HK := Lib.hid (show k = n by omega)
      clear hcl
      go_wp2
      go_ret
      have hq0 := hq
      rw [HK.out, Nat.sub_self] at hq0
      have hq' := hq0.zero
      subst hq'
      refine ⟨_, rfl, ?_, hb⟩
      rw [← hqs.2, St.calm, St.P.append_nil]
      refine (SP.of_own hcs hown).go (World.grownBy.refl wr none) fun b _ hb => ⟨?_, by simp⟩
      rcases hb with hb | hb
      · exact hb.1
      · exact .inr (hown.lt b hb.symm).1
theorem calm_any (p : St.P) : CalmOK p := by
  suffices h : ∀ n, ∀ q : St.P, q.size ≤ n → CalmOK q from h _ p (Nat.le_refl _)
  intro n
  induction n with
  | zero => exact fun q hq => calm_step q fun r hr => by omega
  | succ n ih => exact fun q hq => calm_step q fun r hr => ih r (by omega)
end Go.Proofs.YtniekhedpdkmiaaDoor
