/-
  serial.Plain, walked.
-/
import Derived.Test.YtajddbmmbhdnfaaSrX

namespace Go.Proofs.Ytajddbmmbhdnfaa
set_option linter.unusedVariables false
set_option linter.unusedSimpArgs false
set_option maxRecDepth 100000
open Go.RowKit


/-- what was there, and what is new -/
def newS (B H : Nat) (b : Nat) : Prop := b < B ∨ H ≤ b
theorem plain_kinds (k : Int) : k = 4 ∨ k = 5 ∨ ((k == 4) = false ∧ (k == 5) = false) := by
  by_cases h4 : k = 4; · exact .inl h4
  by_cases h5 : k = 5; · exact .inr (.inl h5)
  exact .inr (.inr (by simp [h4, h5]))

def FSP (S : Nat → Prop) (p : St.P) : Fact (fun w w' => Below w.heap.size w w') := ⟨fun v w => SP S w v p, fun _ _ _ h k => h.go (grown_of_below k none) fun _ _ hb => ⟨hb, by simp⟩⟩

def PlainOK (p : St.P) : Prop := ∀ (w : World) (B n c : Nat) (A : Option Addr), B ≤ w.heap.size → PR B w A n p → n ≤ c → c ≤ maxLen → p.size ≤ 274877906944 →
  Calls Try.prog 23 #[.slice A n c] w fun e w' => ∃ u, e = .returned u ∧ SP (newS B w.heap.size) w' u (St.plain p) ∧ Below w.heap.size w w'

set_option maxHeartbeats 4000000 in
theorem plain_step (p : St.P) (ih : ∀ q : St.P, q.size < p.size → PlainOK q) : PlainOK p := by
  intro w B n c A hB hp hnc hcm hsz
  obtain ⟨g, o, hA, hpl⟩ := hp.place
  have hnp : n ≤ 274877906944 := by have := hp.length; have := p.length_le; omega
  go_enter Try.func23, Try.ntmps23
  go_wp2
  go_loopw [3, 8] (fun out i wr => ∃ (k : Nat) (q dn : St.P) (cs : List Value), k ≤ n ∧ i = .int .i64 (k : Int) ∧ wr.ownsRow w.heap.size 66 12 out k cs ∧ CS (fun b => (b < B ∨ w.heap.size ≤ b) ∧ some b ≠ out.ownBlock) wr cs k dn ∧ PR B wr (some ⟨g, o + k * 12, none⟩) (n - k) q ∧ Below w.heap.size w wr ∧ (q.size ≤ p.size ∧ dn ++ St.plain q = St.plain p)) (fun out i _ => n - (intOf i).toNat)
  case atStart => exact ⟨0, p, .nil, [], Nat.zero_le _, rfl, World.ownsRow_nil _ _ _ _, CS.nil, hpl, Below.refl _ _, Nat.le_refl _, rfl⟩
  case round =>
    obtain ⟨k, q, dn, cs, hk, rfl, hown, hcs, hq, hb, hqs⟩ := hrel
    by_cases hlt : k < n
    · obtain ⟨kd, nm, ak, an, bk, bn, sa, sb, aA, bA, al, ac, bl, bc, ea, eb, D, dl, dc, E, el, ec, body, els, rest, rfl, hg, ⟨hd1, hd2, he1, he2⟩, hcell, xa, xb, pb, pe, pr⟩ := hq.next (by omega)
      have hAA := hA (by omega)
      subst hAA
      have c0 : wr.cell? ⟨g, o + k * 12, none⟩ = some (.int .i64 kd) := hcell 0 _ rfl
      have c1 := hcell 1 _ rfl
      have c2 := hcell 2 _ rfl
      have c3 := hcell 3 _ rfl
      have c4 := hcell 4 _ rfl
      have c5 := hcell 5 _ rfl
      have c6 := hcell 6 _ rfl
      have c7 := hcell 7 _ rfl
      have c8 := hcell 8 _ rfl
      have c9 := hcell 9 _ rfl
      have c10 := hcell 10 _ rfl
      have c11 := hcell 11 _ rfl
      have hb0 := hb
      have hBr : B ≤ wr.heap.size := Nat.le_trans hB hb.size
      have hs : body.size < p.size ∧ els.size < p.size ∧ rest.size ≤ p.size := by rw [St.P.size] at hqs; omega
      clear hcell hq hpl hp
      rcases plain_kinds kd with rfl | rfl | ⟨k4, k5⟩
      · obtain ⟨Q0, hQ0⟩ : ∃ Q0, Q0 = wr.heap.size := ⟨_, rfl⟩
        have hB0 := Blk.new wr 66 [.int .i64 6, .string ⟨#[]⟩, .int .i64 1, .int .i64 1, .string ⟨#[]⟩, .slice none 0 0, .int .i64 0, .int .i64 0, .string ⟨#[]⟩, .slice none 0 0, .slice D dl dc, .slice none 0 0]
        have hbW : Below wr.heap.size wr (wr.alloc (.cells ([.int .i64 6, .string ⟨#[]⟩, .int .i64 1, .int .i64 1, .string ⟨#[]⟩, .slice none 0 0, .int .i64 0, .int .i64 0, .string ⟨#[]⟩, .slice none 0 0, .slice D dl dc, .slice none 0 0] : List Value).toArray 66)) := below_alloc (Below.refl _ _) _
        have hzW : (wr.alloc (.cells ([.int .i64 6, .string ⟨#[]⟩, .int .i64 1, .int .i64 1, .string ⟨#[]⟩, .slice none 0 0, .int .i64 0, .int .i64 0, .string ⟨#[]⟩, .slice none 0 0, .slice D dl dc, .slice none 0 0] : List Value).toArray 66)).heap.size = wr.heap.size + 1 := by simp
        rw [← hQ0] at hB0 hzW
        go_wp2_with fail
        rw [← hQ0]
        generalize (wr.alloc (.cells ([.int .i64 6, .string ⟨#[]⟩, .int .i64 1, .int .i64 1, .string ⟨#[]⟩, .slice none 0 0, .int .i64 0, .int .i64 0, .string ⟨#[]⟩, .slice none 0 0, .slice D dl dc, .slice none 0 0] : List Value).toArray 66)) = W at hB0 hbW hzW ⊢
        have hcsW := hcs.go (S' := fun b => ((b < B ∨ w.heap.size ≤ b) ∧ some b ≠ u3.ownBlock) ∧ b ≠ Q0) (grown_of_below hbW none) (fun b hl hb => ⟨⟨hb, by omega⟩, by simp⟩)
        have hownW := hown.kept (grown_of_below hbW none) (by rcases hown.2 with ⟨rfl, _⟩ | ⟨g', _, _, rfl, _⟩ <;> simp [Value.ownBlock])
        have hbB := hbW.mono hBr
        have xaW := xa.later hbB
        have xbW := xb.later hbB
        have pbW := pb.later hbB
        have peW := pe.later hbB
        have prW := pr.later hbB
        have hbw := below_next hbW hb
        have hBW : B ≤ W.heap.size := Nat.le_trans hBr hbW.size
        have hol : ∀ gg, u3.ownBlock = some gg → w.heap.size ≤ gg ∧ gg < Q0 := fun gg e => by rw [hQ0]; exact hown.lt gg e
        have hqw : w.heap.size ≤ Q0 := by rw [hQ0]; exact hb.size
        have gB : ∀ (w' : World), Below W.heap.size W w' → Calls Try.prog 23 #[.slice D dl dc] w' fun e w'' => ∃ v, e = .returned v ∧ SP (newS B W.heap.size) w'' v (St.plain body) ∧ Below w'.heap.size w' w'' := fun w' hb' =>
          (ih body hs.1 w' B dl dc D (Nat.le_trans hBW hb'.size) (pbW.later (hb'.mono hBW)) hd1 hd2 (by omega)).mono fun e w'' ⟨v, h1, h2, h3⟩ => ⟨v, h1, h2.go (World.grownBy.refl w'' none) fun b _ hb => ⟨hb.imp id fun h => Nat.le_trans hb'.size h, by simp⟩, h3⟩
        have gE : ∀ (w' : World), Below W.heap.size W w' → Calls Try.prog 23 #[.slice none 0 0] w' fun e w'' => ∃ v, e = .returned v ∧ SP (newS B W.heap.size) w'' v (St.plain St.P.nil) ∧ Below w'.heap.size w' w'' := fun w' hb' =>
          (ih St.P.nil (by first | exact hs.2.1 | (simp only [St.P.size]; omega)) w' B _ _ _ (Nat.le_trans hBW hb'.size) (by first | exact peW.later (hb'.mono hBW) | exact .nil _) (by first | exact he1 | decide) (by first | exact he2 | decide) (by first | omega | (simp only [St.P.size]; omega))).mono fun e w'' ⟨v, h1, h2, h3⟩ => ⟨v, h1, h2.go (World.grownBy.refl w'' none) fun b _ hb => ⟨hb.imp id fun h => Nat.le_trans hb'.size h, by simp⟩, h3⟩
        have keepS : ∀ w', Below W.heap.size W w' → (Below W.heap.size W w' ∧ w'.cell? ⟨Q0, 10, none⟩ = some (.slice D dl dc) ∧ w'.cell? ⟨Q0, 11, none⟩ = some (.slice none 0 0)) := fun w' hb => ⟨hb, ((hB0.below hb).cell 10).trans rfl, ((hB0.below hb).cell 11).trans rfl⟩
        have hS0 := keepS _ (below_drew (Below.refl _ _))
        have HQ := Lib.hid (And.intro hQ0 (And.intro hzW (And.intro hs hqs)))
        clear hQ0 hzW hs hqs pb pe pr xa xb pbW peW hown hcs hb hbW hbB ih c0 c1 c2 c3 c4 c5 c6 c7 c8 c9 c10 c11
        refine wp_walk_tail 7 (by kernel_rfl) (by kernel_rfl) (fun w w' => Below w.heap.size w w') (fun w' => (Below W.heap.size W w' ∧ w'.cell? ⟨Q0, 10, none⟩ = some (.slice D dl dc) ∧ w'.cell? ⟨Q0, 11, none⟩ = some (.slice none 0 0))) hS0 ?_
        simp only [List.length_cons, List.length_nil, Nat.reduceAdd, Nat.reduceSub, List.take_succ_cons, List.take_zero, List.drop_succ_cons, List.drop_zero]
        repeat (first | (refine settle_skip (fun _ => by rfl) ?_; (simp only [Act.put, List.setIfInBounds_toArray, List.set_cons_zero, List.set_cons_succ])) | (refine' settle_run (fun _ _ => Below.refl _ _) (fun _ => by rfl) ?_ ?_; rotate_left; (focus (intro ρ w hS hF; (try dsimp only at hS); go_split_ands; go_simp; try with_reducible rfl)); (simp only [Act.put, List.setIfInBounds_toArray, List.set_cons_zero, List.set_cons_succ])))
        (refine settle_known (FSP (newS B W.heap.size) (St.plain body)) (by rfl) (fun _ => by rfl)  ?_ ?_; (focus (intro ρ w hS hF K hK; (simp only [Act.put, List.setIfInBounds_toArray, List.set_cons_zero, List.set_cons_succ] at hK); go_simp; (refine (gB _ hS.1).mono ?_; rintro e w' ⟨v, rfl, hF', hb'⟩; exact hK _ _ hF' (keepS _ (below_next hb' hS.1)) hb'))); (simp only [Act.put, List.setIfInBounds_toArray, List.set_cons_zero, List.set_cons_succ]))
        repeat (first | (refine settle_skip (fun _ => by rfl) ?_; (simp only [Act.put, List.setIfInBounds_toArray, List.set_cons_zero, List.set_cons_succ])) | (refine' settle_run (fun _ _ => Below.refl _ _) (fun _ => by rfl) ?_ ?_; rotate_left; (focus (intro ρ w hS hF; (try dsimp only at hS); go_split_ands; go_simp; try with_reducible rfl)); (simp only [Act.put, List.setIfInBounds_toArray, List.set_cons_zero, List.set_cons_succ])))
        (refine settle_known (FSP (newS B W.heap.size) (St.plain St.P.nil)) (by rfl) (fun _ => by rfl)  ?_ ?_; (focus (intro ρ w hS hF K hK; (simp only [Act.put, List.setIfInBounds_toArray, List.set_cons_zero, List.set_cons_succ] at hK); go_simp; (refine (gE _ hS.1).mono ?_; rintro e w' ⟨v, rfl, hF', hb'⟩; exact hK _ _ hF' (keepS _ (below_next hb' hS.1)) hb'))); (simp only [Act.put, List.setIfInBounds_toArray, List.set_cons_zero, List.set_cons_succ]))
        repeat (first | (refine settle_skip (fun _ => by rfl) ?_; (simp only [Act.put, List.setIfInBounds_toArray, List.set_cons_zero, List.set_cons_succ])) | (refine' settle_run (fun _ _ => Below.refl _ _) (fun _ => by rfl) ?_ ?_; rotate_left; (focus (intro ρ w hS hF; (try dsimp only at hS); go_split_ands; go_simp; try with_reducible rfl)); (simp only [Act.put, List.setIfInBounds_toArray, List.set_cons_zero, List.set_cons_succ])))
        refine settle_nil ?_
        intro ρ w4 hS hF
        have hu1 : SP (newS B W.heap.size) w4 (ρ 26) (St.plain body) := hF 26 (FSP (newS B W.heap.size) (St.plain body)) (by repeat (first | exact List.mem_cons_self | apply List.mem_cons_of_mem))
        have hu2 : SP (newS B W.heap.size) w4 (ρ 29) (St.plain St.P.nil) := hF 29 (FSP (newS B W.heap.size) (St.plain St.P.nil)) (by repeat (first | exact List.mem_cons_self | apply List.mem_cons_of_mem))
        have hb4 := hS.1
        clear hF hS hS0 keepS gB gE
        dsimp only
        generalize ρ 26 = U1 at hu1 ⊢
        generalize ρ 29 = U2 at hu2 ⊢
        obtain ⟨D1, m1, k1, rfl, f1, f1', s1⟩ := hu1
        obtain ⟨D2, m2, k2, rfl, f2, f2', s2⟩ := hu2
        have hB4 := hB0.below hb4
        have hown4 := hownW.kept (grown_of_below hb4 none) (by rcases hownW.2 with ⟨rfl, _⟩ | ⟨g', _, _, rfl, _⟩ <;> simp [Value.ownBlock])
        have hl4 := hb4.size
        have hWq : W.heap.size = Q0 + 1 := HQ.out.2.1
        clear hB0 hownW
        refine wpl_set_blk hB4 10 (.slice D1 m1 k1) (by kernel_rfl) (by simp) rfl rfl rfl rfl rfl rfl ?_
        intro w5 hB5 hg5
        have hend : ∀ w6, w5.grownBy w6 (some Q0) → w.heap.size ≤ w6.heap.size ∧ w6.ownsRow w.heap.size 66 12 u3 k cs ∧ CS (fun b => (b < B ∨ w.heap.size ≤ b) ∧ some b ≠ u3.ownBlock) w6 (cs ++ stcells 6 ⟨#[]⟩ (xcells 1 1 ⟨#[]⟩ none 0 0) (xcells 0 0 ⟨#[]⟩ none 0 0) D1 m1 k1 D2 m2 k2) (k + 1) (dn ++ .cons 6 [] (.num 1) .bad (St.plain body) (St.plain St.P.nil) .nil) ∧ PR B w6 (some ⟨g, o + (k + 1) * 12, none⟩) (n - k - 1) rest ∧ Below w.heap.size w w6 := fun w6 hg6 => by
          have hl5 := hg5.size
          have hl6 := hg6.size
          have gw : w4.grownBy w6 (some Q0) := grown_trans hg5 hg6
          have s1' := s1.go (S' := fun b => (b < B ∨ w.heap.size ≤ b) ∧ some b ≠ u3.ownBlock) gw (fun b _ hb => by
            unfold newS at hb
            exact ⟨⟨by omega, fun e => by have := hol b e.symm; omega⟩, fun e => by injection e with e; omega⟩)
          have s2' := s2.go (S' := fun b => (b < B ∨ w.heap.size ≤ b) ∧ some b ≠ u3.ownBlock) gw (fun b _ hb => by
            unfold newS at hb
            exact ⟨⟨by omega, fun e => by have := hol b e.symm; omega⟩, fun e => by injection e with e; omega⟩)
          have hbB4 : Below B W w4 := hb4.mono hBW
          have hbB6 : Below B W w6 := hbB4.trans (below_of_grown gw (by omega) (by omega))
          have hbw6 : Below w.heap.size w w6 := (hbw.trans (hb4.mono hbw.size)).trans (below_of_grown gw (by omega) (by omega))
          have hcs6 := hcsW.go (S' := fun b => (b < B ∨ w.heap.size ≤ b) ∧ some b ≠ u3.ownBlock) (grown_trans (grown_of_below hb4 (some Q0)) gw) (fun b _ hb => ⟨hb.1, fun e => by injection e with e; exact hb.2 e⟩)
          have hSB : ∀ b, b < B → (b < B ∨ w.heap.size ≤ b) ∧ some b ≠ u3.ownBlock := fun b hb => ⟨.inl hb, fun e => by have := hol b e.symm; omega⟩
          refine ⟨by omega, hown4.kept gw (.inr fun e => by have := hol Q0 e; omega), hcs6.append (CS.one ⟨f1, f1', f2, f2'⟩ (XS.of (xnum w6 1 (by unfold Ex.rng; omega)) (Nat.zero_le _) (fun b hb => absurd hb (Nat.not_lt_zero b))) (XS.of (xbad w6) (Nat.zero_le _) (fun b hb => absurd hb (Nat.not_lt_zero b))) s1' s2'), prW.later hbB6, hbw6⟩
        have n63 : k + 1 ≤ maxLen := by unfold maxLen; omega
        have n47 : (k + 1) * 184 ≤ 140737488355328 := by omega
        clear hcsW xaW xbW prW hbw hB4 hown4 s1 s2 f1 f1' f2 f2' hWq
        go_wp2_with (first | (refine wpl_set_blk hB5 11 (.slice D2 m2 k2) (by kernel_rfl) (by simp) rfl rfl rfl rfl rfl rfl ?_; intro w6 hB6 hg6; simp only [List.set_cons_succ, List.set_cons_zero] at hB6; obtain ⟨hl6, hown6, hcs6, pr6, hbw6⟩ := hend w6 hg6; clear hend hB5 hg5 hg6 hb4 hl4 hol) | (refine wpl_get_blk (ty := 66) hB6 (by kernel_rfl) (by kernel_rfl) rfl rfl rfl ?_) | (at_builtin; refine wp_push w6 _ _ w.heap.size _ _ _ _ _ Try.underlying48 info_stmt rfl (by decide) hown6 [.int .i64 6, .string ⟨#[]⟩, .int .i64 1, .int .i64 1, .string ⟨#[]⟩, .slice none 0 0, .int .i64 0, .int .i64 0, .string ⟨#[]⟩, .slice none 0 0, .slice D1 m1 k1, .slice D2 m2 k2] rfl (stcells_one _ _ _ _ _ _ _ _ _ _ _ _ _ _ _ _ _ _ _ _) n63 n47 hl6 rfl rfl rfl rfl ?_; intro v7 w7 hown7 hg7 hv7 hb7; clear hB6))
        have hcs7 := hcs6.row (S' := fun b => b < B ∨ w.heap.size ≤ b) hown6 hg7 (hv7.imp id fun e => ⟨_, Nat.le_succ _, e⟩) (fun b _ hb => hb)
        have pr7 := pr6.later (hb7.mono hB)
        have hb7' := hbw6.trans hb7
        have HP := Lib.hid (show (dn ++ .cons 6 [] (.num 1) .bad (St.plain body) (St.plain St.P.nil) .nil) ++ St.plain rest = St.plain p by
          rw [← HQ.out.2.2.2.2, St.P.append_assoc, St.P.cons_append, St.P.nil_append]
          first | done | (congr 1 <;> simp [St.plain]))
        clear hcs6 hown6 hg7 hv7 hb7 pr6 hbw6
        go_roundw
        case rel => exact ⟨k + 1, rest, _, _, by omega, by go_num, hown7, hcs7, by rw [show n - (k + 1) = n - k - 1 by omega]; exact pr7, hb7', HQ.out.2.2.1.2.2, HP.out⟩
        case measure => simp [intOf]; omega
      · obtain ⟨Q0, hQ0⟩ : ∃ Q0, Q0 = wr.heap.size := ⟨_, rfl⟩
        have hB0 := Blk.new wr 66 [.int .i64 6, .string ⟨#[]⟩, .int .i64 1, .int .i64 1, .string ⟨#[]⟩, .slice none 0 0, .int .i64 0, .int .i64 0, .string ⟨#[]⟩, .slice none 0 0, .slice D dl dc, .slice none 0 0]
        have hbW : Below wr.heap.size wr (wr.alloc (.cells ([.int .i64 6, .string ⟨#[]⟩, .int .i64 1, .int .i64 1, .string ⟨#[]⟩, .slice none 0 0, .int .i64 0, .int .i64 0, .string ⟨#[]⟩, .slice none 0 0, .slice D dl dc, .slice none 0 0] : List Value).toArray 66)) := below_alloc (Below.refl _ _) _
        have hzW : (wr.alloc (.cells ([.int .i64 6, .string ⟨#[]⟩, .int .i64 1, .int .i64 1, .string ⟨#[]⟩, .slice none 0 0, .int .i64 0, .int .i64 0, .string ⟨#[]⟩, .slice none 0 0, .slice D dl dc, .slice none 0 0] : List Value).toArray 66)).heap.size = wr.heap.size + 1 := by simp
        rw [← hQ0] at hB0 hzW
        go_wp2_with fail
        rw [← hQ0]
        generalize (wr.alloc (.cells ([.int .i64 6, .string ⟨#[]⟩, .int .i64 1, .int .i64 1, .string ⟨#[]⟩, .slice none 0 0, .int .i64 0, .int .i64 0, .string ⟨#[]⟩, .slice none 0 0, .slice D dl dc, .slice none 0 0] : List Value).toArray 66)) = W at hB0 hbW hzW ⊢
        have hcsW := hcs.go (S' := fun b => ((b < B ∨ w.heap.size ≤ b) ∧ some b ≠ u3.ownBlock) ∧ b ≠ Q0) (grown_of_below hbW none) (fun b hl hb => ⟨⟨hb, by omega⟩, by simp⟩)
        have hownW := hown.kept (grown_of_below hbW none) (by rcases hown.2 with ⟨rfl, _⟩ | ⟨g', _, _, rfl, _⟩ <;> simp [Value.ownBlock])
        have hbB := hbW.mono hBr
        have xaW := xa.later hbB
        have xbW := xb.later hbB
        have pbW := pb.later hbB
        have peW := pe.later hbB
        have prW := pr.later hbB
        have hbw := below_next hbW hb
        have hBW : B ≤ W.heap.size := Nat.le_trans hBr hbW.size
        have hol : ∀ gg, u3.ownBlock = some gg → w.heap.size ≤ gg ∧ gg < Q0 := fun gg e => by rw [hQ0]; exact hown.lt gg e
        have hqw : w.heap.size ≤ Q0 := by rw [hQ0]; exact hb.size
        have gB : ∀ (w' : World), Below W.heap.size W w' → Calls Try.prog 23 #[.slice D dl dc] w' fun e w'' => ∃ v, e = .returned v ∧ SP (newS B W.heap.size) w'' v (St.plain body) ∧ Below w'.heap.size w' w'' := fun w' hb' =>
          (ih body hs.1 w' B dl dc D (Nat.le_trans hBW hb'.size) (pbW.later (hb'.mono hBW)) hd1 hd2 (by omega)).mono fun e w'' ⟨v, h1, h2, h3⟩ => ⟨v, h1, h2.go (World.grownBy.refl w'' none) fun b _ hb => ⟨hb.imp id fun h => Nat.le_trans hb'.size h, by simp⟩, h3⟩
        have gE : ∀ (w' : World), Below W.heap.size W w' → Calls Try.prog 23 #[.slice none 0 0] w' fun e w'' => ∃ v, e = .returned v ∧ SP (newS B W.heap.size) w'' v (St.plain St.P.nil) ∧ Below w'.heap.size w' w'' := fun w' hb' =>
          (ih St.P.nil (by first | exact hs.2.1 | (simp only [St.P.size]; omega)) w' B _ _ _ (Nat.le_trans hBW hb'.size) (by first | exact peW.later (hb'.mono hBW) | exact .nil _) (by first | exact he1 | decide) (by first | exact he2 | decide) (by first | omega | (simp only [St.P.size]; omega))).mono fun e w'' ⟨v, h1, h2, h3⟩ => ⟨v, h1, h2.go (World.grownBy.refl w'' none) fun b _ hb => ⟨hb.imp id fun h => Nat.le_trans hb'.size h, by simp⟩, h3⟩
        have keepS : ∀ w', Below W.heap.size W w' → (Below W.heap.size W w' ∧ w'.cell? ⟨Q0, 10, none⟩ = some (.slice D dl dc) ∧ w'.cell? ⟨Q0, 11, none⟩ = some (.slice none 0 0)) := fun w' hb => ⟨hb, ((hB0.below hb).cell 10).trans rfl, ((hB0.below hb).cell 11).trans rfl⟩
        have hS0 := keepS _ (below_drew (Below.refl _ _))
        have HQ := Lib.hid (And.intro hQ0 (And.intro hzW (And.intro hs hqs)))
        clear hQ0 hzW hs hqs pb pe pr xa xb pbW peW hown hcs hb hbW hbB ih c0 c1 c2 c3 c4 c5 c6 c7 c8 c9 c10 c11
        refine wp_walk_tail 7 (by kernel_rfl) (by kernel_rfl) (fun w w' => Below w.heap.size w w') (fun w' => (Below W.heap.size W w' ∧ w'.cell? ⟨Q0, 10, none⟩ = some (.slice D dl dc) ∧ w'.cell? ⟨Q0, 11, none⟩ = some (.slice none 0 0))) hS0 ?_
        simp only [List.length_cons, List.length_nil, Nat.reduceAdd, Nat.reduceSub, List.take_succ_cons, List.take_zero, List.drop_succ_cons, List.drop_zero]
        repeat (first | (refine settle_skip (fun _ => by rfl) ?_; (simp only [Act.put, List.setIfInBounds_toArray, List.set_cons_zero, List.set_cons_succ])) | (refine' settle_run (fun _ _ => Below.refl _ _) (fun _ => by rfl) ?_ ?_; rotate_left; (focus (intro ρ w hS hF; (try dsimp only at hS); go_split_ands; go_simp; try with_reducible rfl)); (simp only [Act.put, List.setIfInBounds_toArray, List.set_cons_zero, List.set_cons_succ])))
        (refine settle_known (FSP (newS B W.heap.size) (St.plain body)) (by rfl) (fun _ => by rfl)  ?_ ?_; (focus (intro ρ w hS hF K hK; (simp only [Act.put, List.setIfInBounds_toArray, List.set_cons_zero, List.set_cons_succ] at hK); go_simp; (refine (gB _ hS.1).mono ?_; rintro e w' ⟨v, rfl, hF', hb'⟩; exact hK _ _ hF' (keepS _ (below_next hb' hS.1)) hb'))); (simp only [Act.put, List.setIfInBounds_toArray, List.set_cons_zero, List.set_cons_succ]))
        repeat (first | (refine settle_skip (fun _ => by rfl) ?_; (simp only [Act.put, List.setIfInBounds_toArray, List.set_cons_zero, List.set_cons_succ])) | (refine' settle_run (fun _ _ => Below.refl _ _) (fun _ => by rfl) ?_ ?_; rotate_left; (focus (intro ρ w hS hF; (try dsimp only at hS); go_split_ands; go_simp; try with_reducible rfl)); (simp only [Act.put, List.setIfInBounds_toArray, List.set_cons_zero, List.set_cons_succ])))
        (refine settle_known (FSP (newS B W.heap.size) (St.plain St.P.nil)) (by rfl) (fun _ => by rfl)  ?_ ?_; (focus (intro ρ w hS hF K hK; (simp only [Act.put, List.setIfInBounds_toArray, List.set_cons_zero, List.set_cons_succ] at hK); go_simp; (refine (gE _ hS.1).mono ?_; rintro e w' ⟨v, rfl, hF', hb'⟩; exact hK _ _ hF' (keepS _ (below_next hb' hS.1)) hb'))); (simp only [Act.put, List.setIfInBounds_toArray, List.set_cons_zero, List.set_cons_succ]))
        repeat (first | (refine settle_skip (fun _ => by rfl) ?_; (simp only [Act.put, List.setIfInBounds_toArray, List.set_cons_zero, List.set_cons_succ])) | (refine' settle_run (fun _ _ => Below.refl _ _) (fun _ => by rfl) ?_ ?_; rotate_left; (focus (intro ρ w hS hF; (try dsimp only at hS); go_split_ands; go_simp; try with_reducible rfl)); (simp only [Act.put, List.setIfInBounds_toArray, List.set_cons_zero, List.set_cons_succ])))
        refine settle_nil ?_
        intro ρ w4 hS hF
        have hu1 : SP (newS B W.heap.size) w4 (ρ 26) (St.plain body) := hF 26 (FSP (newS B W.heap.size) (St.plain body)) (by repeat (first | exact List.mem_cons_self | apply List.mem_cons_of_mem))
        have hu2 : SP (newS B W.heap.size) w4 (ρ 29) (St.plain St.P.nil) := hF 29 (FSP (newS B W.heap.size) (St.plain St.P.nil)) (by repeat (first | exact List.mem_cons_self | apply List.mem_cons_of_mem))
        have hb4 := hS.1
        clear hF hS hS0 keepS gB gE
        dsimp only
        generalize ρ 26 = U1 at hu1 ⊢
        generalize ρ 29 = U2 at hu2 ⊢
        obtain ⟨D1, m1, k1, rfl, f1, f1', s1⟩ := hu1
        obtain ⟨D2, m2, k2, rfl, f2, f2', s2⟩ := hu2
        have hB4 := hB0.below hb4
        have hown4 := hownW.kept (grown_of_below hb4 none) (by rcases hownW.2 with ⟨rfl, _⟩ | ⟨g', _, _, rfl, _⟩ <;> simp [Value.ownBlock])
        have hl4 := hb4.size
        have hWq : W.heap.size = Q0 + 1 := HQ.out.2.1
        clear hB0 hownW
        refine wpl_set_blk hB4 10 (.slice D1 m1 k1) (by kernel_rfl) (by simp) rfl rfl rfl rfl rfl rfl ?_
        intro w5 hB5 hg5
        have hend : ∀ w6, w5.grownBy w6 (some Q0) → w.heap.size ≤ w6.heap.size ∧ w6.ownsRow w.heap.size 66 12 u3 k cs ∧ CS (fun b => (b < B ∨ w.heap.size ≤ b) ∧ some b ≠ u3.ownBlock) w6 (cs ++ stcells 6 ⟨#[]⟩ (xcells 1 1 ⟨#[]⟩ none 0 0) (xcells 0 0 ⟨#[]⟩ none 0 0) D1 m1 k1 D2 m2 k2) (k + 1) (dn ++ .cons 6 [] (.num 1) .bad (St.plain body) (St.plain St.P.nil) .nil) ∧ PR B w6 (some ⟨g, o + (k + 1) * 12, none⟩) (n - k - 1) rest ∧ Below w.heap.size w w6 := fun w6 hg6 => by
          have hl5 := hg5.size
          have hl6 := hg6.size
          have gw : w4.grownBy w6 (some Q0) := grown_trans hg5 hg6
          have s1' := s1.go (S' := fun b => (b < B ∨ w.heap.size ≤ b) ∧ some b ≠ u3.ownBlock) gw (fun b _ hb => by
            unfold newS at hb
            exact ⟨⟨by omega, fun e => by have := hol b e.symm; omega⟩, fun e => by injection e with e; omega⟩)
          have s2' := s2.go (S' := fun b => (b < B ∨ w.heap.size ≤ b) ∧ some b ≠ u3.ownBlock) gw (fun b _ hb => by
            unfold newS at hb
            exact ⟨⟨by omega, fun e => by have := hol b e.symm; omega⟩, fun e => by injection e with e; omega⟩)
          have hbB4 : Below B W w4 := hb4.mono hBW
          have hbB6 : Below B W w6 := hbB4.trans (below_of_grown gw (by omega) (by omega))
          have hbw6 : Below w.heap.size w w6 := (hbw.trans (hb4.mono hbw.size)).trans (below_of_grown gw (by omega) (by omega))
          have hcs6 := hcsW.go (S' := fun b => (b < B ∨ w.heap.size ≤ b) ∧ some b ≠ u3.ownBlock) (grown_trans (grown_of_below hb4 (some Q0)) gw) (fun b _ hb => ⟨hb.1, fun e => by injection e with e; exact hb.2 e⟩)
          have hSB : ∀ b, b < B → (b < B ∨ w.heap.size ≤ b) ∧ some b ≠ u3.ownBlock := fun b hb => ⟨.inl hb, fun e => by have := hol b e.symm; omega⟩
          refine ⟨by omega, hown4.kept gw (.inr fun e => by have := hol Q0 e; omega), hcs6.append (CS.one ⟨f1, f1', f2, f2'⟩ (XS.of (xnum w6 1 (by unfold Ex.rng; omega)) (Nat.zero_le _) (fun b hb => absurd hb (Nat.not_lt_zero b))) (XS.of (xbad w6) (Nat.zero_le _) (fun b hb => absurd hb (Nat.not_lt_zero b))) s1' s2'), prW.later hbB6, hbw6⟩
        have n63 : k + 1 ≤ maxLen := by unfold maxLen; omega
        have n47 : (k + 1) * 184 ≤ 140737488355328 := by omega
        clear hcsW xaW xbW prW hbw hB4 hown4 s1 s2 f1 f1' f2 f2' hWq
        go_wp2_with (first | (refine wpl_set_blk hB5 11 (.slice D2 m2 k2) (by kernel_rfl) (by simp) rfl rfl rfl rfl rfl rfl ?_; intro w6 hB6 hg6; simp only [List.set_cons_succ, List.set_cons_zero] at hB6; obtain ⟨hl6, hown6, hcs6, pr6, hbw6⟩ := hend w6 hg6; clear hend hB5 hg5 hg6 hb4 hl4 hol) | (refine wpl_get_blk (ty := 66) hB6 (by kernel_rfl) (by kernel_rfl) rfl rfl rfl ?_) | (at_builtin; refine wp_push w6 _ _ w.heap.size _ _ _ _ _ Try.underlying48 info_stmt rfl (by decide) hown6 [.int .i64 6, .string ⟨#[]⟩, .int .i64 1, .int .i64 1, .string ⟨#[]⟩, .slice none 0 0, .int .i64 0, .int .i64 0, .string ⟨#[]⟩, .slice none 0 0, .slice D1 m1 k1, .slice D2 m2 k2] rfl (stcells_one _ _ _ _ _ _ _ _ _ _ _ _ _ _ _ _ _ _ _ _) n63 n47 hl6 rfl rfl rfl rfl ?_; intro v7 w7 hown7 hg7 hv7 hb7; clear hB6))
        have hcs7 := hcs6.row (S' := fun b => b < B ∨ w.heap.size ≤ b) hown6 hg7 (hv7.imp id fun e => ⟨_, Nat.le_succ _, e⟩) (fun b _ hb => hb)
        have pr7 := pr6.later (hb7.mono hB)
        have hb7' := hbw6.trans hb7
        have HP := Lib.hid (show (dn ++ .cons 6 [] (.num 1) .bad (St.plain body) (St.plain St.P.nil) .nil) ++ St.plain rest = St.plain p by
          rw [← HQ.out.2.2.2.2, St.P.append_assoc, St.P.cons_append, St.P.nil_append]
          first | done | (congr 1 <;> simp [St.plain]))
        clear hcs6 hown6 hg7 hv7 hb7 pr6 hbw6
        go_roundw
        case rel => exact ⟨k + 1, rest, _, _, by omega, by go_num, hown7, hcs7, by rw [show n - (k + 1) = n - k - 1 by omega]; exact pr7, hb7', HQ.out.2.2.1.2.2, HP.out⟩
        case measure => simp [intOf]; omega
      · have K45 : ¬ (kd = 4 ∨ kd = 5) := by simp at k4 k5; omega
        have HK45 := Lib.hid K45
        clear K45
        obtain ⟨Q0, hQ0⟩ : ∃ Q0, Q0 = wr.heap.size := ⟨_, rfl⟩
        have hB0 := Blk.new wr 66 [.int .i64 kd, .string nm, .int .i64 ak, .int .i64 an, .string sa, .slice aA al ac, .int .i64 bk, .int .i64 bn, .string sb, .slice bA bl bc, .slice D dl dc, .slice E el ec]
        have hbW : Below wr.heap.size wr (wr.alloc (.cells ([.int .i64 kd, .string nm, .int .i64 ak, .int .i64 an, .string sa, .slice aA al ac, .int .i64 bk, .int .i64 bn, .string sb, .slice bA bl bc, .slice D dl dc, .slice E el ec] : List Value).toArray 66)) := below_alloc (Below.refl _ _) _
        have hzW : (wr.alloc (.cells ([.int .i64 kd, .string nm, .int .i64 ak, .int .i64 an, .string sa, .slice aA al ac, .int .i64 bk, .int .i64 bn, .string sb, .slice bA bl bc, .slice D dl dc, .slice E el ec] : List Value).toArray 66)).heap.size = wr.heap.size + 1 := by simp
        rw [← hQ0] at hB0 hzW
        go_wp2_with fail
        rw [← hQ0]
        generalize (wr.alloc (.cells ([.int .i64 kd, .string nm, .int .i64 ak, .int .i64 an, .string sa, .slice aA al ac, .int .i64 bk, .int .i64 bn, .string sb, .slice bA bl bc, .slice D dl dc, .slice E el ec] : List Value).toArray 66)) = W at hB0 hbW hzW ⊢
        have hcsW := hcs.go (S' := fun b => ((b < B ∨ w.heap.size ≤ b) ∧ some b ≠ u3.ownBlock) ∧ b ≠ Q0) (grown_of_below hbW none) (fun b hl hb => ⟨⟨hb, by omega⟩, by simp⟩)
        have hownW := hown.kept (grown_of_below hbW none) (by rcases hown.2 with ⟨rfl, _⟩ | ⟨g', _, _, rfl, _⟩ <;> simp [Value.ownBlock])
        have hbB := hbW.mono hBr
        have xaW := xa.later hbB
        have xbW := xb.later hbB
        have pbW := pb.later hbB
        have peW := pe.later hbB
        have prW := pr.later hbB
        have hbw := below_next hbW hb
        have hBW : B ≤ W.heap.size := Nat.le_trans hBr hbW.size
        have hol : ∀ gg, u3.ownBlock = some gg → w.heap.size ≤ gg ∧ gg < Q0 := fun gg e => by rw [hQ0]; exact hown.lt gg e
        have hqw : w.heap.size ≤ Q0 := by rw [hQ0]; exact hb.size
        have gB : ∀ (w' : World), Below W.heap.size W w' → Calls Try.prog 23 #[.slice D dl dc] w' fun e w'' => ∃ v, e = .returned v ∧ SP (newS B W.heap.size) w'' v (St.plain body) ∧ Below w'.heap.size w' w'' := fun w' hb' =>
          (ih body hs.1 w' B dl dc D (Nat.le_trans hBW hb'.size) (pbW.later (hb'.mono hBW)) hd1 hd2 (by omega)).mono fun e w'' ⟨v, h1, h2, h3⟩ => ⟨v, h1, h2.go (World.grownBy.refl w'' none) fun b _ hb => ⟨hb.imp id fun h => Nat.le_trans hb'.size h, by simp⟩, h3⟩
        have gE : ∀ (w' : World), Below W.heap.size W w' → Calls Try.prog 23 #[.slice E el ec] w' fun e w'' => ∃ v, e = .returned v ∧ SP (newS B W.heap.size) w'' v (St.plain els) ∧ Below w'.heap.size w' w'' := fun w' hb' =>
          (ih els (by first | exact hs.2.1 | (simp only [St.P.size]; omega)) w' B _ _ _ (Nat.le_trans hBW hb'.size) (by first | exact peW.later (hb'.mono hBW) | exact .nil _) (by first | exact he1 | decide) (by first | exact he2 | decide) (by first | omega | (simp only [St.P.size]; omega))).mono fun e w'' ⟨v, h1, h2, h3⟩ => ⟨v, h1, h2.go (World.grownBy.refl w'' none) fun b _ hb => ⟨hb.imp id fun h => Nat.le_trans hb'.size h, by simp⟩, h3⟩
        have keepS : ∀ w', Below W.heap.size W w' → (Below W.heap.size W w' ∧ w'.cell? ⟨Q0, 10, none⟩ = some (.slice D dl dc) ∧ w'.cell? ⟨Q0, 11, none⟩ = some (.slice E el ec)) := fun w' hb => ⟨hb, ((hB0.below hb).cell 10).trans rfl, ((hB0.below hb).cell 11).trans rfl⟩
        have hS0 := keepS _ (below_drew (Below.refl _ _))
        have HQ := Lib.hid (And.intro hQ0 (And.intro hzW (And.intro hs hqs)))
        clear hQ0 hzW hs hqs pb pe pr xa xb pbW peW hown hcs hb hbW hbB ih c0 c1 c2 c3 c4 c5 c6 c7 c8 c9 c10 c11
        refine wp_walk_tail 7 (by kernel_rfl) (by kernel_rfl) (fun w w' => Below w.heap.size w w') (fun w' => (Below W.heap.size W w' ∧ w'.cell? ⟨Q0, 10, none⟩ = some (.slice D dl dc) ∧ w'.cell? ⟨Q0, 11, none⟩ = some (.slice E el ec))) hS0 ?_
        simp only [List.length_cons, List.length_nil, Nat.reduceAdd, Nat.reduceSub, List.take_succ_cons, List.take_zero, List.drop_succ_cons, List.drop_zero]
        repeat (first | (refine settle_skip (fun _ => by rfl) ?_; (simp only [Act.put, List.setIfInBounds_toArray, List.set_cons_zero, List.set_cons_succ])) | (refine' settle_run (fun _ _ => Below.refl _ _) (fun _ => by rfl) ?_ ?_; rotate_left; (focus (intro ρ w hS hF; (try dsimp only at hS); go_split_ands; go_simp; try with_reducible rfl)); (simp only [Act.put, List.setIfInBounds_toArray, List.set_cons_zero, List.set_cons_succ])))
        (refine settle_known (FSP (newS B W.heap.size) (St.plain body)) (by rfl) (fun _ => by rfl)  ?_ ?_; (focus (intro ρ w hS hF K hK; (simp only [Act.put, List.setIfInBounds_toArray, List.set_cons_zero, List.set_cons_succ] at hK); go_simp; (refine (gB _ hS.1).mono ?_; rintro e w' ⟨v, rfl, hF', hb'⟩; exact hK _ _ hF' (keepS _ (below_next hb' hS.1)) hb'))); (simp only [Act.put, List.setIfInBounds_toArray, List.set_cons_zero, List.set_cons_succ]))
        repeat (first | (refine settle_skip (fun _ => by rfl) ?_; (simp only [Act.put, List.setIfInBounds_toArray, List.set_cons_zero, List.set_cons_succ])) | (refine' settle_run (fun _ _ => Below.refl _ _) (fun _ => by rfl) ?_ ?_; rotate_left; (focus (intro ρ w hS hF; (try dsimp only at hS); go_split_ands; go_simp; try with_reducible rfl)); (simp only [Act.put, List.setIfInBounds_toArray, List.set_cons_zero, List.set_cons_succ])))
        (refine settle_known (FSP (newS B W.heap.size) (St.plain els)) (by rfl) (fun _ => by rfl)  ?_ ?_; (focus (intro ρ w hS hF K hK; (simp only [Act.put, List.setIfInBounds_toArray, List.set_cons_zero, List.set_cons_succ] at hK); go_simp; (refine (gE _ hS.1).mono ?_; rintro e w' ⟨v, rfl, hF', hb'⟩; exact hK _ _ hF' (keepS _ (below_next hb' hS.1)) hb'))); (simp only [Act.put, List.setIfInBounds_toArray, List.set_cons_zero, List.set_cons_succ]))
        repeat (first | (refine settle_skip (fun _ => by rfl) ?_; (simp only [Act.put, List.setIfInBounds_toArray, List.set_cons_zero, List.set_cons_succ])) | (refine' settle_run (fun _ _ => Below.refl _ _) (fun _ => by rfl) ?_ ?_; rotate_left; (focus (intro ρ w hS hF; (try dsimp only at hS); go_split_ands; go_simp; try with_reducible rfl)); (simp only [Act.put, List.setIfInBounds_toArray, List.set_cons_zero, List.set_cons_succ])))
        refine settle_nil ?_
        intro ρ w4 hS hF
        have hu1 : SP (newS B W.heap.size) w4 (ρ 26) (St.plain body) := hF 26 (FSP (newS B W.heap.size) (St.plain body)) (by repeat (first | exact List.mem_cons_self | apply List.mem_cons_of_mem))
        have hu2 : SP (newS B W.heap.size) w4 (ρ 29) (St.plain els) := hF 29 (FSP (newS B W.heap.size) (St.plain els)) (by repeat (first | exact List.mem_cons_self | apply List.mem_cons_of_mem))
        have hb4 := hS.1
        clear hF hS hS0 keepS gB gE
        dsimp only
        generalize ρ 26 = U1 at hu1 ⊢
        generalize ρ 29 = U2 at hu2 ⊢
        obtain ⟨D1, m1, k1, rfl, f1, f1', s1⟩ := hu1
        obtain ⟨D2, m2, k2, rfl, f2, f2', s2⟩ := hu2
        have hB4 := hB0.below hb4
        have hown4 := hownW.kept (grown_of_below hb4 none) (by rcases hownW.2 with ⟨rfl, _⟩ | ⟨g', _, _, rfl, _⟩ <;> simp [Value.ownBlock])
        have hl4 := hb4.size
        have hWq : W.heap.size = Q0 + 1 := HQ.out.2.1
        clear hB0 hownW
        refine wpl_set_blk hB4 10 (.slice D1 m1 k1) (by kernel_rfl) (by simp) rfl rfl rfl rfl rfl rfl ?_
        intro w5 hB5 hg5
        have hend : ∀ w6, w5.grownBy w6 (some Q0) → w.heap.size ≤ w6.heap.size ∧ w6.ownsRow w.heap.size 66 12 u3 k cs ∧ CS (fun b => (b < B ∨ w.heap.size ≤ b) ∧ some b ≠ u3.ownBlock) w6 (cs ++ stcells kd nm (xcells ak an sa aA al ac) (xcells bk bn sb bA bl bc) D1 m1 k1 D2 m2 k2) (k + 1) (dn ++ .cons kd nm.data.toList ea eb (St.plain body) (St.plain els) .nil) ∧ PR B w6 (some ⟨g, o + (k + 1) * 12, none⟩) (n - k - 1) rest ∧ Below w.heap.size w w6 := fun w6 hg6 => by
          have hl5 := hg5.size
          have hl6 := hg6.size
          have gw : w4.grownBy w6 (some Q0) := grown_trans hg5 hg6
          have s1' := s1.go (S' := fun b => (b < B ∨ w.heap.size ≤ b) ∧ some b ≠ u3.ownBlock) gw (fun b _ hb => by
            unfold newS at hb
            exact ⟨⟨by omega, fun e => by have := hol b e.symm; omega⟩, fun e => by injection e with e; omega⟩)
          have s2' := s2.go (S' := fun b => (b < B ∨ w.heap.size ≤ b) ∧ some b ≠ u3.ownBlock) gw (fun b _ hb => by
            unfold newS at hb
            exact ⟨⟨by omega, fun e => by have := hol b e.symm; omega⟩, fun e => by injection e with e; omega⟩)
          have hbB4 : Below B W w4 := hb4.mono hBW
          have hbB6 : Below B W w6 := hbB4.trans (below_of_grown gw (by omega) (by omega))
          have hbw6 : Below w.heap.size w w6 := (hbw.trans (hb4.mono hbw.size)).trans (below_of_grown gw (by omega) (by omega))
          have hcs6 := hcsW.go (S' := fun b => (b < B ∨ w.heap.size ≤ b) ∧ some b ≠ u3.ownBlock) (grown_trans (grown_of_below hb4 (some Q0)) gw) (fun b _ hb => ⟨hb.1, fun e => by injection e with e; exact hb.2 e⟩)
          have hSB : ∀ b, b < B → (b < B ∨ w.heap.size ≤ b) ∧ some b ≠ u3.ownBlock := fun b hb => ⟨.inl hb, fun e => by have := hol b e.symm; omega⟩
          refine ⟨by omega, hown4.kept gw (.inr fun e => by have := hol Q0 e; omega), hcs6.append (CS.one ⟨f1, f1', f2, f2'⟩ (XS.of (xaW.later hbB6) (by omega) hSB) (XS.of (xbW.later hbB6) (by omega) hSB) s1' s2'), prW.later hbB6, hbw6⟩
        have n63 : k + 1 ≤ maxLen := by unfold maxLen; omega
        have n47 : (k + 1) * 184 ≤ 140737488355328 := by omega
        clear hcsW xaW xbW prW hbw hB4 hown4 s1 s2 f1 f1' f2 f2' hWq
        go_wp2_with (first | (refine wpl_set_blk hB5 11 (.slice D2 m2 k2) (by kernel_rfl) (by simp) rfl rfl rfl rfl rfl rfl ?_; intro w6 hB6 hg6; simp only [List.set_cons_succ, List.set_cons_zero] at hB6; obtain ⟨hl6, hown6, hcs6, pr6, hbw6⟩ := hend w6 hg6; clear hend hB5 hg5 hg6 hb4 hl4 hol) | (refine wpl_get_blk (ty := 66) hB6 (by kernel_rfl) (by kernel_rfl) rfl rfl rfl ?_) | (at_builtin; refine wp_push w6 _ _ w.heap.size _ _ _ _ _ Try.underlying48 info_stmt rfl (by decide) hown6 [.int .i64 kd, .string nm, .int .i64 ak, .int .i64 an, .string sa, .slice aA al ac, .int .i64 bk, .int .i64 bn, .string sb, .slice bA bl bc, .slice D1 m1 k1, .slice D2 m2 k2] rfl (stcells_one _ _ _ _ _ _ _ _ _ _ _ _ _ _ _ _ _ _ _ _) n63 n47 hl6 rfl rfl rfl rfl ?_; intro v7 w7 hown7 hg7 hv7 hb7; clear hB6))
        have hcs7 := hcs6.row (S' := fun b => b < B ∨ w.heap.size ≤ b) hown6 hg7 (hv7.imp id fun e => ⟨_, Nat.le_succ _, e⟩) (fun b _ hb => hb)
        have pr7 := pr6.later (hb7.mono hB)
        have hb7' := hbw6.trans hb7
        have HP := Lib.hid (show (dn ++ .cons kd nm.data.toList ea eb (St.plain body) (St.plain els) .nil) ++ St.plain rest = St.plain p by
          rw [← HQ.out.2.2.2.2, St.P.append_assoc, St.P.cons_append, St.P.nil_append]
          first | done | (congr 1 <;> simp [St.plain, HK45.out]))
        clear hcs6 hown6 hg7 hv7 hb7 pr6 hbw6
        go_roundw
        case rel => exact ⟨k + 1, rest, _, _, by omega, by go_num, hown7, hcs7, by rw [show n - (k + 1) = n - k - 1 by omega]; exact pr7, hb7', HQ.out.2.2.1.2.2, HP.out⟩
        case measure => simp [intOf]; omega
    · have HK := Lib.hid (show k = n by omega)
      go_wp2
      go_ret
      have hq0 := hq
      rw [HK.out, Nat.sub_self] at hq0
      have hq' := hq0.zero
      subst hq'
      refine ⟨_, rfl, ?_, hb⟩
      rw [← hqs.2, St.plain, St.P.append_nil]
      refine (SP.of_own hcs hown).go (World.grownBy.refl wr none) fun b _ hb => ⟨?_, by simp⟩
      rcases hb with hb | hb
      · exact hb.1
      · exact .inr (hown.lt b hb.symm).1
theorem plain_any (p : St.P) : PlainOK p := by
  suffices h : ∀ n, ∀ q : St.P, q.size ≤ n → PlainOK q from h _ p (Nat.le_refl _)
  intro n
  induction n with
  | zero => exact fun q hq => plain_step q fun r hr => by omega
  | succ n ih => exact fun q hq => plain_step q fun r hr => ih r (by omega)
end Go.Proofs.Ytajddbmmbhdnfaa
