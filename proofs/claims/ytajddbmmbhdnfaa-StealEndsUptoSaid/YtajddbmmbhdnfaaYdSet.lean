/-
  steal.settle, walked.
-/
import Derived.Test.YtajddbmmbhdnfaaYdEnd
import Derived.Test.YtajddbmmbhdnfaaSettle3
import Derived.Deep.LoopGhost
namespace Go.Proofs.Ytajddbmmbhdnfaa
set_option linter.unusedVariables false
set_option linter.unusedSimpArgs false
set_option maxRecDepth 100000
open Go.RowKit

def SetPost (w : World) (yb base lv : Nat) (y : Stl.Y) (P A Q D : Value) (gs : List Nat) (who : Nat) (ps' : List Stl.Part) (q' : List Nat) (a' : Int) : Ending → World → Prop := fun e w' =>
  e = .returned (.tuple #[]) ∧ (∃ rs', YA w' yb base { y with ps := ps', at_ := y.at_.set who a', qs := y.qs.set who q' } lv P A Q D gs rs') ∧ Fr base w w'

theorem YA.at_cell {w : World} {yb base lv : Nat} {y : Stl.Y} {P A Q D : Value} {gs : List Nat} {rs : List (Option Nat)} (h : YA w yb base y lv P A Q D gs rs) {ag n ac : Nat} (hA : A = .slice (some ⟨ag, 0, none⟩) n ac) {i : Nat} {a : Int} (ha : y.at_[i]? = some a) : w.cell? ⟨ag, i, none⟩ = some (.int .i64 a) := by
  have hr := h.ats
  rw [hA] at hr
  have hNe : n = y.at_.length := own_len hr
  rw [hNe] at hr
  have hi := (List.getElem?_eq_some_iff.1 ha).1
  rw [hr.cellAt i (by omega)]
  simp [ints, ha]
theorem YA.q_cell {w : World} {yb base lv : Nat} {y : Stl.Y} {P A Q D : Value} {gs : List Nat} {rs : List (Option Nat)} (h : YA w yb base y lv P A Q D gs rs) {qg n qc : Nat} (hQ : Q = .slice (some ⟨qg, 0, none⟩) n qc) {i g : Nat} (hg : gs[i]? = some g) : w.cell? ⟨qg, i, none⟩ = some (.pointer (some ⟨g, 0, none⟩)) := by
  have hr := h.qus
  rw [hQ] at hr
  have hNe : n = gs.length := own_len hr
  rw [hNe] at hr
  have hi := (List.getElem?_eq_some_iff.1 hg).1
  rw [hr.cellAt i (by omega)]
  exact ptrs_get _ _ _ hg
theorem ended_len : ∀ (f : Nat) (ps : List Stl.Part) (q : List Nat) (n : Nat) (ps' : List Stl.Part) (q' : List Nat) (a' : Int), Stl.ended f ps q n = some (ps', q', a') → ps'.length = ps.length
  | 0, ps, q, n, ps', q', a', h => by simp [Stl.ended] at h
  | f + 1, ps, q, n, ps', q', a', h => by
    have hm : (Stl.mark ps n).length = ps.length := by unfold Stl.mark; split <;> simp
    unfold Stl.ended at h
    split at h
    · cases h
    · split at h
      · cases h; exact hm
      · split at h
        · cases h
        · split at h
          · split at h
            · exact (ended_len f _ _ _ _ _ _ h).trans hm
            · cases h; exact hm
          · split at h
            · split at h
              · exact (ended_len f _ _ _ _ _ _ h).trans hm
              · split at h
                · cases h; exact hm
                · split at h
                  · cases h; exact hm
                  · cases h; exact hm
            · cases h
theorem own_setCell {w : World} {base : Nat} {e : TypeId} {size g n c i : Nat} {xs : List Value} (h : w.ownsRow base e size (.slice (some ⟨g, 0, none⟩) n c) n xs) (u : Value) : (w.setCell ⟨g, i, none⟩ u).ownsRow base e size (.slice (some ⟨g, 0, none⟩) n c) n (xs.set i u) := by
  obtain ⟨cs, hB, hl, rfl, hn, hm, hb⟩ := row_blk h
  have := row_of_blk (size := size) (c := c) (n := n) (hB.set_ i u) (by simpa using hl) hb hn hm
  rw [List.take_set] at this
  exact this


theorem own_free {w : World} {base : Nat} {e : TypeId} {size n g m c : Nat} {xs : List Value} (h : w.ownsRow base e size (.slice (some ⟨g, 0, none⟩) m c) n xs) (i : Nat) : w.frozen? ⟨g, i, none⟩ = false := by
  have hm : m = n := own_len h
  subst hm
  obtain ⟨cs, hB, -⟩ := row_blk h
  exact hB.frozen i
theorem _root_.Go.World.ownsRow.drewN_ {w : World} {base : Nat} {e : TypeId} {size n : Nat} {v : Value} {xs : List Value} (h : w.ownsRow base e size v n xs) (k : Nat) : (w.drewN k).ownsRow base e size v n xs := h
set_option maxHeartbeats 4000000 in
theorem settle_any (f : Nat) (y : Stl.Y) (who : Nat) (q : List Nat) (a : Int) (ps' : List Stl.Part) (q' : List Nat) (a' : Int) (w : World) (yb base lv : Nat) (P A Q D : Value) (gs : List Nat) (rs : List (Option Nat)) (h : YA w yb base y lv P A Q D gs rs) (hq : y.qs[who]? = some q) (ha : y.at_[who]? = some a) (hN : y.ps.length ≤ 1152921504606846976) (hF : Stl.settle f y.ps q a = some (ps', q', a')) :
      Calls Try.prog 28 #[.pointer (some ⟨yb, 0, none⟩), .int .i64 (who : Int)] w (SetPost w yb base lv y P A Q D gs who ps' q' a') := by
  have hwho := (List.getElem?_eq_some_iff.1 ha).1
  have l1 := h.len1
  have l3 := h.len3
  obtain ⟨ag, ac, rfl, hale, ham, hab, hal⟩ := own_addr h.ats (by omega)
  obtain ⟨qg, qc, rfl, hqle, hqm, hqb, hql⟩ := own_addr h.qus (by omega)
  unfold maxLen at ham hqm
  have hwg : who < gs.length := by omega
  obtain ⟨nA, hnA⟩ : ∃ nA, nA = y.at_.length := ⟨_, rfl⟩
  rw [← hnA] at h hale hwho ⊢
  have HN := Lib.hid (And.intro hnA (And.intro hq ha))
  clear hq ha hnA l1 l3
  have hbw := h.base_le
  go_enter Try.func28, Try.ntmps28
  go_wp2
  go_loopg [] f (fun k wr => ∃ (ps : List Stl.Part) (q1 : List Nat) (a1 : Int) (rs1 : List (Option Nat)), YA wr yb base { y with ps := ps, at_ := y.at_.set who a1, qs := y.qs.set who q1 } lv P (.slice (some ⟨ag, 0, none⟩) nA ac) (.slice (some ⟨qg, 0, none⟩) gs.length qc) D gs rs1 ∧ Fr base w wr ∧ (ps.length = y.ps.length ∧ Stl.settle k ps q1 a1 = some (ps', q', a')))
  case atStart => exact ⟨y.ps, q, a, rs, by
    have e1 : y.at_.set who a = y.at_ := by
      obtain ⟨h1, h2⟩ := List.getElem?_eq_some_iff.1 HN.out.2.2
      rw [← h2]; exact List.set_getElem_self ..
    have e2 : y.qs.set who q = y.qs := by
      obtain ⟨h1, h2⟩ := List.getElem?_eq_some_iff.1 HN.out.2.1
      rw [← h2]; exact List.set_getElem_self ..
    rw [e1, e2]
    exact h, Fr.refl _ _, rfl, hF⟩
  case round =>
    clear hF h
    obtain ⟨ps, q1, a1, rs1, hY, hb, hl, hF⟩ := hrel
    rcases gk with _ | k
    · simp [Stl.settle] at hF
    obtain ⟨b0, -, b2, b3, -⟩ := hY.heads
    have hwl : who < y.at_.length := by rw [← HN.out.1]; exact hwho
    have hwq : who < y.qs.length := by
      have := (List.getElem?_eq_some_iff.1 HN.out.2.1).1; exact this
    have hat : (y.at_.set who a1)[who]? = some a1 := by simp [hwl]
    have hqt : (y.qs.set who q1)[who]? = some q1 := by simp [hwq]
    have ca := hY.at_cell rfl hat
    have lag := World.block_lt_of_cell? wr _ ca
    have lyb := hY.lt
    have HI := Lib.hid (And.intro hat hqt)
    have HL := Lib.hid (And.intro hl (And.intro hwl hwq))
    clear hat hqt hl hwl hwq
    unfold Stl.settle at hF
    by_cases ha0 : a1 < 0
    · rw [if_pos ha0] at hF
      cases hF
      go_wp2
      go_end0
      exact ⟨rfl, ⟨rs1, hY⟩, hb⟩
    rw [if_neg ha0] at hF
    obtain ⟨n, rfl⟩ : ∃ n : Nat, a1 = n := ⟨a1.toNat, by omega⟩
    rw [Int.toNat_natCast] at hF
    rcases hp : ps[n]? with _ | p
    · rw [hp] at hF; simp at hF
    rw [hp] at hF
    dsimp only at hF
    have hn := (List.getElem?_eq_some_iff.1 hp).1
    obtain ⟨pg, cap, rfl, hle, hm, hpb, hpl⟩ := own_addr hY.parts (by show 0 < ps.length; omega)
    obtain ⟨e0, e1, e2, e3, e4, e5, e6⟩ := hY.cells rfl hp
    unfold maxLen at hm
    obtain ⟨nP, hnP⟩ : ∃ nP, nP = ps.length := ⟨_, rfl⟩
    dsimp only at hY hle b0 ⊢
    rw [← hnP] at hle hn b0 hY ⊢
    have hnN : nP ≤ 1152921504606846976 := by rw [hnP]; have := HL.out.1; omega
    have HP := Lib.hid (And.intro hnP hp)
    clear hnP hp ha0
    obtain ⟨q5, hq5⟩ : ∃ q5, q5 = wr.heap.size := ⟨_, rfl⟩
    have B5 := Blk.new wr 100 [.int .i64 (p.kind : Int), .int .i64 p.leaf, .int .i64 (p.left : Int), .int .i64 (p.right : Int), .int .i64 p.up, .bool p.onR, .bool p.done]
    have hb5 : Below wr.heap.size wr (wr.alloc (.cells ([.int .i64 (p.kind : Int), .int .i64 p.leaf, .int .i64 (p.left : Int), .int .i64 (p.right : Int), .int .i64 p.up, .bool p.onR, .bool p.done] : List Value).toArray 100)) := below_alloc (Below.refl _ _) _
    have hY5 := hY.below hb5
    have hbB := hb.below hb5 hbw
    by_cases k1 : p.kind = 1
    · have k1' : (p.kind : Int) = 1 := by omega
      rw [if_pos k1] at hF
      cases hF
      rw [k1'] at e0 B5 hb5 hY5 hbB
      clear k1
      go_wp2
      go_end0
      exact ⟨rfl, ⟨rs1, hY5⟩, hbB⟩
    rw [if_neg k1] at hF
    by_cases k3 : p.kind = 3
    · have k3' : (p.kind : Int) = 3 := by omega
      rw [if_pos k3] at hF
      have hql : q1.length < 1099511627776 := Classical.byContradiction fun hno => by rw [if_neg hno] at hF; cases hF
      rw [if_pos hql] at hF
      rw [k3'] at e0 B5 hb5 hY5 hbB
      obtain ⟨g, r, hgw, hrw, hdq, hgb⟩ := hY5.at_dq HI.out.2
      have qcell := hY.q_cell rfl hgw
      have lqg := World.block_lt_of_cell? wr _ qcell
      have HG := Lib.hid (And.intro hgw (And.intro hrw hgb))
      clear hgw hrw hgb k1 k3
      rw [← hq5] at B5
      have hqg : q5 ≠ g := fun e => by
        obtain ⟨cs, hc⟩ := hdq.blk
        rw [e] at B5
        exact Blk.type_ne B5 hc (by decide) rfl
      have hqr : ∀ b, some b = r → q5 ≠ b := fun b e e' => by
        obtain ⟨v, m, xs, hr, hv⟩ := hdq.row
        exact own_blk_ne hr B5 (by decide) (by rw [hv, ← e, e'])
      have HQ5 := Lib.hid (And.intro hq5 (And.intro hqg hqr))
      clear hqg hqr
      go_wp2_with fail
      rw [← hq5]
      generalize (wr.alloc (.cells ([.int .i64 3, .int .i64 p.leaf, .int .i64 (p.left : Int), .int .i64 (p.right : Int), .int .i64 p.up, .bool p.onR, .bool p.done] : List Value).toArray 100)) = W at B5 hb5 hY5 hbB hdq ⊢
      clear hq5 ca b0 b2 b3 e0 e1 e2 e3 e4 e5 e6 qcell lyb lag lqg hY
      obtain ⟨-, -, b2, b3, -⟩ := hY5.heads
      have qcell := hY5.q_cell rfl HG.out.1
      have f3 : W.cell? ⟨q5, 3, none⟩ = some (.int .i64 (p.right : Int)) := (B5.cell 3).trans rfl
      (refine still_last (by kernel_rfl) (by kernel_rfl) ?_; simp only [List.length_cons, List.length_nil, Nat.reduceAdd, Nat.reduceSub, List.take_succ_cons, List.take_zero, List.drop_succ_cons, List.drop_zero]; repeat still_step; try refine wpStill_nil ?_)
      go_wp2_with fail
      refine (push_any g (p.right : Int) _ r (W.drewN 1) (hY5.below (below_drewN (Below.refl _ _) 1) |>.dq who g r q1 HG.out.1 HG.out.2.1 HI.out.2).1 (by rw [List.length_map]; omega)).mono ?_
      rintro e w3 ⟨rfl, ⟨r', hd3, hr3⟩, hk3⟩
      have hY6 := hY5.below (below_drewN (Below.refl W.heap.size W) 1)
      have hY3 := hY6.deque (l := q1 ++ [p.right]) HG.out.1 HG.out.2.1 hk3 (by rw [List.map_append]; exact hd3) hr3
      have B3 := (B5.drewN 1).keeps hk3 (fun e => e.elim HQ5.out.2.1 fun e => HQ5.out.2.2 _ e rfl)
      have hbB3 := (hbB.drewN 1).trans (Fr.dq (hY6.dq who g r q1 HG.out.1 HG.out.2.1 HI.out.2).1 hk3 (Nat.le_trans hbw (hbB.drewN 1).size) HG.out.2.2)
      rw [List.set_set] at hY3
      clear hd3 hr3 hk3 hY6 hY5 B5 hb5 hbB b2 b3 qcell f3 hdq
      obtain ⟨-, -, b2, -, -⟩ := hY3.heads
      have ca := hY3.at_cell rfl HI.out.1
      have f2 : w3.cell? ⟨q5, 2, none⟩ = some (.int .i64 (p.left : Int)) := (B3.cell 2).trans rfl
      have hrow := hY3.ats
      have hYe := hY3
      dsimp only at hrow
      rw [List.length_set, ← HN.out.1] at hrow
      have HY := Lib.hid hYe
      clear hYe hY3 B3
      go_wp2_with fail
      (refine still_last (by kernel_rfl) (by kernel_rfl) ?_; simp only [List.length_cons, List.length_nil, Nat.reduceAdd, Nat.reduceSub, List.take_succ_cons, List.take_zero, List.drop_succ_cons, List.drop_zero]; repeat still_step; try refine wpStill_nil ?_)
      refine wpl_set_row (hrow.drewN_ 1) who (.int .i64 (p.left : Int)) (by kernel_rfl) (by omega) rfl rfl rfl rfl rfl rfl ?_
      intro w4 hown4 hg4
      have hY4 := YA.moved (A := .slice (some ⟨ag, 0, none⟩) nA ac) (HY.out.below (below_drewN (Below.refl _ _) 1)) (xs := (y.at_.set who n).set who (p.left : Int)) rfl (by simp) (by
        dsimp only
        rw [List.length_set, ← HN.out.1, ints_set]
        exact hown4) hg4
      rw [List.set_set] at hY4
      have hb4 := (hbB3.drewN 1).trans (Fr.row (HY.out.below (below_drewN (Below.refl _ _) 1)).ats (by decide) rfl hg4 (HY.out.below (below_drewN (Below.refl _ _) 1)).base_le)
      have HE := Lib.hid (And.intro hY4 (And.intro hb4 hF))
      clear hY4 hb4 hF hown4 hg4 hrow
      go_wp2
      go_roundg k
      case measure => omega
      case rel => exact ⟨ps, _, _, _, by rw [← HP.out.1]; exact HE.out.1, HE.out.2.1, HL.out.1, HE.out.2.2⟩
    rw [if_neg k3] at hF
    by_cases k2 : p.kind = 2
    · have k2' : (p.kind : Int) = 2 := by omega
      rw [if_pos k2] at hF
      rw [k2'] at e0 B5 hb5 hY5 hbB
      clear k1 k2 k3
      rw [← hq5] at B5
      go_wp2_with fail
      rw [← hq5]
      generalize (wr.alloc (.cells ([.int .i64 2, .int .i64 p.leaf, .int .i64 (p.left : Int), .int .i64 (p.right : Int), .int .i64 p.up, .bool p.onR, .bool p.done] : List Value).toArray 100)) = w3 at B5 hb5 hY5 hbB ⊢
      clear hq5 ca b0 b2 b3 e0 e1 e2 e3 e4 e5 e6 lyb lag hY hb5
      obtain ⟨-, -, b2, -, -⟩ := hY5.heads
      have ca := hY5.at_cell rfl HI.out.1
      have f2 : w3.cell? ⟨q5, 2, none⟩ = some (.int .i64 (p.left : Int)) := (B5.cell 2).trans rfl
      have hrow := hY5.ats
      dsimp only at hrow
      rw [List.length_set, ← HN.out.1] at hrow
      have HY := Lib.hid hY5
      clear hY5 B5
      (refine still_last (by kernel_rfl) (by kernel_rfl) ?_; simp only [List.length_cons, List.length_nil, Nat.reduceAdd, Nat.reduceSub, List.take_succ_cons, List.take_zero, List.drop_succ_cons, List.drop_zero]; repeat still_step; try refine wpStill_nil ?_)
      refine wpl_set_row (hrow.drewN_ 1) who (.int .i64 (p.left : Int)) (by kernel_rfl) (by omega) rfl rfl rfl rfl rfl rfl ?_
      intro w4 hown4 hg4
      have hY4 := YA.moved (A := .slice (some ⟨ag, 0, none⟩) nA ac) (HY.out.below (below_drewN (Below.refl _ _) 1)) (xs := (y.at_.set who n).set who (p.left : Int)) rfl (by simp) (by
        dsimp only
        rw [List.length_set, ← HN.out.1, ints_set]
        exact hown4) hg4
      rw [List.set_set] at hY4
      have hb4 := (hbB.drewN 1).trans (Fr.row (HY.out.below (below_drewN (Below.refl _ _) 1)).ats (by decide) rfl hg4 (HY.out.below (below_drewN (Below.refl _ _) 1)).base_le)
      have HE := Lib.hid (And.intro hY4 (And.intro hb4 hF))
      clear hY4 hb4 hF hown4 hg4 hrow
      go_wp2
      go_roundg k
      case measure => omega
      case rel => exact ⟨ps, _, _, _, by rw [← HP.out.1]; exact HE.out.1, HE.out.2.1, HL.out.1, HE.out.2.2⟩
    · rw [if_neg k2] at hF
      have e1' : ((p.kind : Int) == 1) = false := by rw [beq_eq_false_iff_ne]; omega
      have e2' : ((p.kind : Int) == 2) = false := by rw [beq_eq_false_iff_ne]; omega
      have e3' : ((p.kind : Int) == 3) = false := by rw [beq_eq_false_iff_ne]; omega
      rcases he : Stl.ended (k + 1) ps q1 n with _ | ⟨ps1, q2, a2⟩
      · rw [he] at hF; simp at hF
      rw [he] at hF
      dsimp only at hF
      have HH := Lib.hid (And.intro he hF)
      clear he hF k1 k2 k3
      go_wp2_with fail
      rw [← hq5] at B5 ⊢
      generalize (wr.alloc (.cells ([.int .i64 (p.kind : Int), .int .i64 p.leaf, .int .i64 (p.left : Int), .int .i64 (p.right : Int), .int .i64 p.up, .bool p.onR, .bool p.done] : List Value).toArray 100)) = w3 at B5 hb5 hY5 hbB ⊢
      clear hq5 ca b0 b2 b3 e0 e1 e2 e3 e4 e5 e6 lyb lag hY hb5 B5
      obtain ⟨-, -, b2, -, -⟩ := hY5.heads
      have hlen := ended_len _ _ _ _ _ _ _ HH.out.1
      have HLn := Lib.hid hlen
      clear hlen
      have HY := Lib.hid (hY5.below (below_drew (Below.refl _ _)))
      have HBB := Lib.hid hbB.drew
      clear hY5 hbB
      go_region_with ((go_at_call 38; refine (ended_any (k + 1) { y with ps := ps, at_ := y.at_.set who (n : Int), qs := y.qs.set who q1 } n who q1 ps1 q2 a2 w3.drew yb base lv _ _ _ D gs rs1 HY.out HI.out.2 (by have := HP.out.1; dsimp only; omega) HH.out.1).mono ?_; rintro e w2 ⟨rfl, ⟨rs2, h2⟩, hb2⟩; obtain ⟨-, -, c2, -, -⟩ := h2.heads; have ca2 := h2.at_cell rfl HI.out.1; have hrow2 := h2.ats; have fa2 := own_free hrow2 who))
      all_goals
        have e : (y.at_.set who (n : Int)).length = nA := by rw [List.length_set, HN.out.1]
        rw [e] at hrow2
        have hrs := own_setCell (i := who) hrow2 (.int .i64 a2)
        have hgs := grown_setCell w2 ag who (.int .i64 a2)
        have hY4 := YA.moved (A := .slice (some ⟨ag, 0, none⟩) nA ac) h2 (xs := (y.at_.set who n).set who a2) rfl (by simp) (by
          dsimp only
          rw [ints_set, e]
          exact hrs) hgs
        rw [List.set_set, List.set_set] at hY4
        have hb4 := (HBB.out.trans hb2).trans (Fr.row h2.ats (by decide) rfl hgs h2.base_le)
        have HE := Lib.hid (And.intro hY4 (And.intro hb4 HH.out.2))
        clear hY4 hb4 hrs hgs hrow2 h2 hb2 c2 ca2 fa2 e
        go_wp2
        go_roundg k
        case measure => omega
        case rel => exact ⟨ps1, _, _, _, by rw [← HP.out.1]; exact HE.out.1, HE.out.2.1, HLn.out.trans HL.out.1, HE.out.2.2⟩
end Go.Proofs.Ytajddbmmbhdnfaa
