/-
  A run by which all is done is an order; two rows of integers grown side by side.
-/
import Derived.Test.YtcoijmnnnfogdaaSmP2
import Derived.Deep.LoopGhost
import Derived.Deep.RegionLaw
import Derived.Deep.DeepCutAuto
import Derived.Test.YtcoijmnnnfogdaaSmP1
import Derived.Test.YtcoijmnnnfogdaaChecked

namespace Go.Proofs.Ytcoijmnnnfogdaa
set_option linter.unusedVariables false
set_option linter.unusedSimpArgs false
set_option maxRecDepth 100000
open Go.RowKit

def SetPost (w : World) (yb base lv : Nat) (y : Stl.Y) (P A Q D : Value) (gs : List Nat) (who : Nat) (ps' : List Stl.Part) (q' : List Nat) (a' : Int) : Ending → World → Prop := fun e w' =>
  e = .returned (.tuple #[]) ∧ (∃ rs', YA w' yb base { y with ps := ps', at_ := y.at_.set who a', qs := y.qs.set who q' } lv P A Q D gs rs') ∧ Fr base w w'

theorem YA.at_cell {w : World} {yb base lv : Nat} {y : Stl.Y} {P A Q D : Value} {gs : List Nat} {rs : List (Option Nat)} (h : YA w yb base y lv P A Q D gs rs) {ag n ac : Nat} (hA : A = .slice (some ⟨ag, 0, none⟩) n ac) {i : Nat} {a : Int} (ha : y.at_[i]? = some a) : w.cell? ⟨ag, i, none⟩ = some (.int .i64 a) := by
  have hr := h.ats
  rw [hA] at hr
  have hNe : n = y.at_.length := own_len hr
  rw [hNe] at hr
  have hi := (List.getElem?_eq_some_iff.1 ha).1
  rw [hr.cellAt i (by omega)]
  simp [ints, ha]
theorem YA.q_cell {w : World} {yb base lv : Nat} {y : Stl.Y} {P A Q D : Value} {gs : List Nat} {rs : List (Option Nat)} (h : YA w yb base y lv P A Q D gs rs) {qg n qc : Nat} (hQ : Q = .slice (some ⟨qg, 0, none⟩) n qc) {i g : Nat} (hg : gs[i]? = some g) : w.cell? ⟨qg, i, none⟩ = some (.pointer (some ⟨g, 0, none⟩)) := by
  have hr := h.qus
  rw [hQ] at hr
  have hNe : n = gs.length := own_len hr
  rw [hNe] at hr
  have hi := (List.getElem?_eq_some_iff.1 hg).1
  rw [hr.cellAt i (by omega)]
  exact ptrs_get _ _ _ hg
theorem ended_len : ∀ (f : Nat) (ps : List Stl.Part) (q : List Nat) (n : Nat) (ps' : List Stl.Part) (q' : List Nat) (a' : Int), Stl.ended f ps q n = some (ps', q', a') → ps'.length = ps.length
  | 0, ps, q, n, ps', q', a', h => by simp [Stl.ended] at h
  | f + 1, ps, q, n, ps', q', a', h => by
    have hm : (Stl.mark ps n).length = ps.length := by unfold Stl.mark; split <;> simp
    unfold Stl.ended at h
    split at h
    · cases h
    · split at h
      · cases h; exact hm
      · split at h
        · cases h
        · split at h
          · split at h
            · exact (ended_len f _ _ _ _ _ _ h).trans hm
            · cases h; exact hm
          · split at h
            · split at h
              · exact (ended_len f _ _ _ _ _ _ h).trans hm
              · split at h
                · cases h; exact hm
                · split at h
                  · cases h; exact hm
                  · cases h; exact hm
            · cases h
theorem own_setCell {w : World} {base : Nat} {e : TypeId} {size g n c i : Nat} {xs : List Value} (h : w.ownsRow base e size (.slice (some ⟨g, 0, none⟩) n c) n xs) (u : Value) : (w.setCell ⟨g, i, none⟩ u).ownsRow base e size (.slice (some ⟨g, 0, none⟩) n c) n (xs.set i u) := by
  obtain ⟨cs, hB, hl, rfl, hn, hm, hb⟩ := row_blk h
  have := row_of_blk (size := size) (c := c) (n := n) (hB.set_ i u) (by simpa using hl) hb hn hm
  rw [List.take_set] at this
  exact this


theorem own_free {w : World} {base : Nat} {e : TypeId} {size n g m c : Nat} {xs : List Value} (h : w.ownsRow base e size (.slice (some ⟨g, 0, none⟩) m c) n xs) (i : Nat) : w.frozen? ⟨g, i, none⟩ = false := by
  have hm : m = n := own_len h
  subst hm
  obtain ⟨cs, hB, -⟩ := row_blk h
  exact hB.frozen i
theorem _root_.Go.World.ownsRow.drewN_ {w : World} {base : Nat} {e : TypeId} {size n : Nat} {v : Value} {xs : List Value} (h : w.ownsRow base e size v n xs) (k : Nat) : (w.drewN k).ownsRow base e size v n xs := h
set_option maxHeartbeats 4000000 in
theorem settle_any (f : Nat) (y : Stl.Y) (who : Nat) (q : List Nat) (a : Int) (ps' : List Stl.Part) (q' : List Nat) (a' : Int) (w : World) (yb base lv : Nat) (P A Q D : Value) (gs : List Nat) (rs : List (Option Nat)) (h : YA w yb base y lv P A Q D gs rs) (hq : y.qs[who]? = some q) (ha : y.at_[who]? = some a) (hN : y.ps.length ≤ 1152921504606846976) (hF : Stl.settle f y.ps q a = some (ps', q', a')) :
      Calls Try.prog 25 #[.pointer (some ⟨yb, 0, none⟩), .int .i64 (who : Int)] w (SetPost w yb base lv y P A Q D gs who ps' q' a') := by
  have hwho := (List.getElem?_eq_some_iff.1 ha).1
  have l1 := h.len1
  have l3 := h.len3
  obtain ⟨ag, ac, rfl, hale, ham, hab, hal⟩ := own_addr h.ats (by omega)
  obtain ⟨qg, qc, rfl, hqle, hqm, hqb, hql⟩ := own_addr h.qus (by omega)
  unfold maxLen at ham hqm
  have hwg : who < gs.length := by omega
  obtain ⟨nA, hnA⟩ : ∃ nA, nA = y.at_.length := ⟨_, rfl⟩
  rw [← hnA] at h hale hwho ⊢
  have HN := Lib.hid (And.intro hnA (And.intro hq ha))
  clear hq ha hnA l1 l3
  have hbw := h.base_le
  go_enter Try.func25, Try.ntmps25
  go_wp2
  go_loopg [] f (fun k wr => ∃ (ps : List Stl.Part) (q1 : List Nat) (a1 : Int) (rs1 : List (Option Nat)), YA wr yb base { y with ps := ps, at_ := y.at_.set who a1, qs := y.qs.set who q1 } lv P (.slice (some ⟨ag, 0, none⟩) nA ac) (.slice (some ⟨qg, 0, none⟩) gs.length qc) D gs rs1 ∧ Fr base w wr ∧ (ps.length = y.ps.length ∧ Stl.settle k ps q1 a1 = some (ps', q', a')))
  case atStart => exact ⟨y.ps, q, a, rs, by
    have e1 : y.at_.set who a = y.at_ := by
      obtain ⟨h1, h2⟩ := List.getElem?_eq_some_iff.1 HN.out.2.2
      rw [← h2]; exact List.set_getElem_self ..
    have e2 : y.qs.set who q = y.qs := by
      obtain ⟨h1, h2⟩ := List.getElem?_eq_some_iff.1 HN.out.2.1
      rw [← h2]; exact List.set_getElem_self ..
    rw [e1, e2]
    exact h, Fr.refl _ _, rfl, hF⟩
  case round =>
    clear hF h
    obtain ⟨ps, q1, a1, rs1, hY, hb, hl, hF⟩ := hrel
    rcases gk with _ | k
    · simp [Stl.settle] at hF
    obtain ⟨b0, -, b2, b3, -⟩ := hY.heads
    have hwl : who < y.at_.length := by rw [← HN.out.1]; exact hwho
    have hwq : who < y.qs.length := by
      have := (List.getElem?_eq_some_iff.1 HN.out.2.1).1; exact this
    have hat : (y.at_.set who a1)[who]? = some a1 := by simp [hwl]
    have hqt : (y.qs.set who q1)[who]? = some q1 := by simp [hwq]
    have ca := hY.at_cell rfl hat
    have lag := World.block_lt_of_cell? wr _ ca
    have lyb := hY.lt
    have HI := Lib.hid (And.intro hat hqt)
    have HL := Lib.hid (And.intro hl (And.intro hwl hwq))
    clear hat hqt hl hwl hwq
    unfold Stl.settle at hF
    by_cases ha0 : a1 < 0
    · rw [if_pos ha0] at hF
      cases hF
      go_wp2
      go_end0
      exact ⟨rfl, ⟨rs1, hY⟩, hb⟩
    rw [if_neg ha0] at hF
    obtain ⟨n, rfl⟩ : ∃ n : Nat, a1 = n := ⟨a1.toNat, by omega⟩
    rw [Int.toNat_natCast] at hF
    rcases hp : ps[n]? with _ | p
    · rw [hp] at hF; simp at hF
    rw [hp] at hF
    dsimp only at hF
    have hn := (List.getElem?_eq_some_iff.1 hp).1
    obtain ⟨pg, cap, rfl, hle, hm, hpb, hpl⟩ := own_addr hY.parts (by show 0 < ps.length; omega)
    obtain ⟨e0, e1, e2, e3, e4, e5, e6⟩ := hY.cells rfl hp
    unfold maxLen at hm
    obtain ⟨nP, hnP⟩ : ∃ nP, nP = ps.length := ⟨_, rfl⟩
    dsimp only at hY hle b0 ⊢
    rw [← hnP] at hle hn b0 hY ⊢
    have hnN : nP ≤ 1152921504606846976 := by rw [hnP]; have := HL.out.1; omega
    have HP := Lib.hid (And.intro hnP hp)
    clear hnP hp ha0
    obtain ⟨q5, hq5⟩ : ∃ q5, q5 = wr.heap.size := ⟨_, rfl⟩
    have B5 := Blk.new wr 85 [.int .i64 (p.kind : Int), .int .i64 p.leaf, .int .i64 (p.left : Int), .int .i64 (p.right : Int), .int .i64 p.up, .bool p.onR, .bool p.done]
    have hb5 : Below wr.heap.size wr (wr.alloc (.cells ([.int .i64 (p.kind : Int), .int .i64 p.leaf, .int .i64 (p.left : Int), .int .i64 (p.right : Int), .int .i64 p.up, .bool p.onR, .bool p.done] : List Value).toArray 85)) := below_alloc (Below.refl _ _) _
    have hY5 := hY.below hb5
    have hbB := hb.below hb5 hbw
    by_cases k1 : p.kind = 1
    · have k1' : (p.kind : Int) = 1 := by omega
      rw [if_pos k1] at hF
      cases hF
      rw [k1'] at e0 B5 hb5 hY5 hbB
      clear k1
      go_wp2
      go_end0
      exact ⟨rfl, ⟨rs1, hY5⟩, hbB⟩
    rw [if_neg k1] at hF
    by_cases k3 : p.kind = 3
    · have k3' : (p.kind : Int) = 3 := by omega
      rw [if_pos k3] at hF
      have hql : q1.length < 1099511627776 := Classical.byContradiction fun hno => by rw [if_neg hno] at hF; cases hF
      rw [if_pos hql] at hF
      rw [k3'] at e0 B5 hb5 hY5 hbB
      obtain ⟨g, r, hgw, hrw, hdq, hgb⟩ := hY5.at_dq HI.out.2
      have qcell := hY.q_cell rfl hgw
      have lqg := World.block_lt_of_cell? wr _ qcell
      have HG := Lib.hid (And.intro hgw (And.intro hrw hgb))
      clear hgw hrw hgb k1 k3
      rw [← hq5] at B5
      have hqg : q5 ≠ g := fun e => by
        obtain ⟨cs, hc⟩ := hdq.blk
        rw [e] at B5
        exact Blk.type_ne B5 hc (by decide) rfl
      have hqr : ∀ b, some b = r → q5 ≠ b := fun b e e' => by
        obtain ⟨v, m, xs, hr, hv⟩ := hdq.row
        exact own_blk_ne hr B5 (by decide) (by rw [hv, ← e, e'])
      have HQ5 := Lib.hid (And.intro hq5 (And.intro hqg hqr))
      clear hqg hqr
      go_wp2_with fail
      rw [← hq5]
      generalize (wr.alloc (.cells ([.int .i64 3, .int .i64 p.leaf, .int .i64 (p.left : Int), .int .i64 (p.right : Int), .int .i64 p.up, .bool p.onR, .bool p.done] : List Value).toArray 85)) = W at B5 hb5 hY5 hbB hdq ⊢
      clear hq5 ca b0 b2 b3 e0 e1 e2 e3 e4 e5 e6 qcell lyb lag lqg hY
      obtain ⟨-, -, b2, b3, -⟩ := hY5.heads
      have qcell := hY5.q_cell rfl HG.out.1
      have f3 : W.cell? ⟨q5, 3, none⟩ = some (.int .i64 (p.right : Int)) := (B5.cell 3).trans rfl
      (refine still_last (by kernel_rfl) (by kernel_rfl) ?_; simp only [List.length_cons, List.length_nil, Nat.reduceAdd, Nat.reduceSub, List.take_succ_cons, List.take_zero, List.drop_succ_cons, List.drop_zero]; repeat still_step; try refine wpStill_nil ?_)
      go_wp2_with fail
      refine (push_any g (p.right : Int) _ r (W.drewN 1) (hY5.below (below_drewN (Below.refl _ _) 1) |>.dq who g r q1 HG.out.1 HG.out.2.1 HI.out.2).1 (by rw [List.length_map]; omega)).mono ?_
      rintro e w3 ⟨rfl, ⟨r', hd3, hr3⟩, hk3⟩
      have hY6 := hY5.below (below_drewN (Below.refl W.heap.size W) 1)
      have hY3 := hY6.deque (l := q1 ++ [p.right]) HG.out.1 HG.out.2.1 hk3 (by rw [List.map_append]; exact hd3) hr3
      have B3 := (B5.drewN 1).keeps hk3 (fun e => e.elim HQ5.out.2.1 fun e => HQ5.out.2.2 _ e rfl)
      have hbB3 := (hbB.drewN 1).trans (Fr.dq (hY6.dq who g r q1 HG.out.1 HG.out.2.1 HI.out.2).1 hk3 (Nat.le_trans hbw (hbB.drewN 1).size) HG.out.2.2)
      rw [List.set_set] at hY3
      clear hd3 hr3 hk3 hY6 hY5 B5 hb5 hbB b2 b3 qcell f3 hdq
      obtain ⟨-, -, b2, -, -⟩ := hY3.heads
      have ca := hY3.at_cell rfl HI.out.1
      have f2 : w3.cell? ⟨q5, 2, none⟩ = some (.int .i64 (p.left : Int)) := (B3.cell 2).trans rfl
      have hrow := hY3.ats
      have hYe := hY3
      dsimp only at hrow
      rw [List.length_set, ← HN.out.1] at hrow
      have HY := Lib.hid hYe
      clear hYe hY3 B3
      go_wp2_with fail
      (refine still_last (by kernel_rfl) (by kernel_rfl) ?_; simp only [List.length_cons, List.length_nil, Nat.reduceAdd, Nat.reduceSub, List.take_succ_cons, List.take_zero, List.drop_succ_cons, List.drop_zero]; repeat still_step; try refine wpStill_nil ?_)
      refine wpl_set_row (hrow.drewN_ 1) who (.int .i64 (p.left : Int)) (by kernel_rfl) (by omega) rfl rfl rfl rfl rfl rfl ?_
      intro w4 hown4 hg4
      have hY4 := YA.moved (A := .slice (some ⟨ag, 0, none⟩) nA ac) (HY.out.below (below_drewN (Below.refl _ _) 1)) (xs := (y.at_.set who n).set who (p.left : Int)) rfl (by simp) (by
        dsimp only
        rw [List.length_set, ← HN.out.1, ints_set]
        exact hown4) hg4
      rw [List.set_set] at hY4
      have hb4 := (hbB3.drewN 1).trans (Fr.row (HY.out.below (below_drewN (Below.refl _ _) 1)).ats (by decide) rfl hg4 (HY.out.below (below_drewN (Below.refl _ _) 1)).base_le)
      have HE := Lib.hid (And.intro hY4 (And.intro hb4 hF))
      clear hY4 hb4 hF hown4 hg4 hrow
      go_wp2
      go_roundg k
      case measure => omega
      case rel => exact ⟨ps, _, _, _, by rw [← HP.out.1]; exact HE.out.1, HE.out.2.1, HL.out.1, HE.out.2.2⟩
    rw [if_neg k3] at hF
    by_cases k2 : p.kind = 2
    · have k2' : (p.kind : Int) = 2 := by omega
      rw [if_pos k2] at hF
      rw [k2'] at e0 B5 hb5 hY5 hbB
      clear k1 k2 k3
      rw [← hq5] at B5
      go_wp2_with fail
      rw [← hq5]
      generalize (wr.alloc (.cells ([.int .i64 2, .int .i64 p.leaf, .int .i64 (p.left : Int), .int .i64 (p.right : Int), .int .i64 p.up, .bool p.onR, .bool p.done] : List Value).toArray 85)) = w3 at B5 hb5 hY5 hbB ⊢
      clear hq5 ca b0 b2 b3 e0 e1 e2 e3 e4 e5 e6 lyb lag hY hb5
      obtain ⟨-, -, b2, -, -⟩ := hY5.heads
      have ca := hY5.at_cell rfl HI.out.1
      have f2 : w3.cell? ⟨q5, 2, none⟩ = some (.int .i64 (p.left : Int)) := (B5.cell 2).trans rfl
      have hrow := hY5.ats
      dsimp only at hrow
      rw [List.length_set, ← HN.out.1] at hrow
      have HY := Lib.hid hY5
      clear hY5 B5
      (refine still_last (by kernel_rfl) (by kernel_rfl) ?_; simp only [List.length_cons, List.length_nil, Nat.reduceAdd, Nat.reduceSub, List.take_succ_cons, List.take_zero, List.drop_succ_cons, List.drop_zero]; repeat still_step; try refine wpStill_nil ?_)
      refine wpl_set_row (hrow.drewN_ 1) who (.int .i64 (p.left : Int)) (by kernel_rfl) (by omega) rfl rfl rfl rfl rfl rfl ?_
      intro w4 hown4 hg4
      have hY4 := YA.moved (A := .slice (some ⟨ag, 0, none⟩) nA ac) (HY.out.below (below_drewN (Below.refl _ _) 1)) (xs := (y.at_.set who n).set who (p.left : Int)) rfl (by simp) (by
        dsimp only
        rw [List.length_set, ← HN.out.1, ints_set]
        exact hown4) hg4
      rw [List.set_set] at hY4
      have hb4 := (hbB.drewN 1).trans (Fr.row (HY.out.below (below_drewN (Below.refl _ _) 1)).ats (by decide) rfl hg4 (HY.out.below (below_drewN (Below.refl _ _) 1)).base_le)
      have HE := Lib.hid (And.intro hY4 (And.intro hb4 hF))
      clear hY4 hb4 hF hown4 hg4 hrow
      go_wp2
      go_roundg k
      case measure => omega
      case rel => exact ⟨ps, _, _, _, by rw [← HP.out.1]; exact HE.out.1, HE.out.2.1, HL.out.1, HE.out.2.2⟩
    · rw [if_neg k2] at hF
      have e1' : ((p.kind : Int) == 1) = false := by rw [beq_eq_false_iff_ne]; omega
      have e2' : ((p.kind : Int) == 2) = false := by rw [beq_eq_false_iff_ne]; omega
      have e3' : ((p.kind : Int) == 3) = false := by rw [beq_eq_false_iff_ne]; omega
      rcases he : Stl.ended (k + 1) ps q1 n with _ | ⟨ps1, q2, a2⟩
      · rw [he] at hF; simp at hF
      rw [he] at hF
      dsimp only at hF
      have HH := Lib.hid (And.intro he hF)
      clear he hF k1 k2 k3
      go_wp2_with fail
      rw [← hq5] at B5 ⊢
      generalize (wr.alloc (.cells ([.int .i64 (p.kind : Int), .int .i64 p.leaf, .int .i64 (p.left : Int), .int .i64 (p.right : Int), .int .i64 p.up, .bool p.onR, .bool p.done] : List Value).toArray 85)) = w3 at B5 hb5 hY5 hbB ⊢
      clear hq5 ca b0 b2 b3 e0 e1 e2 e3 e4 e5 e6 lyb lag hY hb5 B5
      obtain ⟨-, -, b2, -, -⟩ := hY5.heads
      have hlen := ended_len _ _ _ _ _ _ _ HH.out.1
      have HLn := Lib.hid hlen
      clear hlen
      have HY := Lib.hid (hY5.below (below_drew (Below.refl _ _)))
      have HBB := Lib.hid hbB.drew
      clear hY5 hbB
      go_region_with ((go_at_call 39; refine (ended_any (k + 1) { y with ps := ps, at_ := y.at_.set who (n : Int), qs := y.qs.set who q1 } n who q1 ps1 q2 a2 w3.drew yb base lv _ _ _ D gs rs1 HY.out HI.out.2 (by have := HP.out.1; dsimp only; omega) HH.out.1).mono ?_; rintro e w2 ⟨rfl, ⟨rs2, h2⟩, hb2⟩; obtain ⟨-, -, c2, -, -⟩ := h2.heads; have ca2 := h2.at_cell rfl HI.out.1; have hrow2 := h2.ats; have fa2 := own_free hrow2 who))
      all_goals
        have e : (y.at_.set who (n : Int)).length = nA := by rw [List.length_set, HN.out.1]
        rw [e] at hrow2
        have hrs := own_setCell (i := who) hrow2 (.int .i64 a2)
        have hgs := grown_setCell w2 ag who (.int .i64 a2)
        have hY4 := YA.moved (A := .slice (some ⟨ag, 0, none⟩) nA ac) h2 (xs := (y.at_.set who n).set who a2) rfl (by simp) (by
          dsimp only
          rw [ints_set, e]
          exact hrs) hgs
        rw [List.set_set, List.set_set] at hY4
        have hb4 := (HBB.out.trans hb2).trans (Fr.row h2.ats (by decide) rfl hgs h2.base_le)
        have HE := Lib.hid (And.intro hY4 (And.intro hb4 HH.out.2))
        clear hY4 hb4 hrs hgs hrow2 h2 hb2 c2 ca2 fa2 e
        go_wp2
        go_roundg k
        case measure => omega
        case rel => exact ⟨ps1, _, _, _, by rw [← HP.out.1]; exact HE.out.1, HE.out.2.1, HLn.out.trans HL.out.1, HE.out.2.2⟩
end Go.Proofs.Ytcoijmnnnfogdaa


namespace Go.Proofs.Ytcoijmnnnfogdaa
set_option linter.unusedVariables false
set_option linter.unusedSimpArgs false
set_option maxRecDepth 100000
open Go.RowKit

def FSlv (sz n : Nat) (vs : List Value) : Fact (fun w w' => Below w.heap.size w w') := ⟨fun v w => SlV w sz v n vs, fun _ _ _ h k => h.below k⟩
theorem below_of_grown' {a b : World} {B : Nat} {r : Option Nat} (h : a.grownBy b r) (hB : B ≤ a.heap.size) (hr : ∀ i, r = some i → B ≤ i) : Below B a b :=
  ⟨h.os, h.tape, h.output, h.size, fun k hk => h.block k (by omega) (fun e => by have := hr k e.symm; omega)⟩
def PickPost (w : World) (yb base lv : Nat) (y' : Stl.Y) (P A Q : Value) (gs : List Nat) : Ending → World → Prop := fun e w' =>
  e = .returned (.tuple #[]) ∧ (∃ D' rs', YA w' yb base y' lv P A Q D' gs rs') ∧ Fr base w w'

set_option maxHeartbeats 4000000 in
theorem pick_out (y : Stl.Y) (who whom : Int) (w : World) (yb base lv : Nat) (P A Q D : Value) (gs : List Nat) (rs : List (Option Nat)) (h : YA w yb base y lv P A Q D gs rs) (hr : who < 0 ∨ (y.at_.length : Int) ≤ who) :
    Calls Try.prog 26 #[.pointer (some ⟨yb, 0, none⟩), .agg #[.int .i64 who, .int .i64 whom]] w (PickPost w yb base lv y P A Q gs) := by
  obtain ⟨-, -, b2, -, -⟩ := h.heads
  obtain ⟨Aa, ac, rfl, hle, hm⟩ := own_slice h.ats
  have hb5 : Below w.heap.size w (w.alloc (.cells #[.int .i64 who, .int .i64 whom] 59)) := below_alloc (Below.refl _ _) _
  have l1 := h.lt
  unfold maxLen at hm
  rcases Int.lt_or_le who 0 with h0 | h0
  · have hd : decide (who < 0) = true := by simpa using h0
    go_enter Try.func26, Try.ntmps26
    go_wp2
    go_quiet (fail)
    go_wp2
    go_end0
    exact ⟨rfl, ⟨_, rs, h.below (below_drewN hb5 _)⟩, ((Fr.refl _ _).alloc h.base_le _).drewN _⟩
  · have hd : decide (who < 0) = false := by simpa using h0
    have hd2 : decide ((y.at_.length : Int) ≤ who) = true := by simpa using hr.resolve_left (by omega)
    have hr' : ¬ who < (y.at_.length : Int) := by omega
    obtain ⟨nA, hnA⟩ : ∃ nA, nA = y.at_.length := ⟨_, rfl⟩
    go_enter Try.func26, Try.ntmps26
    go_wp2
    go_quiet (fail)
    go_wp2
    go_end0
    exact ⟨rfl, ⟨_, rs, h.below (below_drewN hb5 _)⟩, ((Fr.refl _ _).alloc h.base_le _).drewN _⟩


/-- it is noted that a leaf is done -/
theorem picked {w W w4 : World} {yb base lv q3 : Nat} {y : Stl.Y} {P A Q D v4 : Value} {gs : List Nat} {rs : List (Option Nat)} {x : Nat × Int} {dw : Option Nat} {o : Obj} {cs : List Value} (h : YA W yb base y lv P A Q D gs rs) (hb : Fr base w W) (hB : Blk W q3 59 cs) (hdw : dw = D.ownBlock) (hn3 : ¬ dw = some q3) (hg : (W.alloc o).drew.grownBy w4 D.ownBlock) (hown : w4.ownsRow base 35 2 v4 (y.log.length + 1) (donecs y.log ++ donec x)) (hv : v4.ownBlock = D.ownBlock ∨ v4.ownBlock = some (W.alloc o).drew.heap.size) :
    ∃ D', YA (w4.setCell ⟨yb, 4, none⟩ v4) yb base ⟨y.ps, y.at_, y.qs, y.log ++ [x]⟩ lv P A Q D' gs rs ∧ Fr base w (w4.setCell ⟨yb, 4, none⟩ v4) ∧ Blk (w4.setCell ⟨yb, 4, none⟩ v4) q3 59 cs := by
  have hb0 : Below W.heap.size W (W.alloc o).drew := below_drew (below_alloc (Below.refl _ _) _)
  have h0 := h.below hb0
  have hyD : D.ownBlock ≠ some yb := own_blk_ne h.log h.blk (by decide)
  have hB4 : Blk w4 yb 65 [P, .int .i64 (lv : Int), A, Q, D] := h0.blk.grown hg (fun e => hyD e.symm)
  have hs := hB4.set_ 4 v4
  have hgs := grown_setCell w4 yb 4 v4
  have hy3 : yb ≠ q3 := Blk.type_ne h.blk hB (by decide)
  refine ⟨v4, h0.logged hown hg hs hgs, ?_, ?_⟩
  · have b1 : Fr base w (W.alloc o).drew := (hb.alloc h.base_le o).drew
    have b2 : Fr base (W.alloc o).drew w4 := ⟨below_of_grown' hg h0.base_le (fun i e => (h0.log.lt i e).1), fun g' cs hb' => hb'.grown hg (fun e => own_blk_ne h0.log hb' (by decide) e.symm)⟩
    have b3 : Fr base w4 (w4.setCell ⟨yb, 4, none⟩ v4) := ⟨below_of_grown hgs (Nat.le_trans h0.base_le hg.size) h.above, fun g' cs hb' => hb'.grown hgs (fun e => Blk.type_ne hB4 hb' (by decide) (by injection e with e; exact e.symm))⟩
    exact (b1.trans b2).trans b3
  · have := (hB.below hb0).grown hg (fun e => hn3 (by rw [hdw, e]))
    exact this.grown hgs (fun e => hy3 (by injection e with e; exact e.symm))

set_option maxHeartbeats 16000000 in
theorem pick_leaf (f : Nat) (y : Stl.Y) (who n : Nat) (whom : Int) (q : List Nat) (p : Stl.Part) (ps1 : List Stl.Part) (q1 : List Nat) (a1 : Int) (ps2 : List Stl.Part) (q2 : List Nat) (a2 : Int) (w : World) (yb base lv : Nat) (P A Q D : Value) (gs : List Nat) (rs : List (Option Nat)) (h : YA w yb base y lv P A Q D gs rs)
    (hq : y.qs[who]? = some q) (ha : y.at_[who]? = some (n : Int)) (hp : y.ps[n]? = some p) (he : Stl.ended f y.ps q n = some (ps1, q1, a1)) (hs : Stl.settle f ps1 q1 a1 = some (ps2, q2, a2)) (hN : y.ps.length ≤ 1152921504606846976) (hlog : y.log.length ≤ 1099511627776) :
    Calls Try.prog 26 #[.pointer (some ⟨yb, 0, none⟩), .agg #[.int .i64 (who : Int), .int .i64 whom]] w (PickPost w yb base lv ⟨ps2, y.at_.set who a2, y.qs.set who q2, y.log ++ [(who, p.leaf)]⟩ P A Q gs) := by
  have hwho := (List.getElem?_eq_some_iff.1 ha).1
  have hn := (List.getElem?_eq_some_iff.1 hp).1
  obtain ⟨ag, ac, rfl, hale, ham, hab, hal⟩ := own_addr h.ats (by omega)
  obtain ⟨pg, cap, rfl, hle, hm, hpb, hpl⟩ := own_addr h.parts (by omega)
  obtain ⟨-, -, b2, -, -⟩ := h.heads
  have ca := h.at_cell rfl ha
  have l1 := h.lt
  unfold maxLen at ham hm
  have hb5 : Below w.heap.size w (w.alloc (.cells #[.int .i64 (who : Int), .int .i64 whom] 59)) := below_alloc (Below.refl _ _) _
  have hY0 := h.below hb5
  have B3 := Blk.new w 59 [.int .i64 (who : Int), .int .i64 whom]
  have hbB := (Fr.refl base w).alloc h.base_le (.cells #[.int .i64 (who : Int), .int .i64 whom] 59)
  obtain ⟨nA, hnA⟩ : ∃ nA, nA = y.at_.length := ⟨_, rfl⟩
  rw [← hnA] at hale hwho b2 hY0 ⊢
  have hwl0 := Lib.hid hwho
  have HH := Lib.hid (And.intro hq (And.intro ha (And.intro hp (And.intro he (And.intro hs hnA)))))
  clear hq ha hp he hs hnA
  have hwl := hwl0.out
  have hnd1 : decide ((who : Int) < 0) = false := by simp
  have hnd2 : decide (nA ≤ who) = false := by simp; omega
  go_enter Try.func26, Try.ntmps26
  go_wp2
  go_quiet (fail)
  rename Nat => nq0
  go_wp2_with fail
  go_quiet (fail)
  go_wp2_with fail
  obtain ⟨q3, hq3⟩ : ∃ q3, q3 = w.heap.size := ⟨_, rfl⟩
  rw [← hq3] at B3 ⊢
  have hY1 := hY0.below (below_drewN (Below.refl _ _) (nq0 + nq))
  have hbB1 := hbB.drewN (nq0 + nq)
  have B1 := B3.drewN (nq0 + nq)
  clear hY0 hbB B3 b2 ca hb5 hq3 h
  generalize ((w.alloc (.cells ([.int .i64 (who : Int), .int .i64 whom] : List Value).toArray 59)).drewN (nq0 + nq)) = W at hY1 hbB1 B1 ⊢
  obtain ⟨b0, -, b2, -, b4⟩ := hY1.heads
  have e1 := (hY1.cells rfl HH.out.2.2.1).2.1
  have f0 : W.cell? ⟨q3, 0, none⟩ = some (.int .i64 (who : Int)) := (B1.cell 0).trans rfl
  obtain ⟨Da, dn, dc, rfl⟩ : ∃ Da dn dc, D = .slice Da dn dc := by
    obtain ⟨A', c', e, -, -⟩ := own_slice hY1.log
    exact ⟨_, _, _, e⟩
  obtain ⟨dw, hdw⟩ : ∃ dw, dw = (Value.slice Da dn dc).ownBlock := ⟨_, rfl⟩
  have hny : ¬ dw = some yb := by rw [hdw]; exact own_blk_ne hY1.log hY1.blk (by decide)
  have hn3 : ¬ dw = some q3 := by rw [hdw]; exact own_blk_ne hY1.log B1 (by decide)
  have hnp : ¬ dw = some pg := fun e => own_own_ne hY1.log hY1.parts (by decide) (by rw [← hdw]; exact e) rfl
  have KS : ∀ w', Keeps (fun k => dw = some k) W w' → (Keeps (fun k => dw = some k) W w' ∧ w'.cell? ⟨yb, 0, none⟩ = some (.slice (some ⟨pg, 0, none⟩) y.ps.length cap) ∧ w'.cell? ⟨yb, 4, none⟩ = some (.slice Da dn dc) ∧ w'.cell? ⟨q3, 0, none⟩ = some (.int .i64 (who : Int)) ∧ w'.cell? ⟨pg, n * 7 + 1, none⟩ = some (.int .i64 p.leaf) ∧ w'.frozen? ⟨yb, 4, none⟩ = false) := fun w' hk =>
    ⟨hk, hk.cell b0 hny, hk.cell b4 hny, hk.cell f0 hn3, hk.cell e1 hnp, (hY1.blk.keeps hk hny).frozen 4⟩
  have hrow : ∀ o : Obj, (W.alloc o).drew.ownsRow base 35 2 (.slice Da dn dc) y.log.length (donecs y.log) := fun o => (hY1.log.alloc o).drew
  have hba : ∀ o : Obj, base ≤ (W.alloc o).drew.heap.size := fun o => by have := hY1.base_le; simp; omega
  have n63 : y.log.length + 1 ≤ maxLen := by unfold maxLen; omega
  have n47 : (y.log.length + 1) * 16 ≤ 140737488355328 := by omega
  have HL := Lib.hid (And.intro hY1 (And.intro hbB1 (And.intro B1 hdw)))
  have fr4 := (hY1.blk).frozen 4
  have ly := hY1.lt
  have l3 := B1.lt
  have lp := World.block_lt_of_cell? W _ e1
  clear b2 hY1 hbB1 B1 hdw
  have HKS := Lib.hid KS
  go_cut [] (fun wx => ∃ D', YA wx yb base ⟨y.ps, y.at_, y.qs, y.log ++ [(who, p.leaf)]⟩ lv (.slice (some ⟨pg, 0, none⟩) y.ps.length cap) (.slice (some ⟨ag, 0, none⟩) nA ac) Q D' gs rs ∧ Fr base w wx ∧ Blk wx q3 59 [.int .i64 (who : Int), .int .i64 whom])
  case first =>
    go_region_law (refine step_append _ _ _ _ _ _ _ _ Try.underlying29 info_done rfl (by decide) (hrow _) (show Cells _ _ _ (donec (who, p.leaf)) from Cells.new W _ 35) rfl (donec_one _) n63 n47 (hba _) rfl rfl rfl rfl ?_; intro v4 w4 hown4 hg4 hv4 hb4; have hk4 : Keeps (fun k => dw = some k) W w4 := (((Keeps.refl _ W).alloc _).drewN 1).trans ((Keeps.of_grown hg4).mono (fun i hi => by rw [HL.out.2.2.2]; exact hi.symm)); obtain ⟨A4, k4, rfl, hle4, hm4⟩ := own_slice hown4; obtain ⟨-, -, c4, -, -, f4⟩ := KS w4 hk4)
    all_goals
      have hend := picked HL.out.1 HL.out.2.1 HL.out.2.2.1 HL.out.2.2.2 hn3 hg4 hown4 hv4
      go_wp2_with fail
      go_meet
      case rel => exact hend
  case rest =>
    obtain ⟨D', hY2, hb2, B2⟩ := hcut
    obtain ⟨-, -, b2, -, -⟩ := hY2.heads
    have f0 : wc.cell? ⟨q3, 0, none⟩ = some (.int .i64 (who : Int)) := (B2.cell 0).trans rfl
    have hlen := ended_len _ _ _ _ _ _ _ HH.out.2.2.2.1
    have HLn := Lib.hid hlen
    have HY := Lib.hid (hY2.below (below_drew (Below.refl _ _)))
    have HBB := Lib.hid hb2.drew
    have HB2 := Lib.hid B2
    clear hlen hY2 hb2 B2 KS hny hn3 hnp n63 n47 hrow hba
    go_wp2_with fail
    go_cut [] (fun wx => ∃ D' rs', YA wx yb base ⟨ps1, y.at_.set who a1, y.qs.set who q1, y.log ++ [(who, p.leaf)]⟩ lv (.slice (some ⟨pg, 0, none⟩) y.ps.length cap) (.slice (some ⟨ag, 0, none⟩) nA ac) Q D' gs rs' ∧ Fr base w wx ∧ Blk wx q3 59 [.int .i64 (who : Int), .int .i64 whom])
    case first =>
      go_region_with ((go_at_call 39; refine (ended_any f ⟨y.ps, y.at_, y.qs, y.log ++ [(who, p.leaf)]⟩ n who q ps1 q1 a1 wc.drew yb base lv _ _ _ D' gs rs HY.out HH.out.1 hN HH.out.2.2.2.1).mono ?_; rintro e w2 ⟨rfl, ⟨rs2, h2⟩, hb2⟩; obtain ⟨-, -, c2, -, -⟩ := h2.heads; have ca2 := h2.at_cell rfl HH.out.2.1; have hrow2 := h2.ats; have fa2 := own_free hrow2 who; have B5 := hb2.pk _ _ HB2.out.drew; have g0 : w2.cell? ⟨q3, 0, none⟩ = some (.int .i64 (who : Int)) := (B5.cell 0).trans rfl))
      all_goals
        have e : y.at_.length = nA := HH.out.2.2.2.2.2.symm
        rw [e] at hrow2
        have hrs := own_setCell (i := who) hrow2 (.int .i64 a1)
        have hgs := grown_setCell w2 ag who (.int .i64 a1)
        have hY4 := YA.moved (A := .slice (some ⟨ag, 0, none⟩) nA ac) h2 (xs := y.at_.set who a1) rfl (by simp) (by
          dsimp only
          rw [ints_set, e]
          exact hrs) hgs
        have hb4 := (HBB.out.trans hb2).trans (Fr.row h2.ats (by decide) rfl hgs h2.base_le)
        have B6 := (Fr.row h2.ats (by decide) rfl hgs h2.base_le).pk _ _ B5
        have HE := Lib.hid (And.intro hY4 (And.intro hb4 B6))
        clear hY4 hb4 hrs hgs hrow2 h2 hb2 c2 ca2 fa2 e g0 B5 B6
        go_wp2_with fail
        go_meet
        case rel => exact ⟨_, _, HE.out⟩
    case rest =>
      obtain ⟨D2, rs2, hY4, hb4, B4⟩ := hcut
      have f0 : wc.cell? ⟨q3, 0, none⟩ = some (.int .i64 (who : Int)) := (B4.cell 0).trans rfl
      have HE := Lib.hid (And.intro hY4 hb4)
      clear hY4 hb4 B4
      go_wp2_with fail
      have hw1 : (y.qs.set who q1)[who]? = some q1 := by
        have := (List.getElem?_eq_some_iff.1 HH.out.1).1
        simp [this]
      have hw2 : (y.at_.set who a1)[who]? = some a1 := by
        have := (List.getElem?_eq_some_iff.1 HH.out.2.1).1
        simp [this]
      refine (settle_any f ⟨ps1, y.at_.set who a1, y.qs.set who q1, y.log ++ [(who, p.leaf)]⟩ who q1 a1 ps2 q2 a2 wc yb base lv _ _ _ D2 gs rs2 HE.out.1 hw1 hw2 (by dsimp only; rw [HLn.out]; exact hN) HH.out.2.2.2.2.1).mono ?_
      rintro e w9 ⟨rfl, ⟨rs9, h9⟩, hb9⟩
      simp only [List.set_set] at h9
      have HE9 := Lib.hid (And.intro h9 (HE.out.2.trans hb9))
      clear h9 hb9
      go_wp2
      go_end0
      exact ⟨rfl, ⟨_, _, HE9.out.1⟩, HE9.out.2⟩
end Go.Proofs.Ytcoijmnnnfogdaa


namespace Go.Proofs.Ytcoijmnnnfogdaa
set_option linter.unusedVariables false
set_option linter.unusedSimpArgs false
set_option maxRecDepth 100000
open Go.RowKit



set_option maxHeartbeats 8000000 in
theorem pick_none_ (y : Stl.Y) (who : Nat) (whom : Int) (q : List Nat) (a : Int) (w : World) (yb base lv : Nat) (P A Q D : Value) (gs : List Nat) (rs : List (Option Nat)) (h : YA w yb base y lv P A Q D gs rs)
    (hq : y.qs[who]? = some q) (ha : y.at_[who]? = some a) (ha0 : a < 0) (hN : y.ps.length ≤ 1152921504606846976) (hno : ¬ (0 ≤ whom ∧ whom < y.at_.length ∧ whom ≠ (who : Int))) :
    Calls Try.prog 26 #[.pointer (some ⟨yb, 0, none⟩), .agg #[.int .i64 (who : Int), .int .i64 whom]] w (PickPost w yb base lv y P A Q gs) := by
  have hwho := (List.getElem?_eq_some_iff.1 ha).1
  obtain ⟨ag, ac, rfl, hale, ham, hab, hal⟩ := own_addr h.ats (by omega)
  obtain ⟨-, -, b2, b3, -⟩ := h.heads
  have ca := h.at_cell rfl ha
  have l1 := h.lt
  unfold maxLen at ham
  have hb5 : Below w.heap.size w (w.alloc (.cells #[.int .i64 (who : Int), .int .i64 whom] 59)) := below_alloc (Below.refl _ _) _
  have hY0 := h.below hb5
  have B3 := Blk.new w 59 [.int .i64 (who : Int), .int .i64 whom]
  have hbB := (Fr.refl base w).alloc h.base_le (.cells #[.int .i64 (who : Int), .int .i64 whom] 59)
  obtain ⟨nA, hnA⟩ : ∃ nA, nA = y.at_.length := ⟨_, rfl⟩
  rw [← hnA] at hale hwho b2 hY0 ⊢
  have hnd1 : decide ((who : Int) < 0) = false := by simp
  have hnd2 : decide (nA ≤ who) = false := by simp; omega
  have hnd3 : decide (0 ≤ a) = false := by simp; omega
  have HH := Lib.hid (And.intro hq (And.intro ha hnA))
  clear hq ha hnA h
  go_enter Try.func26, Try.ntmps26
  go_wp2
  go_quiet (fail)
  rename Nat => nq0
  go_wp2_with fail
  go_quiet (fail)
  go_wp2_with fail
  obtain ⟨q3, hq3⟩ : ∃ q3, q3 = w.heap.size := ⟨_, rfl⟩
  rw [← hq3] at B3 ⊢
  have hY1 := hY0.below (below_drewN (Below.refl _ _) (nq0 + nq))
  have hbB1 := hbB.drewN (nq0 + nq)
  have B1 := B3.drewN (nq0 + nq)
  clear hY0 hbB B3 b2 ca hb5 hq3 b3
  generalize ((w.alloc (.cells ([.int .i64 (who : Int), .int .i64 whom] : List Value).toArray 59)).drewN (nq0 + nq)) = W at hY1 hbB1 B1 ⊢
  obtain ⟨-, -, b2, b3, -⟩ := hY1.heads
  have f0 : W.cell? ⟨q3, 0, none⟩ = some (.int .i64 (who : Int)) := (B1.cell 0).trans rfl
  have f1 : W.cell? ⟨q3, 1, none⟩ = some (.int .i64 whom) := (B1.cell 1).trans rfl
  have hY := Lib.hid hY1
  have hB := Lib.hid hbB1
  clear hY1 hbB1 B1
  have hno' := hno
  rw [← HH.out.2.2] at hno'
  have HNO := Lib.hid hno'
  clear hno hno'
  rcases Int.lt_or_le whom 0 with h0 | h0
  · have hd : decide (0 ≤ whom) = false := by simp; omega
    go_quiet (fail)
    go_wp2_with fail
    refine (settle_any 1 y who q a y.ps q a _ yb base lv _ _ _ D gs rs (hY.out.below (below_drewN (Below.refl _ _) _)) HH.out.1 HH.out.2.1 hN (by simp [Stl.settle, ha0])).mono ?_
    rintro e w9 ⟨rfl, ⟨rs9, h9⟩, hb9⟩
    have e1 : y.at_.set who a = y.at_ := by
      obtain ⟨h1, h2⟩ := List.getElem?_eq_some_iff.1 HH.out.2.1
      rw [← h2]; exact List.set_getElem_self ..
    have e2 : y.qs.set who q = y.qs := by
      obtain ⟨h1, h2⟩ := List.getElem?_eq_some_iff.1 HH.out.1
      rw [← h2]; exact List.set_getElem_self ..
    rw [e1, e2] at h9
    have HE9 := Lib.hid (And.intro h9 ((hB.out.drewN _).trans hb9))
    clear h9 hb9 e1 e2
    go_wp2
    go_end0
    exact ⟨rfl, ⟨_, _, HE9.out.1⟩, HE9.out.2⟩
  have hd : decide (0 ≤ whom) = true := by simpa using h0
  rcases Int.lt_or_le whom nA with h1 | h1
  · have hd2 : decide (whom < (nA : Int)) = true := by simpa using h1
    have hd3 : (whom != (who : Int)) = false := by
      have := HNO.out
      simp
      omega
    go_quiet (fail)
    go_wp2_with fail
    refine (settle_any 1 y who q a y.ps q a _ yb base lv _ _ _ D gs rs (hY.out.below (below_drewN (Below.refl _ _) _)) HH.out.1 HH.out.2.1 hN (by simp [Stl.settle, ha0])).mono ?_
    rintro e w9 ⟨rfl, ⟨rs9, h9⟩, hb9⟩
    have e1 : y.at_.set who a = y.at_ := by
      obtain ⟨h1, h2⟩ := List.getElem?_eq_some_iff.1 HH.out.2.1
      rw [← h2]; exact List.set_getElem_self ..
    have e2 : y.qs.set who q = y.qs := by
      obtain ⟨h1, h2⟩ := List.getElem?_eq_some_iff.1 HH.out.1
      rw [← h2]; exact List.set_getElem_self ..
    rw [e1, e2] at h9
    have HE9 := Lib.hid (And.intro h9 ((hB.out.drewN _).trans hb9))
    clear h9 hb9 e1 e2
    go_wp2
    go_end0
    exact ⟨rfl, ⟨_, _, HE9.out.1⟩, HE9.out.2⟩
  · have hd2 : decide (whom < (nA : Int)) = false := by simpa using h1
    go_quiet (fail)
    go_wp2_with fail
    refine (settle_any 1 y who q a y.ps q a _ yb base lv _ _ _ D gs rs (hY.out.below (below_drewN (Below.refl _ _) _)) HH.out.1 HH.out.2.1 hN (by simp [Stl.settle, ha0])).mono ?_
    rintro e w9 ⟨rfl, ⟨rs9, h9⟩, hb9⟩
    have e1 : y.at_.set who a = y.at_ := by
      obtain ⟨h1, h2⟩ := List.getElem?_eq_some_iff.1 HH.out.2.1
      rw [← h2]; exact List.set_getElem_self ..
    have e2 : y.qs.set who q = y.qs := by
      obtain ⟨h1, h2⟩ := List.getElem?_eq_some_iff.1 HH.out.1
      rw [← h2]; exact List.set_getElem_self ..
    rw [e1, e2] at h9
    have HE9 := Lib.hid (And.intro h9 ((hB.out.drewN _).trans hb9))
    clear h9 hb9 e1 e2
    go_wp2
    go_end0
    exact ⟨rfl, ⟨_, _, HE9.out.1⟩, HE9.out.2⟩
end Go.Proofs.Ytcoijmnnnfogdaa


namespace Go.Proofs.Ytcoijmnnnfogdaa
set_option linter.unusedVariables false
set_option linter.unusedSimpArgs false
set_option maxRecDepth 100000
open Go.RowKit




set_option maxHeartbeats 8000000 in
theorem pick_dry (y : Stl.Y) (who whom : Nat) (q : List Nat) (a : Int) (w : World) (yb base lv : Nat) (P A Q D : Value) (gs : List Nat) (rs : List (Option Nat)) (h : YA w yb base y lv P A Q D gs rs)
    (hq : y.qs[who]? = some q) (ha : y.at_[who]? = some a) (ha0 : a < 0) (hN : y.ps.length ≤ 1152921504606846976) (hwm : whom < y.at_.length) (hww : whom ≠ who) (hqw : y.qs[whom]? = some []) :
    Calls Try.prog 26 #[.pointer (some ⟨yb, 0, none⟩), .agg #[.int .i64 (who : Int), .int .i64 (whom : Int)]] w (PickPost w yb base lv y P A Q gs) := by
  have hwho := (List.getElem?_eq_some_iff.1 ha).1
  obtain ⟨ag, ac, rfl, hale, ham, hab, hal⟩ := own_addr h.ats (by omega)
  obtain ⟨-, -, b2, b3, -⟩ := h.heads
  have ca := h.at_cell rfl ha
  have l1 := h.lt
  unfold maxLen at ham
  have hb5 : Below w.heap.size w (w.alloc (.cells #[.int .i64 (who : Int), .int .i64 (whom : Int)] 59)) := below_alloc (Below.refl _ _) _
  have hY0 := h.below hb5
  have B3 := Blk.new w 59 [.int .i64 (who : Int), .int .i64 (whom : Int)]
  have hbB := (Fr.refl base w).alloc h.base_le (.cells #[.int .i64 (who : Int), .int .i64 (whom : Int)] 59)
  obtain ⟨nA, hnA⟩ : ∃ nA, nA = y.at_.length := ⟨_, rfl⟩
  rw [← hnA] at hale hwho b2 hY0 ⊢
  have hnd1 : decide ((who : Int) < 0) = false := by simp
  have hnd2 : decide (nA ≤ who) = false := by simp; omega
  have hnd3 : decide (0 ≤ a) = false := by simp; omega
  have HH := Lib.hid (And.intro hq (And.intro ha hnA))
  clear hq ha hnA h
  go_enter Try.func26, Try.ntmps26
  go_wp2
  go_quiet (fail)
  rename Nat => nq0
  go_wp2_with fail
  go_quiet (fail)
  go_wp2_with fail
  obtain ⟨q3, hq3⟩ : ∃ q3, q3 = w.heap.size := ⟨_, rfl⟩
  rw [← hq3] at B3 ⊢
  have hY1 := hY0.below (below_drewN (Below.refl _ _) (nq0 + nq))
  have hbB1 := hbB.drewN (nq0 + nq)
  have B1 := B3.drewN (nq0 + nq)
  clear hY0 hbB B3 b2 ca hb5 hq3 b3
  generalize ((w.alloc (.cells ([.int .i64 (who : Int), .int .i64 (whom : Int)] : List Value).toArray 59)).drewN (nq0 + nq)) = W at hY1 hbB1 B1 ⊢
  obtain ⟨-, -, b2, b3, -⟩ := hY1.heads
  have f0 : W.cell? ⟨q3, 0, none⟩ = some (.int .i64 (who : Int)) := (B1.cell 0).trans rfl
  have f1 : W.cell? ⟨q3, 1, none⟩ = some (.int .i64 (whom : Int)) := (B1.cell 1).trans rfl
  have hd : decide (0 ≤ (whom : Int)) = true := by simp
  have hd2 : decide (whom < nA) = true := by simp; rw [HH.out.2.2]; exact hwm
  have hd3 : ((whom : Int) != (who : Int)) = true := by simp; omega
  obtain ⟨qg, qc, rfl, hqle, hqm, hqb, hql⟩ := own_addr hY1.qus (by have := hY1.len1; have := hY1.len3; omega)
  unfold maxLen at hqm
  obtain ⟨g, r, hgw, hrw, hdq, hgb⟩ := hY1.at_dq hqw
  have hwg : whom < gs.length := (List.getElem?_eq_some_iff.1 hgw).1
  have qcell := hY1.q_cell rfl hgw
  have HG := Lib.hid (And.intro hgw (And.intro hrw (And.intro hgb hqw)))
  have hY := Lib.hid hY1
  have hB := Lib.hid hbB1
  have HB1 := Lib.hid B1
  clear hgw hrw hgb hqw hY1 hbB1 B1 hdq
  go_quiet (fail)
  rename Nat => nq2
  go_wp2_with fail
  go_cut [5, 6] (fun s5 s6 wx => s6 = .bool false ∧ ∃ k, wx = W.drewN k)
  case first =>
    go_region_with ((go_at_call 40; refine (steal_none g r _ ((hY.out.below (below_drew (below_drewN (Below.refl _ _) nq2))).dq whom g r [] HG.out.1 HG.out.2.1 HG.out.2.2.2).1).mono ?_; rintro e w2 ⟨rfl, rfl⟩))
    all_goals
      go_wp2_with fail
      go_meet
      case rel => exact ⟨rfl, _, rfl⟩
  case rest =>
    obtain ⟨rfl, k, rfl⟩ := hcut
    go_wp2_with fail
    refine (settle_any 1 y who q a y.ps q a _ yb base lv _ _ _ D gs rs (hY.out.below (below_drewN (Below.refl _ _) _)) HH.out.1 HH.out.2.1 hN (by simp [Stl.settle, ha0])).mono ?_
    rintro e w9 ⟨rfl, ⟨rs9, h9⟩, hb9⟩
    have e1 : y.at_.set who a = y.at_ := by
      obtain ⟨h1, h2⟩ := List.getElem?_eq_some_iff.1 HH.out.2.1
      rw [← h2]; exact List.set_getElem_self ..
    have e2 : y.qs.set who q = y.qs := by
      obtain ⟨h1, h2⟩ := List.getElem?_eq_some_iff.1 HH.out.1
      rw [← h2]; exact List.set_getElem_self ..
    rw [e1, e2] at h9
    have HE9 := Lib.hid (And.intro h9 ((hB.out.drewN _).trans hb9))
    clear h9 hb9 e1 e2
    go_wp2
    go_end0
    exact ⟨rfl, ⟨_, _, HE9.out.1⟩, HE9.out.2⟩
end Go.Proofs.Ytcoijmnnnfogdaa


namespace Go.Proofs.Ytcoijmnnnfogdaa
set_option linter.unusedVariables false
set_option linter.unusedSimpArgs false
set_option maxRecDepth 100000
open Go.RowKit



set_option maxHeartbeats 8000000 in
theorem pick_steal (f : Nat) (y : Stl.Y) (who whom k : Nat) (rest q : List Nat) (a : Int) (ps2 : List Stl.Part) (q2 : List Nat) (a2 : Int) (w : World) (yb base lv : Nat) (P A Q D : Value) (gs : List Nat) (rs : List (Option Nat)) (h : YA w yb base y lv P A Q D gs rs)
    (hq : y.qs[who]? = some q) (ha : y.at_[who]? = some a) (ha0 : a < 0) (hN : y.ps.length ≤ 1152921504606846976) (hwm : whom < y.at_.length) (hww : whom ≠ who) (hqw : y.qs[whom]? = some (k :: rest)) (hs : Stl.settle f y.ps q (k : Int) = some (ps2, q2, a2)) :
    Calls Try.prog 26 #[.pointer (some ⟨yb, 0, none⟩), .agg #[.int .i64 (who : Int), .int .i64 (whom : Int)]] w (PickPost w yb base lv ⟨ps2, y.at_.set who a2, (y.qs.set whom rest).set who q2, y.log⟩ P A Q gs) := by
  have HS := Lib.hid hs
  clear hs
  have hbw := h.base_le
  have hwho := (List.getElem?_eq_some_iff.1 ha).1
  obtain ⟨ag, ac, rfl, hale, ham, hab, hal⟩ := own_addr h.ats (by omega)
  obtain ⟨-, -, b2, b3, -⟩ := h.heads
  have ca := h.at_cell rfl ha
  have l1 := h.lt
  unfold maxLen at ham
  have hb5 : Below w.heap.size w (w.alloc (.cells #[.int .i64 (who : Int), .int .i64 (whom : Int)] 59)) := below_alloc (Below.refl _ _) _
  have hY0 := h.below hb5
  have B3 := Blk.new w 59 [.int .i64 (who : Int), .int .i64 (whom : Int)]
  have hbB := (Fr.refl base w).alloc h.base_le (.cells #[.int .i64 (who : Int), .int .i64 (whom : Int)] 59)
  obtain ⟨nA, hnA⟩ : ∃ nA, nA = y.at_.length := ⟨_, rfl⟩
  rw [← hnA] at hale hwho b2 hY0 ⊢
  have hnd1 : decide ((who : Int) < 0) = false := by simp
  have hnd2 : decide (nA ≤ who) = false := by simp; omega
  have hnd3 : decide (0 ≤ a) = false := by simp; omega
  have HH := Lib.hid (And.intro hq (And.intro ha hnA))
  clear hq ha hnA h
  go_enter Try.func26, Try.ntmps26
  go_wp2
  go_quiet (fail)
  rename Nat => nq0
  go_wp2_with fail
  go_quiet (fail)
  go_wp2_with fail
  obtain ⟨q3, hq3⟩ : ∃ q3, q3 = w.heap.size := ⟨_, rfl⟩
  rw [← hq3] at B3 ⊢
  have hY1 := hY0.below (below_drewN (Below.refl _ _) (nq0 + nq))
  have hbB1 := hbB.drewN (nq0 + nq)
  have B1 := B3.drewN (nq0 + nq)
  clear hY0 hbB B3 b2 ca hb5 hq3 b3
  generalize ((w.alloc (.cells ([.int .i64 (who : Int), .int .i64 (whom : Int)] : List Value).toArray 59)).drewN (nq0 + nq)) = W at hY1 hbB1 B1 ⊢
  obtain ⟨-, -, b2, b3, -⟩ := hY1.heads
  have f0 : W.cell? ⟨q3, 0, none⟩ = some (.int .i64 (who : Int)) := (B1.cell 0).trans rfl
  have f1 : W.cell? ⟨q3, 1, none⟩ = some (.int .i64 (whom : Int)) := (B1.cell 1).trans rfl
  have hd : decide (0 ≤ (whom : Int)) = true := by simp
  have hd2 : decide (whom < nA) = true := by simp; rw [HH.out.2.2]; exact hwm
  have hd3 : ((whom : Int) != (who : Int)) = true := by simp; omega
  obtain ⟨qg, qc, rfl, hqle, hqm, hqb, hql⟩ := own_addr hY1.qus (by have := hY1.len1; have := hY1.len3; omega)
  unfold maxLen at hqm
  obtain ⟨g, r, hgw, hrw, hdq, hgb⟩ := hY1.at_dq hqw
  have hwg : whom < gs.length := (List.getElem?_eq_some_iff.1 hgw).1
  have qcell := hY1.q_cell rfl hgw
  have HG := Lib.hid (And.intro hgw (And.intro hrw (And.intro hgb hqw)))
  have hY := Lib.hid hY1
  have hB := Lib.hid hbB1
  have HB1 := Lib.hid B1
  clear hgw hrw hgb hqw hY1 hbB1 B1 hdq
  go_quiet (fail)
  rename Nat => nq2
  go_wp2_with fail
  go_cut [5, 6] (fun s5 s6 wx => s6 = .bool true ∧ s5 = .int .i64 (k : Int) ∧ YA wx yb base ⟨y.ps, y.at_, y.qs.set whom rest, y.log⟩ lv P (.slice (some ⟨ag, 0, none⟩) nA ac) (.slice (some ⟨qg, 0, none⟩) gs.length qc) D gs (rs.set whom r) ∧ Fr base w wx ∧ Blk wx q3 59 [.int .i64 (who : Int), .int .i64 (whom : Int)])
  case first =>
    have hY2 := Lib.hid (hY.out.below (below_drew (below_drewN (Below.refl _ _) nq2)))
    have hB2 := Lib.hid (hB.out.drewN nq2).drew
    have HB2 := Lib.hid (HB1.out.drewN nq2).drew
    go_region_with ((go_at_call 40; refine (steal_some g (k : Int) (rest.map fun (k : Nat) => (k : Int)) r _ (hY2.out.dq whom g r (k :: rest) HG.out.1 HG.out.2.1 HG.out.2.2.2).1).mono ?_; rintro e w2 ⟨rfl, hd2', hk2⟩))
    all_goals
      have hY3 := hY2.out.deque (l := rest) HG.out.1 HG.out.2.1 (hk2.mono fun _ => .inl) hd2' (.inl rfl)
      have hfr := Fr.dq (hY2.out.dq whom g r (k :: rest) HG.out.1 HG.out.2.1 HG.out.2.2.2).1 (hk2.mono fun _ => .inl) hY2.out.base_le HG.out.2.2.1
      have HE := Lib.hid (And.intro hY3 (And.intro (hB2.out.trans hfr) (hfr.pk _ _ HB2.out)))
      clear hY3 hfr hd2' hk2
      go_wp2_with fail
      go_meet
      case rel => exact ⟨rfl, rfl, HE.out⟩
  case rest =>
    obtain ⟨rfl, rfl, hY3, hb3, B3⟩ := hcut
    obtain ⟨-, -, b2, -, -⟩ := hY3.heads
    have ca := hY3.at_cell rfl HH.out.2.1
    have f0 : wc.cell? ⟨q3, 0, none⟩ = some (.int .i64 (who : Int)) := (B3.cell 0).trans rfl
    have hrow := hY3.ats
    have e : y.at_.length = nA := HH.out.2.2.symm
    dsimp only at hrow
    rw [e] at hrow
    have HY := Lib.hid (And.intro hY3 (And.intro hb3 (And.intro B3 e)))
    clear hY3 hb3 B3 e
    go_wp2_with fail
    (refine still_last (by kernel_rfl) (by kernel_rfl) ?_; simp only [List.length_cons, List.length_nil, Nat.reduceAdd, Nat.reduceSub, List.take_succ_cons, List.take_zero, List.drop_succ_cons, List.drop_zero]; repeat still_step; try refine wpStill_nil ?_)
    refine wpl_set_row (hrow.drewN_ 1) who (.int .i64 (k : Int)) (by kernel_rfl) (by omega) rfl rfl rfl rfl rfl rfl ?_
    intro w4 hown4 hg4
    have hY4 := YA.moved (A := .slice (some ⟨ag, 0, none⟩) nA ac) (HY.out.1.below (below_drewN (Below.refl _ _) 1)) (xs := y.at_.set who (k : Int)) rfl (by simp) (by
      dsimp only
      rw [ints_set, HY.out.2.2.2]
      exact hown4) hg4
    have hfr := Fr.row (HY.out.1.below (below_drewN (Below.refl _ _) 1)).ats (by decide) rfl hg4 (HY.out.1.below (below_drewN (Below.refl _ _) 1)).base_le
    have B4 := hfr.pk _ _ (HY.out.2.2.1.drewN 1)
    have hb4 := (HY.out.2.1.drewN 1).trans hfr
    have g0 : w4.cell? ⟨q3, 0, none⟩ = some (.int .i64 (who : Int)) := (B4.cell 0).trans rfl
    have HE := Lib.hid (And.intro hY4 hb4)
    clear hY4 hb4 hfr B4 hown4 hg4 hrow b2 ca f0
    go_wp2_with fail
    have hw1 : (y.qs.set whom rest)[who]? = some q := by rw [List.getElem?_set, if_neg hww]; exact HH.out.1
    have hw2 : (y.at_.set who (k : Int))[who]? = some (k : Int) := by
      have := (List.getElem?_eq_some_iff.1 HH.out.2.1).1
      simp [this]
    refine (settle_any f ⟨y.ps, y.at_.set who (k : Int), y.qs.set whom rest, y.log⟩ who q k ps2 q2 a2 w4 yb base lv _ _ _ D gs _ HE.out.1 hw1 hw2 hN HS.out).mono ?_
    rintro e w9 ⟨rfl, ⟨rs9, h9⟩, hb9⟩
    simp only [List.set_set] at h9
    have HE9 := Lib.hid (And.intro h9 (HE.out.2.trans hb9))
    clear h9 hb9
    go_wp2
    go_end0
    exact ⟨rfl, ⟨_, _, HE9.out.1⟩, HE9.out.2⟩

/-- **a pick** -/
theorem pick_any (f : Nat) (y y' : Stl.Y) (who whom : Int) (w : World) (yb base lv : Nat) (P A Q D : Value) (gs : List Nat) (rs : List (Option Nat)) (h : YA w yb base y lv P A Q D gs rs) (hN : y.ps.length ≤ 1152921504606846976) (hlog : y.log.length ≤ 1099511627776) (hF : Stl.pickF f y who whom = some y') :
    Calls Try.prog 26 #[.pointer (some ⟨yb, 0, none⟩), .agg #[.int .i64 who, .int .i64 whom]] w (PickPost w yb base lv y' P A Q gs) := by
  unfold Stl.pickF at hF
  split at hF
  · rename_i hr
    cases hF
    exact pick_out y who whom w yb base lv P A Q D gs rs h hr
  rename_i hr
  obtain ⟨v, rfl⟩ : ∃ v : Nat, who = v := ⟨who.toNat, by omega⟩
  rw [Int.toNat_natCast] at hF
  split at hF
  · rename_i a q ha hq
    split at hF
    · rename_i ha0
      obtain ⟨n, rfl⟩ : ∃ n : Nat, a = n := ⟨a.toNat, by omega⟩
      rw [Int.toNat_natCast] at hF
      split at hF
      · rename_i p ps1 q1 a1 hp he
        split at hF
        · rename_i ps2 q2 a2 hs
          cases hF
          exact pick_leaf f y v n whom q p ps1 q1 a1 ps2 q2 a2 w yb base lv P A Q D gs rs h hq ha hp he hs hN hlog
        · cases hF
      · cases hF
    · rename_i ha0
      split at hF
      · rename_i hc
        obtain ⟨u, rfl⟩ : ∃ u : Nat, whom = u := ⟨whom.toNat, by omega⟩
        rw [Int.toNat_natCast] at hF
        split at hF
        · rename_i k rest hqw
          split at hF
          · rename_i ps2 q2 a2 hs
            cases hF
            exact pick_steal f y v u k rest q a ps2 q2 a2 w yb base lv P A Q D gs rs h hq ha (by omega) hN (by omega) (fun e => hc.2.2 (by rw [e])) hqw hs
          · cases hF
        · rename_i hqw
          cases hF
          exact pick_dry y v u q a w yb base lv P A Q D gs rs h hq ha (by omega) hN (by omega) (fun e => hc.2.2 (by rw [e])) hqw
        · cases hF
      · rename_i hc
        cases hF
        exact pick_none_ y v whom q a w yb base lv P A Q D gs rs h hq ha (by omega) hN hc
  · cases hF
end Go.Proofs.Ytcoijmnnnfogdaa


namespace Go.Proofs.Ytcoijmnnnfogdaa
set_option linter.unusedVariables false
set_option linter.unusedSimpArgs false
set_option maxRecDepth 100000
open Go.RowKit

section
variable {w w' : World} {yb base lv : Nat} {y : Stl.Y} {P A Q D : Value} {gs : List Nat} {rs : List (Option Nat)}
/-- one more part is laid -/
theorem YA.laid {w'' : World} {P' : Value} {p : Stl.Part} (h : YA w yb base y lv P A Q D gs rs) (ho : w'.ownsRow base 85 7 P' (y.ps.length + 1) (partcs y.ps ++ partc p)) (hg : w.grownBy w' P.ownBlock) (hB : Blk w'' yb 65 [P', .int .i64 (lv : Int), A, Q, D]) (hg2 : w'.grownBy w'' (some yb)) : YA w'' yb base { y with ps := y.ps ++ [p] } lv P' A Q D gs rs := by
  have hyP : P.ownBlock ≠ some yb := own_blk_ne h.parts h.blk (by decide)
  have hB' : Blk w' yb 65 [P, .int .i64 (lv : Int), A, Q, D] := h.blk.grown hg (fun e => hyP e.symm)
  have k : Keeps (fun k => P.ownBlock = some k ∨ k = yb) w w'' := ((Keeps.of_grown hg).mono fun i e => .inl e.symm).trans ((Keeps.of_grown hg2).mono fun i e => .inr (by injection e))
  have hne : ∀ {e : TypeId} {size n : Nat} {v : Value} {xs : List Value}, w.ownsRow base e size v n xs → e ≠ 85 → e ≠ 65 → ∀ b, v.ownBlock = some b → ¬ (P.ownBlock = some b ∨ b = yb) := fun hr h1 h2 b e hs => by
    rcases hs with hs | hs
    · exact own_own_ne hr h.parts h1 e hs
    · exact own_blk_ne hr h.blk h2 (by rw [e, hs])
  refine ⟨hB, h.above, ?_, own_keeps h.ats k (hne h.ats (by decide) (by decide)), own_keeps h.qus k (hne h.qus (by decide) (by decide)), own_keeps h.log k (hne h.log (by decide) (by decide)), h.len1, h.len2, h.len3, fun i g r l a b c => ⟨(h.dq i g r l a b c).1.keeps k (fun e => ?_) (fun b' e hb' => ?_), (h.dq i g r l a b c).2⟩, h.gnd, h.apart, h.off⟩
  · have := own_keeps ho (Keeps.of_grown hg2) (fun b e e' => own_blk_ne ho hB' (by decide) (by rw [e, e']))
    simpa [partcs] using this
  · rcases e with e | e
    · exact (h.dq_ne a).2.1 e
    · exact (h.dq_ne a).1 e.symm
  · have hn := h.ring_ne (i := i) (b := b') (by rw [b, e])
    rcases hb' with e' | e'
    · exact hn.2.1 e'
    · exact hn.1 e'.symm
/-- the leaves are counted on -/
theorem YA.counted {lv' : Nat} (h : YA w yb base y lv P A Q D gs rs) (hB : Blk w' yb 65 [P, .int .i64 (lv' : Int), A, Q, D]) (hg2 : w.grownBy w' (some yb)) : YA w' yb base y lv' P A Q D gs rs := by
  have k : Keeps (fun k => k = yb) w w' := (Keeps.of_grown hg2).mono fun i e => by injection e
  have hne : ∀ {e : TypeId} {size n : Nat} {v : Value} {xs : List Value}, w.ownsRow base e size v n xs → e ≠ 65 → ∀ b, v.ownBlock = some b → ¬ b = yb := fun hr h2 b e hs => own_blk_ne hr h.blk h2 (by rw [e, hs])
  exact ⟨hB, h.above, own_keeps h.parts k (hne h.parts (by decide)), own_keeps h.ats k (hne h.ats (by decide)), own_keeps h.qus k (hne h.qus (by decide)), own_keeps h.log k (hne h.log (by decide)), h.len1, h.len2, h.len3, fun i g r l a b c => ⟨(h.dq i g r l a b c).1.keeps k (fun e => (h.dq_ne a).1 e.symm) (fun b' e hb' => (h.ring_ne (i := i) (b := b') (by rw [b, e])).1 hb'.symm), (h.dq i g r l a b c).2⟩, h.gnd, h.apart, h.off⟩
end

/-- what laying may turn -/
def LK (yb : Nat) (P : Value) (w w' : World) : Prop := Keeps (fun k => k = yb ∨ P.ownBlock = some k) w w'
def LayOK (t : Sp.T) : Prop := ∀ (w : World) (yb base lv B : Nat) (y : Stl.Y) (P A Q D : Value) (gs : List Nat) (rs : List (Option Nat)) (cs : List Value) (up : Int) (onR : Bool), YA w yb base y lv P A Q D gs rs → TmR B w cs t → B ≤ base → -1 ≤ up → up ≤ 4611686018427387904 → y.ps.length + Stl.sz t ≤ 274877906944 → lv + t.size ≤ 274877906944 →
  Calls Try.prog 24 #[.pointer (some ⟨yb, 0, none⟩), .agg cs.toArray, .int .i64 up, .bool onR] w fun e w' => e = .returned (.int .i64 (y.ps.length : Int)) ∧ ∃ P', YA w' yb base { y with ps := y.ps ++ Stl.partsOf t y.ps.length lv up onR } (lv + t.size) P' A Q D gs rs ∧ LK yb P w w' ∧ (∀ i, P'.ownBlock = some i → P.ownBlock = some i ∨ w.heap.size ≤ i)

theorem laid_ {w W w1 w2 : World} {yb base lv q5 : Nat} {y : Stl.Y} {P P1 A Q D : Value} {gs : List Nat} {rs : List (Option Nat)} {p : Stl.Part} {cs : List Value} (h : YA W yb base y lv P A Q D gs rs) (hB : Blk W q5 26 cs) (hk : Keeps (fun k => k = yb ∨ P.ownBlock = some k) w W) (ho : w1.ownsRow base 85 7 P1 (y.ps.length + 1) (partcs y.ps ++ partc p)) (hg : W.grownBy w1 P.ownBlock) (hv : P1.ownBlock = P.ownBlock ∨ P1.ownBlock = some (W.heap.size + 1)) (hY : Blk w2 yb 65 [P1, .int .i64 (lv : Int), A, Q, D]) (hg2 : w1.grownBy w2 (some yb)) :
    YA w2 yb base { y with ps := y.ps ++ [p] } lv P1 A Q D gs rs ∧ Blk w2 q5 26 cs ∧ LK yb P w w2 ∧ (∀ i, P1.ownBlock = some i → P.ownBlock = some i ∨ w.heap.size ≤ i) := by
  have k1 : Keeps (fun k => k = yb ∨ P.ownBlock = some k) W w2 := ((Keeps.of_grown hg).mono fun i e => .inr e.symm).trans ((Keeps.of_grown hg2).mono fun i e => .inl (by injection e))
  refine ⟨h.laid ho hg hY hg2, hB.keeps k1 (fun e => e.elim (fun e => Blk.type_ne h.blk hB (by decide) e.symm) (fun e => own_blk_ne h.parts hB (by decide) e)), hk.trans k1, fun i hi => ?_⟩
  rcases hv with e | e
  · exact .inl (by rw [← e, hi])
  · rw [e] at hi
    injection hi with hi
    have := hk.size
    exact .inr (by omega)


/-- a part is laid in its place -/
theorem put_ {w W w4 : World} {yb base lv N pg cap n : Nat} {y : Stl.Y} {P A Q D : Value} {gs : List Nat} {rs : List (Option Nat)} {p : Stl.Part} {ps : List Stl.Part} (h : YA W yb base y lv (.slice (some ⟨pg, 0, none⟩) N cap) A Q D gs rs) (hk : LK yb P w W) (hf : ∀ i, (Value.slice (some ⟨pg, 0, none⟩) N cap).ownBlock = some i → P.ownBlock = some i ∨ w.heap.size ≤ i) (hn : n < y.ps.length) (hps : y.ps.set n p = ps)
    (ho : w4.ownsRow base 85 7 (.slice (some ⟨pg, 0, none⟩) N cap) N ((partcs y.ps).take (n * 7) ++ partc p ++ (partcs y.ps).drop (n * 7 + 7))) (hg : W.grownBy w4 (some pg)) : YA w4 yb base { y with ps := ps } lv (.slice (some ⟨pg, 0, none⟩) N cap) A Q D gs rs ∧ LK yb P w w4 := by
  subst hps
  have hN : N = y.ps.length := own_len h.parts
  subst hN
  refine ⟨h.turned rfl (by simp) (by rw [← partcs_put _ _ _ hn]; exact ho) hg, hk.step (Keeps.of_grown hg) fun i hi hs => ?_⟩
  injection hs with hs
  rcases hf i (by rw [hs]; rfl) with e | e
  · exact .inr e
  · omega





set_option maxHeartbeats 4000000 in
theorem lay_nil : LayOK .nil := by
  intro w yb base lv B y P A Q D gs rs cs up onR h hT hB hu1 hu2 hs hl
  cases hT with
  | nil k c b l A0 m cap hm hcap hk1 hk2 =>
  unfold tcells
  unfold maxLen at hcap
  have e1 : (k == 1) = false := by simpa using hk1
  by_cases k2 : k = 2
  · subst k2
    have hm2 : ¬ 2 ≤ m := fun h => hk2 ⟨.inl rfl, h⟩
    clear hk2 hk1
    have hB5 := Blk.new w 26 [.int .i64 2, .int .i64 c, .bool b, .int .i64 l, .slice A0 m cap]
    have hb5 : Below w.heap.size w (w.alloc (.cells ([.int .i64 2, .int .i64 c, .bool b, .int .i64 l, .slice A0 m cap] : List Value).toArray 26)) := below_alloc (Below.refl _ _) _
    have h5 := h.below hb5
    have hkw : Keeps (fun k => k = yb ∨ P.ownBlock = some k) w (w.alloc (.cells ([.int .i64 2, .int .i64 c, .bool b, .int .i64 l, .slice A0 m cap] : List Value).toArray 26)) := (Keeps.refl _ w).alloc _
    obtain ⟨q5, hq5⟩ : ∃ q5, q5 = w.heap.size := ⟨_, rfl⟩
    have n63 : y.ps.length + 1 ≤ maxLen := by unfold maxLen; have := Stl.sz_pos .nil; omega
    have n47 : (y.ps.length + 1) * 48 ≤ 140737488355328 := by have := Stl.sz_pos .nil; omega
    obtain ⟨PA, pn, pc, hPe⟩ : ∃ PA pn pc, P = .slice PA pn pc := by
      obtain ⟨A', c', e, -, -⟩ := own_slice h.parts
      exact ⟨_, _, _, e⟩
    have hpn : pn = y.ps.length := by have := h.parts; rw [hPe] at this; exact own_len this
    subst hPe
    subst hpn
    go_enter Try.func24, Try.ntmps24
    go_upto_region 1 with (fail)
    rw [← hq5] at hB5 ⊢
    have HQ := Lib.hid hq5
    generalize (w.alloc (.cells ([.int .i64 2, .int .i64 c, .bool b, .int .i64 l, .slice A0 m cap] : List Value).toArray 26)) = W at hB5 hb5 h5 hkw ⊢
    clear hq5
    obtain ⟨c0, -, -, -, -⟩ := h5.heads
    have lyb := h5.lt
    have hwl := h5.base_le
    have HPW := Lib.hid (fun w1 (hg : W.grownBy w1 (Value.slice PA y.ps.length pc).ownBlock) => (h5.blk.grown hg (fun e => own_blk_ne h5.parts h5.blk (by decide) e.symm) : Blk w1 yb _ _))
    have H5 := Lib.hid (And.intro h5 (And.intro hB5 hkw))
    have hrow := h5.parts
    clear h5 hB5 hkw
    go_wp2_with (first
      | (at_builtin; refine wp_push W _ _ base _ _ _ _ _ Try.underlying62 info_part rfl (by decide) hrow (partc ⟨0, -1, 0, 0, up, onR, false⟩) rfl (partc_one _) n63 n47 hwl rfl rfl rfl rfl ?_; intro P1 w1 hown1 hg1 hv1 _; have hY1 := HPW.out w1 hg1; have hown1' := hown1; obtain ⟨pg, pb, rfl, hle1, hm1, hbp⟩ := own_addr hown1' (Nat.succ_pos _); clear hown1')
      | (refine wpl_set_blk hY1 0 _ (by kernel_rfl) (by simp) rfl rfl rfl rfl rfl rfl ?_; intro w2 hY2 hg2; simp only [List.set_cons_zero] at hY2; have h2 := laid_ H5.out.1 H5.out.2.1 H5.out.2.2 hown1 hg1 hv1 hY2 hg2; have t0 := (h2.2.1.cell 0).trans rfl; have t1 := (h2.2.1.cell 1).trans rfl; have t2 := (h2.2.1.cell 2).trans rfl; have t3 := (h2.2.1.cell 3).trans rfl; have t4 := (h2.2.1.cell 4).trans rfl; have lq := h2.2.1.lt; have ly2 := h2.1.lt; clear hown1 hg1 hv1 hY1 hY2 hg2 c0 hle1 hm1 hbp))
    obtain ⟨q10, hq10⟩ : ∃ q10, q10 = w2.heap.size := ⟨_, rfl⟩
    have B10 := Blk.new w2 85 [.int .i64 0, .int .i64 (-1), .int .i64 0, .int .i64 0, .int .i64 up, .bool onR, .bool false]
    have hW2 := (show LK yb _ w _ from h2.2.2.1.alloc (.cells ([.int .i64 0, .int .i64 (-1), .int .i64 0, .int .i64 0, .int .i64 up, .bool onR, .bool false] : List Value).toArray 85))
    have hY2 := h2.1.below (below_alloc (Below.refl _ _) (.cells ([.int .i64 0, .int .i64 (-1), .int .i64 0, .int .i64 0, .int .i64 up, .bool onR, .bool false] : List Value).toArray 85))
    have hb2 := below_alloc (Below.refl w2.heap.size w2) (.cells ([.int .i64 0, .int .i64 (-1), .int .i64 0, .int .i64 0, .int .i64 up, .bool onR, .bool false] : List Value).toArray 85)
    have hf2 := h2.2.2.2
    rw [← hq10] at B10 ⊢
    have HQ10 := Lib.hid hq10
    clear hq10
    generalize (w2.alloc (.cells ([.int .i64 0, .int .i64 (-1), .int .i64 0, .int .i64 0, .int .i64 up, .bool onR, .bool false] : List Value).toArray 85)) = W2 at B10 hb2 hW2 hY2 ⊢
    have g0 : W2.cell? ⟨q10, 0, none⟩ = some (.int .i64 (0)) := (B10.cell 0).trans rfl
    have g1 : W2.cell? ⟨q10, 1, none⟩ = some (.int .i64 (-1)) := (B10.cell 1).trans rfl
    have g2 : W2.cell? ⟨q10, 2, none⟩ = some (.int .i64 (0)) := (B10.cell 2).trans rfl
    have g3 : W2.cell? ⟨q10, 3, none⟩ = some (.int .i64 (0)) := (B10.cell 3).trans rfl
    have g4 : W2.cell? ⟨q10, 4, none⟩ = some (.int .i64 up) := (B10.cell 4).trans rfl
    have g5 : W2.cell? ⟨q10, 5, none⟩ = some (.bool onR) := (B10.cell 5).trans rfl
    have g6 : W2.cell? ⟨q10, 6, none⟩ = some (.bool false) := (B10.cell 6).trans rfl
    obtain ⟨N, hN⟩ : ∃ N, N = y.ps.length + 1 := ⟨_, rfl⟩
    have hnN : y.ps.length < N := by omega
    have hrow := hY2.parts
    simp only [List.length_append, List.length_cons, List.length_nil, Nat.zero_add] at hrow
    rw [← hN] at hY2 hf2 hrow
    have HNN := Lib.hid hN
    clear hN
    obtain ⟨c0, -, -, -, -⟩ := hY2.heads
    (refine still_last (by kernel_rfl) (by kernel_rfl) ?_; simp only [List.length_cons, List.length_nil, Nat.reduceAdd, Nat.reduceSub, List.take_succ_cons, List.take_zero, List.drop_succ_cons, List.drop_zero]; repeat still_step; try refine wpStill_nil ?_)
    refine wpl_put_row (hrow.drewN_ 1) (y.ps.length * 7) 7 (partc ⟨0, -1, 0, 0, up, onR, false⟩) (by kernel_rfl) rfl (by omega) (partc_one ⟨0, -1, 0, 0, up, onR, false⟩) (by rfl) (by rfl) (by rfl) (by rfl) ?_
    intro w4 hown4 hg4
    have hE := put_ (p := ⟨0, -1, 0, 0, up, onR, false⟩) (ps := y.ps ++ [⟨0, -1, 0, 0, up, onR, false⟩]) (hY2.below (below_drewN (Below.refl _ _) 1)) (hW2.drewN 1) hf2 (by have := own_len hrow; simp only [slLen] at this; simp) (by simp) hown4 hg4
    have HE := Lib.hid hE
    clear hE hown4 hg4 hrow hY2 hW2 B10 g0 g1 g2 g3 g4 g5 g6 c0
    go_wp2
    go_ret
    exact ⟨rfl, _, HE.out.1, HE.out.2, hf2⟩
  · have e2 : (k == 2) = false := by simpa using k2
    by_cases k3 : k = 3
    · subst k3
      have hm2 : ¬ 2 ≤ m := fun h => hk2 ⟨.inr rfl, h⟩
      clear hk2 hk1
      have hB5 := Blk.new w 26 [.int .i64 3, .int .i64 c, .bool b, .int .i64 l, .slice A0 m cap]
      have hb5 : Below w.heap.size w (w.alloc (.cells ([.int .i64 3, .int .i64 c, .bool b, .int .i64 l, .slice A0 m cap] : List Value).toArray 26)) := below_alloc (Below.refl _ _) _
      have h5 := h.below hb5
      have hkw : Keeps (fun k => k = yb ∨ P.ownBlock = some k) w (w.alloc (.cells ([.int .i64 3, .int .i64 c, .bool b, .int .i64 l, .slice A0 m cap] : List Value).toArray 26)) := (Keeps.refl _ w).alloc _
      obtain ⟨q5, hq5⟩ : ∃ q5, q5 = w.heap.size := ⟨_, rfl⟩
      have n63 : y.ps.length + 1 ≤ maxLen := by unfold maxLen; have := Stl.sz_pos .nil; omega
      have n47 : (y.ps.length + 1) * 48 ≤ 140737488355328 := by have := Stl.sz_pos .nil; omega
      obtain ⟨PA, pn, pc, hPe⟩ : ∃ PA pn pc, P = .slice PA pn pc := by
        obtain ⟨A', c', e, -, -⟩ := own_slice h.parts
        exact ⟨_, _, _, e⟩
      have hpn : pn = y.ps.length := by have := h.parts; rw [hPe] at this; exact own_len this
      subst hPe
      subst hpn
      go_enter Try.func24, Try.ntmps24
      go_upto_region 1 with (fail)
      rw [← hq5] at hB5 ⊢
      have HQ := Lib.hid hq5
      generalize (w.alloc (.cells ([.int .i64 3, .int .i64 c, .bool b, .int .i64 l, .slice A0 m cap] : List Value).toArray 26)) = W at hB5 hb5 h5 hkw ⊢
      clear hq5
      obtain ⟨c0, -, -, -, -⟩ := h5.heads
      have lyb := h5.lt
      have hwl := h5.base_le
      have HPW := Lib.hid (fun w1 (hg : W.grownBy w1 (Value.slice PA y.ps.length pc).ownBlock) => (h5.blk.grown hg (fun e => own_blk_ne h5.parts h5.blk (by decide) e.symm) : Blk w1 yb _ _))
      have H5 := Lib.hid (And.intro h5 (And.intro hB5 hkw))
      have hrow := h5.parts
      clear h5 hB5 hkw
      go_wp2_with (first
        | (at_builtin; refine wp_push W _ _ base _ _ _ _ _ Try.underlying62 info_part rfl (by decide) hrow (partc ⟨0, -1, 0, 0, up, onR, false⟩) rfl (partc_one _) n63 n47 hwl rfl rfl rfl rfl ?_; intro P1 w1 hown1 hg1 hv1 _; have hY1 := HPW.out w1 hg1; have hown1' := hown1; obtain ⟨pg, pb, rfl, hle1, hm1, hbp⟩ := own_addr hown1' (Nat.succ_pos _); clear hown1')
        | (refine wpl_set_blk hY1 0 _ (by kernel_rfl) (by simp) rfl rfl rfl rfl rfl rfl ?_; intro w2 hY2 hg2; simp only [List.set_cons_zero] at hY2; have h2 := laid_ H5.out.1 H5.out.2.1 H5.out.2.2 hown1 hg1 hv1 hY2 hg2; have t0 := (h2.2.1.cell 0).trans rfl; have t1 := (h2.2.1.cell 1).trans rfl; have t2 := (h2.2.1.cell 2).trans rfl; have t3 := (h2.2.1.cell 3).trans rfl; have t4 := (h2.2.1.cell 4).trans rfl; have lq := h2.2.1.lt; have ly2 := h2.1.lt; clear hown1 hg1 hv1 hY1 hY2 hg2 c0 hle1 hm1 hbp))
      obtain ⟨q10, hq10⟩ : ∃ q10, q10 = w2.heap.size := ⟨_, rfl⟩
      have B10 := Blk.new w2 85 [.int .i64 0, .int .i64 (-1), .int .i64 0, .int .i64 0, .int .i64 up, .bool onR, .bool false]
      have hW2 := (show LK yb _ w _ from h2.2.2.1.alloc (.cells ([.int .i64 0, .int .i64 (-1), .int .i64 0, .int .i64 0, .int .i64 up, .bool onR, .bool false] : List Value).toArray 85))
      have hY2 := h2.1.below (below_alloc (Below.refl _ _) (.cells ([.int .i64 0, .int .i64 (-1), .int .i64 0, .int .i64 0, .int .i64 up, .bool onR, .bool false] : List Value).toArray 85))
      have hb2 := below_alloc (Below.refl w2.heap.size w2) (.cells ([.int .i64 0, .int .i64 (-1), .int .i64 0, .int .i64 0, .int .i64 up, .bool onR, .bool false] : List Value).toArray 85)
      have hf2 := h2.2.2.2
      rw [← hq10] at B10 ⊢
      have HQ10 := Lib.hid hq10
      clear hq10
      generalize (w2.alloc (.cells ([.int .i64 0, .int .i64 (-1), .int .i64 0, .int .i64 0, .int .i64 up, .bool onR, .bool false] : List Value).toArray 85)) = W2 at B10 hb2 hW2 hY2 ⊢
      have g0 : W2.cell? ⟨q10, 0, none⟩ = some (.int .i64 (0)) := (B10.cell 0).trans rfl
      have g1 : W2.cell? ⟨q10, 1, none⟩ = some (.int .i64 (-1)) := (B10.cell 1).trans rfl
      have g2 : W2.cell? ⟨q10, 2, none⟩ = some (.int .i64 (0)) := (B10.cell 2).trans rfl
      have g3 : W2.cell? ⟨q10, 3, none⟩ = some (.int .i64 (0)) := (B10.cell 3).trans rfl
      have g4 : W2.cell? ⟨q10, 4, none⟩ = some (.int .i64 up) := (B10.cell 4).trans rfl
      have g5 : W2.cell? ⟨q10, 5, none⟩ = some (.bool onR) := (B10.cell 5).trans rfl
      have g6 : W2.cell? ⟨q10, 6, none⟩ = some (.bool false) := (B10.cell 6).trans rfl
      obtain ⟨N, hN⟩ : ∃ N, N = y.ps.length + 1 := ⟨_, rfl⟩
      have hnN : y.ps.length < N := by omega
      have hrow := hY2.parts
      simp only [List.length_append, List.length_cons, List.length_nil, Nat.zero_add] at hrow
      rw [← hN] at hY2 hf2 hrow
      have HNN := Lib.hid hN
      clear hN
      obtain ⟨c0, -, -, -, -⟩ := hY2.heads
      (refine still_last (by kernel_rfl) (by kernel_rfl) ?_; simp only [List.length_cons, List.length_nil, Nat.reduceAdd, Nat.reduceSub, List.take_succ_cons, List.take_zero, List.drop_succ_cons, List.drop_zero]; repeat still_step; try refine wpStill_nil ?_)
      refine wpl_put_row (hrow.drewN_ 1) (y.ps.length * 7) 7 (partc ⟨0, -1, 0, 0, up, onR, false⟩) (by kernel_rfl) rfl (by omega) (partc_one ⟨0, -1, 0, 0, up, onR, false⟩) (by rfl) (by rfl) (by rfl) (by rfl) ?_
      intro w4 hown4 hg4
      have hE := put_ (p := ⟨0, -1, 0, 0, up, onR, false⟩) (ps := y.ps ++ [⟨0, -1, 0, 0, up, onR, false⟩]) (hY2.below (below_drewN (Below.refl _ _) 1)) (hW2.drewN 1) hf2 (by have := own_len hrow; simp only [slLen] at this; simp) (by simp) hown4 hg4
      have HE := Lib.hid hE
      clear hE hown4 hg4 hrow hY2 hW2 B10 g0 g1 g2 g3 g4 g5 g6 c0
      go_wp2
      go_ret
      exact ⟨rfl, _, HE.out.1, HE.out.2, hf2⟩
    · have e3 : (k == 3) = false := by simpa using k3
      clear hk2 hk1
      have hB5 := Blk.new w 26 [.int .i64 k, .int .i64 c, .bool b, .int .i64 l, .slice A0 m cap]
      have hb5 : Below w.heap.size w (w.alloc (.cells ([.int .i64 k, .int .i64 c, .bool b, .int .i64 l, .slice A0 m cap] : List Value).toArray 26)) := below_alloc (Below.refl _ _) _
      have h5 := h.below hb5
      have hkw : Keeps (fun k => k = yb ∨ P.ownBlock = some k) w (w.alloc (.cells ([.int .i64 k, .int .i64 c, .bool b, .int .i64 l, .slice A0 m cap] : List Value).toArray 26)) := (Keeps.refl _ w).alloc _
      obtain ⟨q5, hq5⟩ : ∃ q5, q5 = w.heap.size := ⟨_, rfl⟩
      have n63 : y.ps.length + 1 ≤ maxLen := by unfold maxLen; have := Stl.sz_pos .nil; omega
      have n47 : (y.ps.length + 1) * 48 ≤ 140737488355328 := by have := Stl.sz_pos .nil; omega
      obtain ⟨PA, pn, pc, hPe⟩ : ∃ PA pn pc, P = .slice PA pn pc := by
        obtain ⟨A', c', e, -, -⟩ := own_slice h.parts
        exact ⟨_, _, _, e⟩
      have hpn : pn = y.ps.length := by have := h.parts; rw [hPe] at this; exact own_len this
      subst hPe
      subst hpn
      go_enter Try.func24, Try.ntmps24
      go_upto_region 1 with (fail)
      rw [← hq5] at hB5 ⊢
      have HQ := Lib.hid hq5
      generalize (w.alloc (.cells ([.int .i64 k, .int .i64 c, .bool b, .int .i64 l, .slice A0 m cap] : List Value).toArray 26)) = W at hB5 hb5 h5 hkw ⊢
      clear hq5
      obtain ⟨c0, -, -, -, -⟩ := h5.heads
      have lyb := h5.lt
      have hwl := h5.base_le
      have HPW := Lib.hid (fun w1 (hg : W.grownBy w1 (Value.slice PA y.ps.length pc).ownBlock) => (h5.blk.grown hg (fun e => own_blk_ne h5.parts h5.blk (by decide) e.symm) : Blk w1 yb _ _))
      have H5 := Lib.hid (And.intro h5 (And.intro hB5 hkw))
      have hrow := h5.parts
      clear h5 hB5 hkw
      go_wp2_with (first
        | (at_builtin; refine wp_push W _ _ base _ _ _ _ _ Try.underlying62 info_part rfl (by decide) hrow (partc ⟨0, -1, 0, 0, up, onR, false⟩) rfl (partc_one _) n63 n47 hwl rfl rfl rfl rfl ?_; intro P1 w1 hown1 hg1 hv1 _; have hY1 := HPW.out w1 hg1; have hown1' := hown1; obtain ⟨pg, pb, rfl, hle1, hm1, hbp⟩ := own_addr hown1' (Nat.succ_pos _); clear hown1')
        | (refine wpl_set_blk hY1 0 _ (by kernel_rfl) (by simp) rfl rfl rfl rfl rfl rfl ?_; intro w2 hY2 hg2; simp only [List.set_cons_zero] at hY2; have h2 := laid_ H5.out.1 H5.out.2.1 H5.out.2.2 hown1 hg1 hv1 hY2 hg2; have t0 := (h2.2.1.cell 0).trans rfl; have t1 := (h2.2.1.cell 1).trans rfl; have t2 := (h2.2.1.cell 2).trans rfl; have t3 := (h2.2.1.cell 3).trans rfl; have t4 := (h2.2.1.cell 4).trans rfl; have lq := h2.2.1.lt; have ly2 := h2.1.lt; clear hown1 hg1 hv1 hY1 hY2 hg2 c0 hle1 hm1 hbp))
      obtain ⟨q10, hq10⟩ : ∃ q10, q10 = w2.heap.size := ⟨_, rfl⟩
      have B10 := Blk.new w2 85 [.int .i64 0, .int .i64 (-1), .int .i64 0, .int .i64 0, .int .i64 up, .bool onR, .bool false]
      have hW2 := (show LK yb _ w _ from h2.2.2.1.alloc (.cells ([.int .i64 0, .int .i64 (-1), .int .i64 0, .int .i64 0, .int .i64 up, .bool onR, .bool false] : List Value).toArray 85))
      have hY2 := h2.1.below (below_alloc (Below.refl _ _) (.cells ([.int .i64 0, .int .i64 (-1), .int .i64 0, .int .i64 0, .int .i64 up, .bool onR, .bool false] : List Value).toArray 85))
      have hb2 := below_alloc (Below.refl w2.heap.size w2) (.cells ([.int .i64 0, .int .i64 (-1), .int .i64 0, .int .i64 0, .int .i64 up, .bool onR, .bool false] : List Value).toArray 85)
      have hf2 := h2.2.2.2
      rw [← hq10] at B10 ⊢
      have HQ10 := Lib.hid hq10
      clear hq10
      generalize (w2.alloc (.cells ([.int .i64 0, .int .i64 (-1), .int .i64 0, .int .i64 0, .int .i64 up, .bool onR, .bool false] : List Value).toArray 85)) = W2 at B10 hb2 hW2 hY2 ⊢
      have g0 : W2.cell? ⟨q10, 0, none⟩ = some (.int .i64 (0)) := (B10.cell 0).trans rfl
      have g1 : W2.cell? ⟨q10, 1, none⟩ = some (.int .i64 (-1)) := (B10.cell 1).trans rfl
      have g2 : W2.cell? ⟨q10, 2, none⟩ = some (.int .i64 (0)) := (B10.cell 2).trans rfl
      have g3 : W2.cell? ⟨q10, 3, none⟩ = some (.int .i64 (0)) := (B10.cell 3).trans rfl
      have g4 : W2.cell? ⟨q10, 4, none⟩ = some (.int .i64 up) := (B10.cell 4).trans rfl
      have g5 : W2.cell? ⟨q10, 5, none⟩ = some (.bool onR) := (B10.cell 5).trans rfl
      have g6 : W2.cell? ⟨q10, 6, none⟩ = some (.bool false) := (B10.cell 6).trans rfl
      obtain ⟨N, hN⟩ : ∃ N, N = y.ps.length + 1 := ⟨_, rfl⟩
      have hnN : y.ps.length < N := by omega
      have hrow := hY2.parts
      simp only [List.length_append, List.length_cons, List.length_nil, Nat.zero_add] at hrow
      rw [← hN] at hY2 hf2 hrow
      have HNN := Lib.hid hN
      clear hN
      obtain ⟨c0, -, -, -, -⟩ := hY2.heads
      (refine still_last (by kernel_rfl) (by kernel_rfl) ?_; simp only [List.length_cons, List.length_nil, Nat.reduceAdd, Nat.reduceSub, List.take_succ_cons, List.take_zero, List.drop_succ_cons, List.drop_zero]; repeat still_step; try refine wpStill_nil ?_)
      refine wpl_put_row (hrow.drewN_ 1) (y.ps.length * 7) 7 (partc ⟨0, -1, 0, 0, up, onR, false⟩) (by kernel_rfl) rfl (by omega) (partc_one ⟨0, -1, 0, 0, up, onR, false⟩) (by rfl) (by rfl) (by rfl) (by rfl) ?_
      intro w4 hown4 hg4
      have hE := put_ (p := ⟨0, -1, 0, 0, up, onR, false⟩) (ps := y.ps ++ [⟨0, -1, 0, 0, up, onR, false⟩]) (hY2.below (below_drewN (Below.refl _ _) 1)) (hW2.drewN 1) hf2 (by have := own_len hrow; simp only [slLen] at this; simp) (by simp) hown4 hg4
      have HE := Lib.hid hE
      clear hE hown4 hg4 hrow hY2 hW2 B10 g0 g1 g2 g3 g4 g5 g6 c0
      go_wp2
      go_ret
      exact ⟨rfl, _, HE.out.1, HE.out.2, hf2⟩

set_option maxHeartbeats 4000000 in
theorem lay_one (c : Int) (b : Bool) (l : Int) : LayOK (.one c b l) := by
  intro w yb base lv B y P A Q D gs rs cs up onR h hT hB hu1 hu2 hs hl
  have hl' : lv + 1 ≤ 274877906944 := hl
  cases hT with
  | one c b l A0 m cap hm hcap =>
  unfold tcells
  unfold maxLen at hcap
  have hB5 := Blk.new w 26 [.int .i64 1, .int .i64 c, .bool b, .int .i64 l, .slice A0 m cap]
  have hb5 : Below w.heap.size w (w.alloc (.cells ([.int .i64 1, .int .i64 c, .bool b, .int .i64 l, .slice A0 m cap] : List Value).toArray 26)) := below_alloc (Below.refl _ _) _
  have h5 := h.below hb5
  have hkw : Keeps (fun k => k = yb ∨ P.ownBlock = some k) w (w.alloc (.cells ([.int .i64 1, .int .i64 c, .bool b, .int .i64 l, .slice A0 m cap] : List Value).toArray 26)) := (Keeps.refl _ w).alloc _
  obtain ⟨q5, hq5⟩ : ∃ q5, q5 = w.heap.size := ⟨_, rfl⟩
  have n63 : y.ps.length + 1 ≤ maxLen := by unfold maxLen; have := Stl.sz_pos (Sp.T.one c b l); omega
  have n47 : (y.ps.length + 1) * 48 ≤ 140737488355328 := by have := Stl.sz_pos (Sp.T.one c b l); omega
  obtain ⟨PA, pn, pc, hPe⟩ : ∃ PA pn pc, P = .slice PA pn pc := by
    obtain ⟨A', c', e, -, -⟩ := own_slice h.parts
    exact ⟨_, _, _, e⟩
  have hpn : pn = y.ps.length := by have := h.parts; rw [hPe] at this; exact own_len this
  subst hPe
  subst hpn
  go_enter Try.func24, Try.ntmps24
  go_upto_region 1 with (fail)
  rw [← hq5] at hB5 ⊢
  have HQ := Lib.hid hq5
  generalize (w.alloc (.cells ([.int .i64 1, .int .i64 c, .bool b, .int .i64 l, .slice A0 m cap] : List Value).toArray 26)) = W at hB5 hb5 h5 hkw ⊢
  clear hq5
  obtain ⟨c0, -, -, -, -⟩ := h5.heads
  have lyb := h5.lt
  have hwl := h5.base_le
  have HPW := Lib.hid (fun w1 (hg : W.grownBy w1 (Value.slice PA y.ps.length pc).ownBlock) => (h5.blk.grown hg (fun e => own_blk_ne h5.parts h5.blk (by decide) e.symm) : Blk w1 yb _ _))
  have H5 := Lib.hid (And.intro h5 (And.intro hB5 hkw))
  have hrow := h5.parts
  clear h5 hB5 hkw
  go_wp2_with (first
    | (at_builtin; refine wp_push W _ _ base _ _ _ _ _ Try.underlying62 info_part rfl (by decide) hrow (partc ⟨0, -1, 0, 0, up, onR, false⟩) rfl (partc_one _) n63 n47 hwl rfl rfl rfl rfl ?_; intro P1 w1 hown1 hg1 hv1 _; have hY1 := HPW.out w1 hg1; have hown1' := hown1; obtain ⟨pg, pb, rfl, hle1, hm1, hbp⟩ := own_addr hown1' (Nat.succ_pos _); clear hown1')
    | (refine wpl_set_blk hY1 0 _ (by kernel_rfl) (by simp) rfl rfl rfl rfl rfl rfl ?_; intro w2 hY2 hg2; simp only [List.set_cons_zero] at hY2; have h2 := laid_ H5.out.1 H5.out.2.1 H5.out.2.2 hown1 hg1 hv1 hY2 hg2; have t0 := (h2.2.1.cell 0).trans rfl; have t1 := (h2.2.1.cell 1).trans rfl; have t2 := (h2.2.1.cell 2).trans rfl; have t3 := (h2.2.1.cell 3).trans rfl; have t4 := (h2.2.1.cell 4).trans rfl; have lq := h2.2.1.lt; have ly2 := h2.1.lt; clear hown1 hg1 hv1 hY1 hY2 hg2 c0 hle1 hm1 hbp))
  obtain ⟨q10, hq10⟩ : ∃ q10, q10 = w2.heap.size := ⟨_, rfl⟩
  have B10 := Blk.new w2 85 [.int .i64 0, .int .i64 (-1), .int .i64 0, .int .i64 0, .int .i64 up, .bool onR, .bool false]
  have hW2 := (show LK yb _ w _ from h2.2.2.1.alloc (.cells ([.int .i64 0, .int .i64 (-1), .int .i64 0, .int .i64 0, .int .i64 up, .bool onR, .bool false] : List Value).toArray 85))
  have hY2 := h2.1.below (below_alloc (Below.refl _ _) (.cells ([.int .i64 0, .int .i64 (-1), .int .i64 0, .int .i64 0, .int .i64 up, .bool onR, .bool false] : List Value).toArray 85))
  have hb2 := below_alloc (Below.refl w2.heap.size w2) (.cells ([.int .i64 0, .int .i64 (-1), .int .i64 0, .int .i64 0, .int .i64 up, .bool onR, .bool false] : List Value).toArray 85)
  have hf2 := h2.2.2.2
  rw [← hq10] at B10 ⊢
  have HQ10 := Lib.hid hq10
  clear hq10
  generalize (w2.alloc (.cells ([.int .i64 0, .int .i64 (-1), .int .i64 0, .int .i64 0, .int .i64 up, .bool onR, .bool false] : List Value).toArray 85)) = W2 at B10 hb2 hW2 hY2 ⊢
  have l10 : q10 = w2.heap.size := HQ10.out
  have ny : q10 ≠ yb := by omega
  have ny' : yb ≠ q10 := by omega
  have n5 : q10 ≠ q5 := by omega
  have n5' : q5 ≠ q10 := by omega
  have hl10 := B10.lt
  obtain ⟨-, a1, -, -, -⟩ := hY2.heads
  have g0 : W2.cell? ⟨q5, 0, none⟩ = some (.int .i64 1) := (((h2.2.1).below hb2).cell 0).trans rfl
  have f0 := B10.frozen 0
  have f1 := B10.frozen 1
  have k0 : W2.cell? ⟨q10, 0, none⟩ = some (.int .i64 0) := (B10.cell 0).trans rfl
  have k1 : W2.cell? ⟨q10, 1, none⟩ = some (.int .i64 (-1)) := (B10.cell 1).trans rfl
  have HH := Lib.hid (And.intro h2 (And.intro hb2 (And.intro hf2 (And.intro l10 B10))))
  clear h2 hb2 hf2 l10 B10 hY2 hW2 t0 t1 t2 t3 t4
  go_cut [] (fun wx => Below w2.heap.size w2 wx ∧ Blk wx q10 85 [.int .i64 1, .int .i64 (lv : Int), .int .i64 0, .int .i64 0, .int .i64 up, .bool onR, .bool false])
  case first =>
    go_region
    have hg1 := grown_setCell W2 q10 0 (.int .i64 1)
    have hg2 := grown_setCell (W2.setCell ⟨q10, 0, none⟩ (.int .i64 1)) q10 1 (.int .i64 (lv : Int))
    have hz1 := hg1.size
    have hz2 := HH.out.2.1.size
    have hz3 := HH.out.2.2.2.1
    have hbE := ((HH.out.2.1.trans (below_of_grown hg1 hz2 (by omega))).trans (below_of_grown hg2 (by omega) (by omega))).drew
    have BE := ((HH.out.2.2.2.2.set_ 0 (.int .i64 1)).set_ 1 (.int .i64 (lv : Int))).drew
    simp only [List.set_cons_zero, List.set_cons_succ] at BE
    go_wp2_with fail
    go_meet
    case rel => exact ⟨hbE, BE⟩
  case rest =>
    obtain ⟨hb3, B3⟩ := hcut
    have hY3 := HH.out.1.1.below hb3
    have hW3 := (show LK yb _ w _ from HH.out.1.2.2.1.trans (Keeps.of_below hb3 _))
    obtain ⟨-, a1, -, -, -⟩ := hY3.heads
    have hB := hY3.blk
    have hf3 := HH.out.2.2.1
    have HY3 := Lib.hid (And.intro hY3 (And.intro hW3 (And.intro B3 hf3)))
    have hn10 : yb ≠ q10 := ny'
    clear hY3 hW3 B3 hb3 hf3 HH
    go_wp2_with (refine wpl_set_blk hB 1 (.int .i64 ((lv + 1 : Nat) : Int)) (by kernel_rfl) (by simp) (by rfl) (by rfl) (by rfl) (by rfl) (by rfl) (by first | rfl | simp) ?_; intro wx hBx hgx)
    simp only [List.set_cons_zero, List.set_cons_succ] at hBx
    have hY2 := HY3.out.1.counted hBx hgx
    have hW2 := (show LK yb _ w _ from HY3.out.2.1.step (Keeps.of_grown hgx) (fun i _ hi => .inl (by injection hi)))
    have B10 := HY3.out.2.2.1.grown hgx (fun e => ny (by injection e))
    have hf2 := HY3.out.2.2.2
    clear hBx hgx hB a1
    have g0 : wx.cell? ⟨q10, 0, none⟩ = some (.int .i64 1) := (B10.cell 0).trans rfl
    have g1 : wx.cell? ⟨q10, 1, none⟩ = some (.int .i64 (lv : Int)) := (B10.cell 1).trans rfl
    have g2 : wx.cell? ⟨q10, 2, none⟩ = some (.int .i64 (0)) := (B10.cell 2).trans rfl
    have g3 : wx.cell? ⟨q10, 3, none⟩ = some (.int .i64 (0)) := (B10.cell 3).trans rfl
    have g4 : wx.cell? ⟨q10, 4, none⟩ = some (.int .i64 up) := (B10.cell 4).trans rfl
    have g5 : wx.cell? ⟨q10, 5, none⟩ = some (.bool onR) := (B10.cell 5).trans rfl
    have g6 : wx.cell? ⟨q10, 6, none⟩ = some (.bool false) := (B10.cell 6).trans rfl
    obtain ⟨N, hN⟩ : ∃ N, N = y.ps.length + 1 := ⟨_, rfl⟩
    have hnN : y.ps.length < N := by omega
    have hrow := hY2.parts
    simp only [List.length_append, List.length_cons, List.length_nil, Nat.zero_add, List.length_set] at hrow
    rw [← hN] at hY2 hf2 hrow
    have HNN := Lib.hid hN
    clear hN
    obtain ⟨c0, -, -, -, -⟩ := hY2.heads
    (refine still_last (by kernel_rfl) (by kernel_rfl) ?_; simp only [List.length_cons, List.length_nil, Nat.reduceAdd, Nat.reduceSub, List.take_succ_cons, List.take_zero, List.drop_succ_cons, List.drop_zero]; repeat still_step; try refine wpStill_nil ?_)
    refine wpl_put_row (hrow.drewN_ 1) (y.ps.length * 7) 7 (partc ⟨1, (lv : Int), 0, 0, up, onR, false⟩) (by kernel_rfl) rfl (by omega) (partc_one ⟨1, (lv : Int), 0, 0, up, onR, false⟩) (by rfl) (by rfl) (by rfl) (by rfl) ?_
    intro w4 hown4 hg4
    have hE := put_ (p := ⟨1, (lv : Int), 0, 0, up, onR, false⟩) (ps := y.ps ++ [⟨1, (lv : Int), 0, 0, up, onR, false⟩]) (hY2.below (below_drewN (Below.refl _ _) 1)) (hW2.drewN 1) hf2 (by have := own_len hrow; simp only [slLen] at this; simp) (by simp) hown4 hg4
    have HE := Lib.hid hE
    clear hE hown4 hg4 hrow hY2 hW2 B10 g0 g1 g2 g3 g4 g5 g6 c0
    go_wp2
    go_ret
    exact ⟨rfl, _, HE.out.1, HE.out.2, hf2⟩
end Go.Proofs.Ytcoijmnnnfogdaa


namespace Go.Proofs.Ytcoijmnnnfogdaa
set_option linter.unusedVariables false
set_option linter.unusedSimpArgs false
set_option maxRecDepth 100000
open Go.RowKit

/-- a part's box beside a yard is turned -/
theorem YA.beside {w w' : World} {yb base lv q : Nat} {y : Stl.Y} {P A Q D : Value} {gs : List Nat} {rs : List (Option Nat)} {cs : List Value} (h : YA w yb base y lv P A Q D gs rs) (B : Blk w q 85 cs) (hP : P.ownBlock ≠ some q) (k : Keeps (fun k => k = q) w w') : YA w' yb base y lv P A Q D gs rs :=
  h.keeps k (fun e => Blk.type_ne h.blk B (by decide) e) (fun b e e' => hP (by rw [e, e'])) (fun b e e' => own_blk_ne h.ats B (by decide) (by rw [e, e'])) (fun b e e' => own_blk_ne h.qus B (by decide) (by rw [e, e'])) (fun b e e' => own_blk_ne h.log B (by decide) (by rw [e, e']))
    (fun i g hg e => by
      obtain ⟨_, _, -, -, hd, -⟩ := h.of_g hg
      obtain ⟨ds, hc⟩ := hd.blk
      exact Blk.type_ne hc B (by decide) e)
    (fun i b hb e => by
      obtain ⟨_, _, -, -, hd⟩ := h.of_r hb
      obtain ⟨v, n, xs, hr, hv⟩ := hd.row
      exact own_blk_ne hr B (by decide) (by rw [hv, e]))
theorem LK.below {w w' : World} {yb base : Nat} {P : Value} {e : TypeId} {size n : Nat} {xs : List Value} (h : LK yb P w w') (hP : w.ownsRow base e size P n xs) (hb : base ≤ w.heap.size) (hy : base ≤ yb) : Below base w w' :=
  Keeps.below h hb fun i hi => hi.elim (fun e => by omega) (fun e => own_ge hP i e)

theorem YA.row_ {w : World} {yb base lv : Nat} {y : Stl.Y} {P A Q D : Value} {gs : List Nat} {rs : List (Option Nat)} (h : YA w yb base y lv P A Q D gs rs) : ∃ N, N = y.ps.length ∧ w.ownsRow base 85 7 P N (partcs y.ps) := ⟨_, rfl, h.parts⟩

theorem kid1 {w W w3 : World} {yb base lv q10 q5 : Nat} {y : Stl.Y} {P P1 P2 A Q D : Value} {gs : List Nat} {rs : List (Option Nat)} {cs c5 : List Value} (hk : LK yb P w W) (hf : ∀ i, P1.ownBlock = some i → P.ownBlock = some i ∨ w.heap.size ≤ i) (h : YA W yb base y lv P1 A Q D gs rs) (B10 : Blk W q10 85 cs) (hP1 : ∀ i, P1.ownBlock = some i → i ≠ q10) (B5 : Blk W q5 26 c5)
    (k3 : LK yb P1 W w3) (f3 : ∀ i, P2.ownBlock = some i → P1.ownBlock = some i ∨ W.heap.size ≤ i) :
    LK yb P w w3 ∧ (∀ i, P2.ownBlock = some i → P.ownBlock = some i ∨ w.heap.size ≤ i) ∧ Blk w3 q10 85 cs ∧ (∀ i, P2.ownBlock = some i → i ≠ q10) ∧ Blk w3 q5 26 c5 := by
  have hz := hk.size
  have hl := B10.lt
  refine ⟨hk.step k3 fun i hi hs => ?_, fun i hi => ?_, B10.keeps k3 fun e => ?_, fun i hi => ?_, B5.keeps k3 fun e => ?_⟩
  · rcases hs with e | e
    · exact .inl e
    · rcases hf i e with e | e
      · exact .inr e
      · omega
  · rcases f3 i hi with e | e
    · exact hf i e
    · exact .inr (by omega)
  · rcases e with e | e
    · exact Blk.type_ne h.blk B10 (by decide) e.symm
    · exact hP1 _ e rfl
  · rcases f3 i hi with e | e
    · exact hP1 i e
    · omega
  · rcases e with e | e
    · exact Blk.type_ne h.blk B5 (by decide) e.symm
    · exact own_blk_ne h.parts B5 (by decide) e

theorem kid2 {w w3 w4 : World} {yb base lv q10 q5 : Nat} {y : Stl.Y} {P P2 A Q D : Value} {gs : List Nat} {rs : List (Option Nat)} {cs c5 : List Value} (h : YA w3 yb base y lv P2 A Q D gs rs) (hk : LK yb P w w3) (B10 : Blk w3 q10 85 cs) (hP : ∀ i, P2.ownBlock = some i → i ≠ q10) (B5 : Blk w3 q5 26 c5) (hq : w.heap.size ≤ q10) (hg : w3.grownBy w4 (some q10)) :
    YA w4 yb base y lv P2 A Q D gs rs ∧ LK yb P w w4 ∧ Blk w4 q5 26 c5 := by
  have k : Keeps (fun k => k = q10) w3 w4 := (Keeps.of_grown hg).mono fun i hi => by injection hi
  refine ⟨h.beside B10 (fun e => hP _ e rfl) k, hk.step k fun i hi hs => ?_, B5.keeps k fun e => Blk.type_ne B5 B10 (by decide) e⟩
  omega






set_option maxHeartbeats 4000000 in
theorem lay_two (par : Bool) (tl tr : Sp.T) (ihl : LayOK tl) (ihr : LayOK tr) : LayOK (.two par tl tr) := by
  intro w yb base lv B y P A Q D gs rs cs up onR h hT hB hu1 hu2 hs hl
  cases hT with
  | two par c b l g o m cap cs0 cs1 t0 t1 hm hcap hm2 hgB k0 k1 i0 i1 =>
  obtain ⟨ka, ca, ba, la, Aa, na, capa, rfl, hna, hcapa⟩ := i0.form
  obtain ⟨kb, cb, bb, lb, Ab, nb, capb, rfl, hnb, hcapb⟩ := i1.form
  unfold tcells
  unfold maxLen at hcap
  have HK := Lib.hid (And.intro k0 (And.intro k1 (And.intro i0 i1)))
  clear k0 k1 i0 i1
  have HS := Lib.hid (And.intro hs hl)
  have HR := Lib.hid (And.intro h.parts (And.intro h.base_le h.above))
  rcases par with _ | _
  · rw [if_neg (by decide)]
    have hB5 := Blk.new w 26 [.int .i64 2, .int .i64 c, .bool b, .int .i64 l, .slice (some ⟨g, o, none⟩) m cap]
    have hb5 : Below w.heap.size w (w.alloc (.cells ([.int .i64 2, .int .i64 c, .bool b, .int .i64 l, .slice (some ⟨g, o, none⟩) m cap] : List Value).toArray 26)) := below_alloc (Below.refl _ _) _
    have h5 := h.below hb5
    have hkw : Keeps (fun k => k = yb ∨ P.ownBlock = some k) w (w.alloc (.cells ([.int .i64 2, .int .i64 c, .bool b, .int .i64 l, .slice (some ⟨g, o, none⟩) m cap] : List Value).toArray 26)) := (Keeps.refl _ w).alloc _
    obtain ⟨q5, hq5⟩ : ∃ q5, q5 = w.heap.size := ⟨_, rfl⟩
    have n63 : y.ps.length + 1 ≤ maxLen := by unfold maxLen; have := Stl.sz_pos (Sp.T.two false tl tr); omega
    have n47 : (y.ps.length + 1) * 48 ≤ 140737488355328 := by have := Stl.sz_pos (Sp.T.two false tl tr); omega
    obtain ⟨PA, pn, pc, hPe⟩ : ∃ PA pn pc, P = .slice PA pn pc := by
      obtain ⟨A', c', e, -, -⟩ := own_slice h.parts
      exact ⟨_, _, _, e⟩
    have hpn : pn = y.ps.length := by have := h.parts; rw [hPe] at this; exact own_len this
    subst hPe
    subst hpn
    go_enter Try.func24, Try.ntmps24
    go_upto_region 1 with (fail)
    rw [← hq5] at hB5 ⊢
    have HQ := Lib.hid hq5
    generalize (w.alloc (.cells ([.int .i64 2, .int .i64 c, .bool b, .int .i64 l, .slice (some ⟨g, o, none⟩) m cap] : List Value).toArray 26)) = W at hB5 hb5 h5 hkw ⊢
    clear hq5
    obtain ⟨c0, -, -, -, -⟩ := h5.heads
    have lyb := h5.lt
    have hwl := h5.base_le
    have HPW := Lib.hid (fun w1 (hg : W.grownBy w1 (Value.slice PA y.ps.length pc).ownBlock) => (h5.blk.grown hg (fun e => own_blk_ne h5.parts h5.blk (by decide) e.symm) : Blk w1 yb _ _))
    have H5 := Lib.hid (And.intro h5 (And.intro hB5 hkw))
    have hrow := h5.parts
    clear h5 hB5 hkw
    go_upto_region 9 with (first
      | (at_builtin; refine wp_push W _ _ base _ _ _ _ _ Try.underlying62 info_part rfl (by decide) hrow (partc ⟨0, -1, 0, 0, up, onR, false⟩) rfl (partc_one _) n63 n47 hwl rfl rfl rfl rfl ?_; intro P1 w1 hown1 hg1 hv1 _; have hY1 := HPW.out w1 hg1; have hown1' := hown1; obtain ⟨pg, pb, rfl, hle1, hm1, hbp⟩ := own_addr hown1' (Nat.succ_pos _); clear hown1')
      | (refine wpl_set_blk hY1 0 _ (by kernel_rfl) (by simp) rfl rfl rfl rfl rfl rfl ?_; intro w2 hY2 hg2; simp only [List.set_cons_zero] at hY2; have h2 := laid_ H5.out.1 H5.out.2.1 H5.out.2.2 hown1 hg1 hv1 hY2 hg2; have t0 := (h2.2.1.cell 0).trans rfl; have t1 := (h2.2.1.cell 1).trans rfl; have t2 := (h2.2.1.cell 2).trans rfl; have t3 := (h2.2.1.cell 3).trans rfl; have t4 := (h2.2.1.cell 4).trans rfl; have lq := h2.2.1.lt; have ly2 := h2.1.lt; clear hown1 hg1 hv1 hY1 hY2 hg2 c0 hle1 hm1 hbp))
    obtain ⟨q10, hq10⟩ : ∃ q10, q10 = w2.heap.size := ⟨_, rfl⟩
    have B10 := Blk.new w2 85 [.int .i64 2, .int .i64 (-1), .int .i64 0, .int .i64 0, .int .i64 up, .bool onR, .bool false]
    have hW2 := (show LK yb _ w _ from h2.2.2.1.alloc (.cells ([.int .i64 2, .int .i64 (-1), .int .i64 0, .int .i64 0, .int .i64 up, .bool onR, .bool false] : List Value).toArray 85))
    have hY2 := h2.1.below (below_alloc (Below.refl _ _) (.cells ([.int .i64 2, .int .i64 (-1), .int .i64 0, .int .i64 0, .int .i64 up, .bool onR, .bool false] : List Value).toArray 85))
    have hb2 := below_alloc (Below.refl w2.heap.size w2) (.cells ([.int .i64 2, .int .i64 (-1), .int .i64 0, .int .i64 0, .int .i64 up, .bool onR, .bool false] : List Value).toArray 85)
    have hf2 := h2.2.2.2
    rw [← hq10] at B10 ⊢
    have HQ10 := Lib.hid hq10
    clear hq10
    generalize (w2.alloc (.cells ([.int .i64 2, .int .i64 (-1), .int .i64 0, .int .i64 0, .int .i64 up, .bool onR, .bool false] : List Value).toArray 85)) = W2 at B10 hb2 hW2 hY2 ⊢
    have l10 : q10 = w2.heap.size := HQ10.out
    have hl10 := B10.lt
    have hbw := LK.below hW2 HR.out.1 HR.out.2.1 HR.out.2.2
    have gB : g < base := Nat.lt_of_lt_of_le hgB hB
    have t4 : W2.cell? ⟨q5, 4, none⟩ = some (.slice (some ⟨g, o, none⟩) m cap) := (((h2.2.1).below hb2).cell 4).trans rfl
    have a0 : W2.cell? ⟨g, o, none⟩ = some (.int .i64 ka) := (hbw.cell gB).trans (HK.out.1 0 _ rfl)
    have a1 : W2.cell? ⟨g, o + 1, none⟩ = some (.int .i64 ca) := (hbw.cell gB).trans (HK.out.1 1 _ rfl)
    have a2 : W2.cell? ⟨g, o + 2, none⟩ = some (.bool ba) := (hbw.cell gB).trans (HK.out.1 2 _ rfl)
    have a3 : W2.cell? ⟨g, o + 3, none⟩ = some (.int .i64 la) := (hbw.cell gB).trans (HK.out.1 3 _ rfl)
    have a4 : W2.cell? ⟨g, o + 4, none⟩ = some (.slice Aa na capa) := (hbw.cell gB).trans (HK.out.1 4 _ rfl)
    have hTl := HK.out.2.2.1.later (hbw.mono hB)
    have hsz : Stl.sz (Sp.T.two false tl tr) = 1 + Stl.sz tl + Stl.sz tr := rfl
    have hlz : (Sp.T.two false tl tr).size = tl.size + tr.size := by simp [Sp.T.size, Sp.T.leaves]
    have hP1 : ∀ i, (Value.slice (some ⟨pg, 0, none⟩) (y.ps.length + 1) pb).ownBlock = some i → i ≠ q10 := fun i hi => by have := (h2.1.parts.lt i hi).2; omega
    have HH := Lib.hid (And.intro hY2 (And.intro hW2 (And.intro hf2 (And.intro B10 (And.intro ((h2.2.1).below hb2) (And.intro hP1 (And.intro hTl (And.intro hsz hlz))))))))
    have HWQ := Lib.hid (show w.heap.size ≤ q10 by rw [l10]; exact h2.2.2.1.size)
    clear hY2 hW2 hf2 B10 h2 hb2 hbw hTl hsz hlz hP1 t0 t1 t2 t3 hs hl h l10 hl10 lq ly2 lyb
    go_wp2_with fail
    refine (ihl W2 yb base lv B { y with ps := y.ps ++ [⟨0, -1, 0, 0, up, onR, false⟩] } _ A Q D gs rs _ (y.ps.length : Int) false HH.out.1 HH.out.2.2.2.2.2.2.1 hB (by omega) (by have := HS.out.1; omega) (by have := HS.out.1; have := HH.out.2.2.2.2.2.2.2.1; simp only [List.length_append, List.length_cons, List.length_nil]; omega) (by have := HS.out.2; have := HH.out.2.2.2.2.2.2.2.2; omega)).mono ?_
    rintro e w3 ⟨he, P3, hY3, hk3, hf3⟩
    simp only [List.length_append, List.length_cons, List.length_nil, Nat.zero_add, List.append_assoc, List.cons_append, List.nil_append] at he hY3
    subst he
    obtain ⟨kW, kf, kB, kP, k5⟩ := kid1 HH.out.2.1 HH.out.2.2.1 HH.out.1 HH.out.2.2.2.1 HH.out.2.2.2.2.2.1 HH.out.2.2.2.2.1 hk3 hf3
    have HK3 := Lib.hid (And.intro hY3 (And.intro kW (And.intro kf (And.intro kP k5))))
    clear hY3 kW kf kP k5 hk3 hf3 a0 a1 a2 a3 a4 t4
    go_upto_region 10 with (refine wpl_set_blk kB 2 (.int .i64 ((y.ps.length + 1 : Nat) : Int)) (by kernel_rfl) (by simp) (by rfl) (by rfl) (by rfl) (by rfl) (by rfl) (by rfl) ?_; intro w4 B4 hg4)
    simp only [List.set_cons_zero, List.set_cons_succ] at B4
    obtain ⟨hY4, hW4, B5⟩ := kid2 HK3.out.1 HK3.out.2.1 kB HK3.out.2.2.2.1 HK3.out.2.2.2.2 HWQ.out hg4
    clear kB hg4
    have hbw := LK.below hW4 HR.out.1 HR.out.2.1 HR.out.2.2
    have gB : g < base := Nat.lt_of_lt_of_le hgB hB
    have t4 : w4.cell? ⟨q5, 4, none⟩ = some (.slice (some ⟨g, o, none⟩) m cap) := (B5.cell 4).trans rfl
    have a0 : w4.cell? ⟨g, o + 5, none⟩ = some (.int .i64 kb) := (hbw.cell gB).trans (HK.out.2.1 0 _ rfl)
    have a1 : w4.cell? ⟨g, o + 6, none⟩ = some (.int .i64 cb) := (hbw.cell gB).trans (HK.out.2.1 1 _ rfl)
    have a2 : w4.cell? ⟨g, o + 7, none⟩ = some (.bool bb) := (hbw.cell gB).trans (HK.out.2.1 2 _ rfl)
    have a3 : w4.cell? ⟨g, o + 8, none⟩ = some (.int .i64 lb) := (hbw.cell gB).trans (HK.out.2.1 3 _ rfl)
    have a4 : w4.cell? ⟨g, o + 9, none⟩ = some (.slice Ab nb capb) := (hbw.cell gB).trans (HK.out.2.1 4 _ rfl)
    have hTr := HK.out.2.2.2.later (hbw.mono hB)
    have hz := Stl.partsOf_length tl (y.ps.length + 1) lv y.ps.length false
    have HH4 := Lib.hid (And.intro hY4 (And.intro hW4 (And.intro B4 (And.intro B5 (And.intro hTr hz)))))
    clear hY4 hW4 B4 B5 hTr hz hbw
    go_wp2_with fail
    refine (ihr w4 yb base _ B _ _ A Q D gs rs _ (y.ps.length : Int) true HH4.out.1 HH4.out.2.2.2.2.1 hB (by omega) (by have := HS.out.1; omega) (by have := HS.out.1; have := HH.out.2.2.2.2.2.2.2.1; have := HH4.out.2.2.2.2.2; simp only [List.length_append, List.length_cons]; omega) (by have := HS.out.2; have := HH.out.2.2.2.2.2.2.2.2; omega)).mono ?_
    rintro e w5 ⟨he, P5, hY5, hk5, hf5⟩
    have hl5 : (y.ps ++ ⟨0, -1, 0, 0, up, onR, false⟩ :: Stl.partsOf tl (y.ps.length + 1) lv y.ps.length false).length = y.ps.length + 1 + Stl.sz tl := by have := HH4.out.2.2.2.2.2; simp only [List.length_append, List.length_cons]; omega
    rw [hl5] at he hY5
    subst he
    obtain ⟨kW, kf, kB, kP, k5⟩ := kid1 HH4.out.2.1 HK3.out.2.2.1 HH4.out.1 HH4.out.2.2.1 HK3.out.2.2.2.1 HH4.out.2.2.2.1 hk5 hf5
    have HK5 := Lib.hid (And.intro hY5 (And.intro kW (And.intro kf (And.intro kP k5))))
    clear hY5 kW kf kP k5 hk5 hf5 hl5 a0 a1 a2 a3 a4 t4
    go_upto_region 11 with (refine wpl_set_blk kB 3 (.int .i64 ((y.ps.length + 1 + Stl.sz tl : Nat) : Int)) (by kernel_rfl) (by simp) (by rfl) (by rfl) (by rfl) (by rfl) (by rfl) (by rfl) ?_; intro w6 B6 hg6)
    simp only [List.set_cons_zero, List.set_cons_succ] at B6
    obtain ⟨hY6, hW6, -⟩ := kid2 HK5.out.1 HK5.out.2.1 kB HK5.out.2.2.2.1 HK5.out.2.2.2.2 HWQ.out hg6
    have hf2 := HK5.out.2.2.1
    clear kB hg6
    obtain ⟨N, hN, hrow⟩ := hY6.row_
    dsimp only at hN hrow
    have hnN : y.ps.length < N := by rw [hN]; simp only [List.length_append, List.length_cons]; omega
    obtain ⟨pg5, pb5, rfl, -, -, -⟩ := own_addr hrow (by omega)
    have hps : ((y.ps ++ ⟨0, -1, 0, 0, up, onR, false⟩ :: Stl.partsOf tl (y.ps.length + 1) lv y.ps.length false) ++ Stl.partsOf tr (y.ps.length + 1 + Stl.sz tl) (lv + tl.size) y.ps.length true).set y.ps.length ⟨2, -1, y.ps.length + 1, y.ps.length + 1 + Stl.sz tl, up, onR, false⟩ = y.ps ++ Stl.partsOf (.two false tl tr) y.ps.length lv up onR := by
      simp [Stl.partsOf]
    have HN := Lib.hid (And.intro hN hps)
    clear hN hps
    have g0 : w6.cell? ⟨q10, 0, none⟩ = some (.int .i64 2) := (B6.cell 0).trans rfl
    have g1 : w6.cell? ⟨q10, 1, none⟩ = some (.int .i64 (-1)) := (B6.cell 1).trans rfl
    have g2 : w6.cell? ⟨q10, 2, none⟩ = some (.int .i64 ((y.ps.length + 1 : Nat) : Int)) := (B6.cell 2).trans rfl
    have g3 : w6.cell? ⟨q10, 3, none⟩ = some (.int .i64 ((y.ps.length + 1 + Stl.sz tl : Nat) : Int)) := (B6.cell 3).trans rfl
    have g4 : w6.cell? ⟨q10, 4, none⟩ = some (.int .i64 up) := (B6.cell 4).trans rfl
    have g5 : w6.cell? ⟨q10, 5, none⟩ = some (.bool onR) := (B6.cell 5).trans rfl
    have g6 : w6.cell? ⟨q10, 6, none⟩ = some (.bool false) := (B6.cell 6).trans rfl
    obtain ⟨c0, -, -, -, -⟩ := hY6.heads
    (refine still_last (by kernel_rfl) (by kernel_rfl) ?_; simp only [List.length_cons, List.length_nil, Nat.reduceAdd, Nat.reduceSub, List.take_succ_cons, List.take_zero, List.drop_succ_cons, List.drop_zero]; repeat still_step; try refine wpStill_nil ?_)
    refine wpl_put_row (hrow.drewN_ 1) (y.ps.length * 7) 7 (partc ⟨2, -1, y.ps.length + 1, y.ps.length + 1 + Stl.sz tl, up, onR, false⟩) (by kernel_rfl) rfl (by omega) (partc_one ⟨2, -1, y.ps.length + 1, y.ps.length + 1 + Stl.sz tl, up, onR, false⟩) (by rfl) (by rfl) (by rfl) (by rfl) ?_
    intro w8 hown8 hg8
    have hE := put_ (p := ⟨2, -1, y.ps.length + 1, y.ps.length + 1 + Stl.sz tl, up, onR, false⟩) (hY6.below (below_drewN (Below.refl _ _) 1)) (hW6.drewN 1) hf2 (by have := HN.out.1; rw [this] at hnN; exact hnN) HN.out.2 hown8 hg8
    have HE := Lib.hid hE
    clear hE hown8 hg8 hrow hY6 hW6 B6 g0 g1 g2 g3 g4 g5 g6 c0
    go_wp2
    go_ret
    exact ⟨rfl, _, by rw [HH.out.2.2.2.2.2.2.2.2, ← Nat.add_assoc]; exact HE.out.1, HE.out.2, hf2⟩
  · rw [if_pos rfl]
    have hB5 := Blk.new w 26 [.int .i64 3, .int .i64 c, .bool b, .int .i64 l, .slice (some ⟨g, o, none⟩) m cap]
    have hb5 : Below w.heap.size w (w.alloc (.cells ([.int .i64 3, .int .i64 c, .bool b, .int .i64 l, .slice (some ⟨g, o, none⟩) m cap] : List Value).toArray 26)) := below_alloc (Below.refl _ _) _
    have h5 := h.below hb5
    have hkw : Keeps (fun k => k = yb ∨ P.ownBlock = some k) w (w.alloc (.cells ([.int .i64 3, .int .i64 c, .bool b, .int .i64 l, .slice (some ⟨g, o, none⟩) m cap] : List Value).toArray 26)) := (Keeps.refl _ w).alloc _
    obtain ⟨q5, hq5⟩ : ∃ q5, q5 = w.heap.size := ⟨_, rfl⟩
    have n63 : y.ps.length + 1 ≤ maxLen := by unfold maxLen; have := Stl.sz_pos (Sp.T.two true tl tr); omega
    have n47 : (y.ps.length + 1) * 48 ≤ 140737488355328 := by have := Stl.sz_pos (Sp.T.two true tl tr); omega
    obtain ⟨PA, pn, pc, hPe⟩ : ∃ PA pn pc, P = .slice PA pn pc := by
      obtain ⟨A', c', e, -, -⟩ := own_slice h.parts
      exact ⟨_, _, _, e⟩
    have hpn : pn = y.ps.length := by have := h.parts; rw [hPe] at this; exact own_len this
    subst hPe
    subst hpn
    go_enter Try.func24, Try.ntmps24
    go_upto_region 1 with (fail)
    rw [← hq5] at hB5 ⊢
    have HQ := Lib.hid hq5
    generalize (w.alloc (.cells ([.int .i64 3, .int .i64 c, .bool b, .int .i64 l, .slice (some ⟨g, o, none⟩) m cap] : List Value).toArray 26)) = W at hB5 hb5 h5 hkw ⊢
    clear hq5
    obtain ⟨c0, -, -, -, -⟩ := h5.heads
    have lyb := h5.lt
    have hwl := h5.base_le
    have HPW := Lib.hid (fun w1 (hg : W.grownBy w1 (Value.slice PA y.ps.length pc).ownBlock) => (h5.blk.grown hg (fun e => own_blk_ne h5.parts h5.blk (by decide) e.symm) : Blk w1 yb _ _))
    have H5 := Lib.hid (And.intro h5 (And.intro hB5 hkw))
    have hrow := h5.parts
    clear h5 hB5 hkw
    go_upto_region 9 with (first
      | (at_builtin; refine wp_push W _ _ base _ _ _ _ _ Try.underlying62 info_part rfl (by decide) hrow (partc ⟨0, -1, 0, 0, up, onR, false⟩) rfl (partc_one _) n63 n47 hwl rfl rfl rfl rfl ?_; intro P1 w1 hown1 hg1 hv1 _; have hY1 := HPW.out w1 hg1; have hown1' := hown1; obtain ⟨pg, pb, rfl, hle1, hm1, hbp⟩ := own_addr hown1' (Nat.succ_pos _); clear hown1')
      | (refine wpl_set_blk hY1 0 _ (by kernel_rfl) (by simp) rfl rfl rfl rfl rfl rfl ?_; intro w2 hY2 hg2; simp only [List.set_cons_zero] at hY2; have h2 := laid_ H5.out.1 H5.out.2.1 H5.out.2.2 hown1 hg1 hv1 hY2 hg2; have t0 := (h2.2.1.cell 0).trans rfl; have t1 := (h2.2.1.cell 1).trans rfl; have t2 := (h2.2.1.cell 2).trans rfl; have t3 := (h2.2.1.cell 3).trans rfl; have t4 := (h2.2.1.cell 4).trans rfl; have lq := h2.2.1.lt; have ly2 := h2.1.lt; clear hown1 hg1 hv1 hY1 hY2 hg2 c0 hle1 hm1 hbp))
    obtain ⟨q10, hq10⟩ : ∃ q10, q10 = w2.heap.size := ⟨_, rfl⟩
    have B10 := Blk.new w2 85 [.int .i64 3, .int .i64 (-1), .int .i64 0, .int .i64 0, .int .i64 up, .bool onR, .bool false]
    have hW2 := (show LK yb _ w _ from h2.2.2.1.alloc (.cells ([.int .i64 3, .int .i64 (-1), .int .i64 0, .int .i64 0, .int .i64 up, .bool onR, .bool false] : List Value).toArray 85))
    have hY2 := h2.1.below (below_alloc (Below.refl _ _) (.cells ([.int .i64 3, .int .i64 (-1), .int .i64 0, .int .i64 0, .int .i64 up, .bool onR, .bool false] : List Value).toArray 85))
    have hb2 := below_alloc (Below.refl w2.heap.size w2) (.cells ([.int .i64 3, .int .i64 (-1), .int .i64 0, .int .i64 0, .int .i64 up, .bool onR, .bool false] : List Value).toArray 85)
    have hf2 := h2.2.2.2
    rw [← hq10] at B10 ⊢
    have HQ10 := Lib.hid hq10
    clear hq10
    generalize (w2.alloc (.cells ([.int .i64 3, .int .i64 (-1), .int .i64 0, .int .i64 0, .int .i64 up, .bool onR, .bool false] : List Value).toArray 85)) = W2 at B10 hb2 hW2 hY2 ⊢
    have l10 : q10 = w2.heap.size := HQ10.out
    have hl10 := B10.lt
    have hbw := LK.below hW2 HR.out.1 HR.out.2.1 HR.out.2.2
    have gB : g < base := Nat.lt_of_lt_of_le hgB hB
    have t4 : W2.cell? ⟨q5, 4, none⟩ = some (.slice (some ⟨g, o, none⟩) m cap) := (((h2.2.1).below hb2).cell 4).trans rfl
    have a0 : W2.cell? ⟨g, o, none⟩ = some (.int .i64 ka) := (hbw.cell gB).trans (HK.out.1 0 _ rfl)
    have a1 : W2.cell? ⟨g, o + 1, none⟩ = some (.int .i64 ca) := (hbw.cell gB).trans (HK.out.1 1 _ rfl)
    have a2 : W2.cell? ⟨g, o + 2, none⟩ = some (.bool ba) := (hbw.cell gB).trans (HK.out.1 2 _ rfl)
    have a3 : W2.cell? ⟨g, o + 3, none⟩ = some (.int .i64 la) := (hbw.cell gB).trans (HK.out.1 3 _ rfl)
    have a4 : W2.cell? ⟨g, o + 4, none⟩ = some (.slice Aa na capa) := (hbw.cell gB).trans (HK.out.1 4 _ rfl)
    have hTl := HK.out.2.2.1.later (hbw.mono hB)
    have hsz : Stl.sz (Sp.T.two true tl tr) = 1 + Stl.sz tl + Stl.sz tr := rfl
    have hlz : (Sp.T.two true tl tr).size = tl.size + tr.size := by simp [Sp.T.size, Sp.T.leaves]
    have hP1 : ∀ i, (Value.slice (some ⟨pg, 0, none⟩) (y.ps.length + 1) pb).ownBlock = some i → i ≠ q10 := fun i hi => by have := (h2.1.parts.lt i hi).2; omega
    have HH := Lib.hid (And.intro hY2 (And.intro hW2 (And.intro hf2 (And.intro B10 (And.intro ((h2.2.1).below hb2) (And.intro hP1 (And.intro hTl (And.intro hsz hlz))))))))
    have HWQ := Lib.hid (show w.heap.size ≤ q10 by rw [l10]; exact h2.2.2.1.size)
    clear hY2 hW2 hf2 B10 h2 hb2 hbw hTl hsz hlz hP1 t0 t1 t2 t3 hs hl h l10 hl10 lq ly2 lyb
    go_wp2_with fail
    refine (ihl W2 yb base lv B { y with ps := y.ps ++ [⟨0, -1, 0, 0, up, onR, false⟩] } _ A Q D gs rs _ (y.ps.length : Int) false HH.out.1 HH.out.2.2.2.2.2.2.1 hB (by omega) (by have := HS.out.1; omega) (by have := HS.out.1; have := HH.out.2.2.2.2.2.2.2.1; simp only [List.length_append, List.length_cons, List.length_nil]; omega) (by have := HS.out.2; have := HH.out.2.2.2.2.2.2.2.2; omega)).mono ?_
    rintro e w3 ⟨he, P3, hY3, hk3, hf3⟩
    simp only [List.length_append, List.length_cons, List.length_nil, Nat.zero_add, List.append_assoc, List.cons_append, List.nil_append] at he hY3
    subst he
    obtain ⟨kW, kf, kB, kP, k5⟩ := kid1 HH.out.2.1 HH.out.2.2.1 HH.out.1 HH.out.2.2.2.1 HH.out.2.2.2.2.2.1 HH.out.2.2.2.2.1 hk3 hf3
    have HK3 := Lib.hid (And.intro hY3 (And.intro kW (And.intro kf (And.intro kP k5))))
    clear hY3 kW kf kP k5 hk3 hf3 a0 a1 a2 a3 a4 t4
    go_upto_region 10 with (refine wpl_set_blk kB 2 (.int .i64 ((y.ps.length + 1 : Nat) : Int)) (by kernel_rfl) (by simp) (by rfl) (by rfl) (by rfl) (by rfl) (by rfl) (by rfl) ?_; intro w4 B4 hg4)
    simp only [List.set_cons_zero, List.set_cons_succ] at B4
    obtain ⟨hY4, hW4, B5⟩ := kid2 HK3.out.1 HK3.out.2.1 kB HK3.out.2.2.2.1 HK3.out.2.2.2.2 HWQ.out hg4
    clear kB hg4
    have hbw := LK.below hW4 HR.out.1 HR.out.2.1 HR.out.2.2
    have gB : g < base := Nat.lt_of_lt_of_le hgB hB
    have t4 : w4.cell? ⟨q5, 4, none⟩ = some (.slice (some ⟨g, o, none⟩) m cap) := (B5.cell 4).trans rfl
    have a0 : w4.cell? ⟨g, o + 5, none⟩ = some (.int .i64 kb) := (hbw.cell gB).trans (HK.out.2.1 0 _ rfl)
    have a1 : w4.cell? ⟨g, o + 6, none⟩ = some (.int .i64 cb) := (hbw.cell gB).trans (HK.out.2.1 1 _ rfl)
    have a2 : w4.cell? ⟨g, o + 7, none⟩ = some (.bool bb) := (hbw.cell gB).trans (HK.out.2.1 2 _ rfl)
    have a3 : w4.cell? ⟨g, o + 8, none⟩ = some (.int .i64 lb) := (hbw.cell gB).trans (HK.out.2.1 3 _ rfl)
    have a4 : w4.cell? ⟨g, o + 9, none⟩ = some (.slice Ab nb capb) := (hbw.cell gB).trans (HK.out.2.1 4 _ rfl)
    have hTr := HK.out.2.2.2.later (hbw.mono hB)
    have hz := Stl.partsOf_length tl (y.ps.length + 1) lv y.ps.length false
    have HH4 := Lib.hid (And.intro hY4 (And.intro hW4 (And.intro B4 (And.intro B5 (And.intro hTr hz)))))
    clear hY4 hW4 B4 B5 hTr hz hbw
    go_wp2_with fail
    refine (ihr w4 yb base _ B _ _ A Q D gs rs _ (y.ps.length : Int) true HH4.out.1 HH4.out.2.2.2.2.1 hB (by omega) (by have := HS.out.1; omega) (by have := HS.out.1; have := HH.out.2.2.2.2.2.2.2.1; have := HH4.out.2.2.2.2.2; simp only [List.length_append, List.length_cons]; omega) (by have := HS.out.2; have := HH.out.2.2.2.2.2.2.2.2; omega)).mono ?_
    rintro e w5 ⟨he, P5, hY5, hk5, hf5⟩
    have hl5 : (y.ps ++ ⟨0, -1, 0, 0, up, onR, false⟩ :: Stl.partsOf tl (y.ps.length + 1) lv y.ps.length false).length = y.ps.length + 1 + Stl.sz tl := by have := HH4.out.2.2.2.2.2; simp only [List.length_append, List.length_cons]; omega
    rw [hl5] at he hY5
    subst he
    obtain ⟨kW, kf, kB, kP, k5⟩ := kid1 HH4.out.2.1 HK3.out.2.2.1 HH4.out.1 HH4.out.2.2.1 HK3.out.2.2.2.1 HH4.out.2.2.2.1 hk5 hf5
    have HK5 := Lib.hid (And.intro hY5 (And.intro kW (And.intro kf (And.intro kP k5))))
    clear hY5 kW kf kP k5 hk5 hf5 hl5 a0 a1 a2 a3 a4 t4
    go_upto_region 11 with (refine wpl_set_blk kB 3 (.int .i64 ((y.ps.length + 1 + Stl.sz tl : Nat) : Int)) (by kernel_rfl) (by simp) (by rfl) (by rfl) (by rfl) (by rfl) (by rfl) (by rfl) ?_; intro w6 B6 hg6)
    simp only [List.set_cons_zero, List.set_cons_succ] at B6
    obtain ⟨hY6, hW6, -⟩ := kid2 HK5.out.1 HK5.out.2.1 kB HK5.out.2.2.2.1 HK5.out.2.2.2.2 HWQ.out hg6
    have hf2 := HK5.out.2.2.1
    clear kB hg6
    obtain ⟨N, hN, hrow⟩ := hY6.row_
    dsimp only at hN hrow
    have hnN : y.ps.length < N := by rw [hN]; simp only [List.length_append, List.length_cons]; omega
    obtain ⟨pg5, pb5, rfl, -, -, -⟩ := own_addr hrow (by omega)
    have hps : ((y.ps ++ ⟨0, -1, 0, 0, up, onR, false⟩ :: Stl.partsOf tl (y.ps.length + 1) lv y.ps.length false) ++ Stl.partsOf tr (y.ps.length + 1 + Stl.sz tl) (lv + tl.size) y.ps.length true).set y.ps.length ⟨3, -1, y.ps.length + 1, y.ps.length + 1 + Stl.sz tl, up, onR, false⟩ = y.ps ++ Stl.partsOf (.two true tl tr) y.ps.length lv up onR := by
      simp [Stl.partsOf]
    have HN := Lib.hid (And.intro hN hps)
    clear hN hps
    have g0 : w6.cell? ⟨q10, 0, none⟩ = some (.int .i64 3) := (B6.cell 0).trans rfl
    have g1 : w6.cell? ⟨q10, 1, none⟩ = some (.int .i64 (-1)) := (B6.cell 1).trans rfl
    have g2 : w6.cell? ⟨q10, 2, none⟩ = some (.int .i64 ((y.ps.length + 1 : Nat) : Int)) := (B6.cell 2).trans rfl
    have g3 : w6.cell? ⟨q10, 3, none⟩ = some (.int .i64 ((y.ps.length + 1 + Stl.sz tl : Nat) : Int)) := (B6.cell 3).trans rfl
    have g4 : w6.cell? ⟨q10, 4, none⟩ = some (.int .i64 up) := (B6.cell 4).trans rfl
    have g5 : w6.cell? ⟨q10, 5, none⟩ = some (.bool onR) := (B6.cell 5).trans rfl
    have g6 : w6.cell? ⟨q10, 6, none⟩ = some (.bool false) := (B6.cell 6).trans rfl
    obtain ⟨c0, -, -, -, -⟩ := hY6.heads
    (refine still_last (by kernel_rfl) (by kernel_rfl) ?_; simp only [List.length_cons, List.length_nil, Nat.reduceAdd, Nat.reduceSub, List.take_succ_cons, List.take_zero, List.drop_succ_cons, List.drop_zero]; repeat still_step; try refine wpStill_nil ?_)
    refine wpl_put_row (hrow.drewN_ 1) (y.ps.length * 7) 7 (partc ⟨3, -1, y.ps.length + 1, y.ps.length + 1 + Stl.sz tl, up, onR, false⟩) (by kernel_rfl) rfl (by omega) (partc_one ⟨3, -1, y.ps.length + 1, y.ps.length + 1 + Stl.sz tl, up, onR, false⟩) (by rfl) (by rfl) (by rfl) (by rfl) ?_
    intro w8 hown8 hg8
    have hE := put_ (p := ⟨3, -1, y.ps.length + 1, y.ps.length + 1 + Stl.sz tl, up, onR, false⟩) (hY6.below (below_drewN (Below.refl _ _) 1)) (hW6.drewN 1) hf2 (by have := HN.out.1; rw [this] at hnN; exact hnN) HN.out.2 hown8 hg8
    have HE := Lib.hid hE
    clear hE hown8 hg8 hrow hY6 hW6 B6 g0 g1 g2 g3 g4 g5 g6 c0
    go_wp2
    go_ret
    exact ⟨rfl, _, by rw [HH.out.2.2.2.2.2.2.2.2, ← Nat.add_assoc]; exact HE.out.1, HE.out.2, hf2⟩

theorem lay_any : ∀ t : Sp.T, LayOK t
  | .nil => lay_nil
  | .one c b l => lay_one c b l
  | .two par l r => lay_two par l r (lay_any l) (lay_any r)
end Go.Proofs.Ytcoijmnnnfogdaa


namespace Go.Proofs.Ytcoijmnnnfogdaa
set_option linter.unusedVariables false
set_option linter.unusedSimpArgs false
set_option maxRecDepth 100000
open Go.RowKit

/-- a yard of k workers and no parts -/
def EY (w : World) (yb base k : Nat) (A Q : Value) (gs : List Nat) : Prop := YA w yb base ⟨[], List.replicate k (-1), List.replicate k [], []⟩ 0 (.slice none 0 0) A Q (.slice none 0 0) gs (List.replicate k none)

theorem dq_empty (w : World) : DqRep (w.alloc (.cells #[.slice none 0 0, .int .i64 0, .int .i64 0] 68)) w.heap.size [] none :=
  ⟨[], 0, none, 0, ⟨Blk.new w 68 [.slice none 0 0, .int .i64 0, .int .i64 0], World.ownsRow_nil _ _ _ _, Deq.ring_nil, Nat.zero_le _, Nat.zero_le _⟩, rfl⟩

theorem ey_start (w : World) (yb base : Nat) (hB : Blk w yb 65 [.slice none 0 0, .int .i64 0, .slice none 0 0, .slice none 0 0, .slice none 0 0]) (hb : base ≤ yb) : EY w yb base 0 (.slice none 0 0) (.slice none 0 0) [] :=
  ⟨hB, hb, World.ownsRow_nil _ _ _ _, World.ownsRow_nil _ _ _ _, World.ownsRow_nil _ _ _ _, World.ownsRow_nil _ _ _ _, rfl, rfl, rfl, fun i g r l a => by simp at a, List.nodup_nil, fun i j b _ a => by simp at a, fun i b a => by simp at a⟩

theorem ey_more {W w1 w2 w4 w5 : World} {yb base k : Nat} {A A' Q Q' : Value} {gs : List Nat} (h : EY W yb base k A Q gs) (ho1 : w1.ownsRow base 3 1 A' (k + 1) (ints .i64 (List.replicate k (-1)) ++ [.int .i64 (-1)])) (hg1 : W.grownBy w1 A.ownBlock)
    (hB2 : Blk w2 yb 65 [.slice none 0 0, .int .i64 0, A', Q, .slice none 0 0]) (hg2 : w1.grownBy w2 (some yb))
    (ho4 : w4.ownsRow base 66 1 Q' (gs.length + 1) (ptrs gs ++ [.pointer (some ⟨w2.heap.size, 0, none⟩)])) (hg4 : (w2.alloc (.cells #[.slice none 0 0, .int .i64 0, .int .i64 0] 68)).grownBy w4 Q.ownBlock)
    (hB5 : Blk w5 yb 65 [.slice none 0 0, .int .i64 0, A', Q', .slice none 0 0]) (hg5 : w4.grownBy w5 (some yb)) :
    EY w5 yb base (k + 1) A' Q' (gs ++ [w2.heap.size]) := by
  have hyl := h.lt
  have h1 := hg1.size
  have h2 := hg2.size
  have h5 := hg5.size
  have hyA : A.ownBlock ≠ some yb := own_blk_ne h.ats h.blk (by decide)
  have hyQ : Q.ownBlock ≠ some yb := own_blk_ne h.qus h.blk (by decide)
  have k12 : Keeps (fun k => A.ownBlock = some k ∨ k = yb) W w2 := ((Keeps.of_grown hg1).mono fun i e => .inl e.symm).trans ((Keeps.of_grown hg2).mono fun i e => .inr (by injection e))
  have k23 : Keeps (fun k => Q.ownBlock = some k ∨ k = yb) w2 w4 := (((Keeps.refl _ w2).alloc _).trans ((Keeps.of_grown hg4).mono fun i e => .inl e.symm))
  have k45 : Keeps (fun k => Q.ownBlock = some k ∨ k = yb) w4 w5 := (Keeps.of_grown hg5).mono fun i e => .inr (by injection e)
  have k25 := k23.trans k45
  have hQ2 : w2.ownsRow base 66 1 Q gs.length (ptrs gs) := own_keeps h.qus k12 fun b e hs => by
    rcases hs with hs | hs
    · exact own_own_ne h.qus h.ats (by decide) e hs
    · exact hyQ (by rw [e, hs])
  have hY1 : Blk w1 yb 65 _ := h.blk.grown hg1 (fun e => hyA e.symm)
  have hA2 : w2.ownsRow base 3 1 A' (k + 1) (ints .i64 (List.replicate k (-1)) ++ [.int .i64 (-1)]) := own_keeps ho1 (Keeps.of_grown hg2) fun b e hs => own_blk_ne ho1 hY1 (by decide) (by rw [e, hs])
  have hA5 := own_keeps hA2 k25 fun b e hs => by
    rcases hs with hs | hs
    · exact own_own_ne hA2 hQ2 (by decide) e hs
    · exact own_blk_ne hA2 hB2 (by decide) (by rw [e, hs])
  have hY4 : Blk w4 yb 65 _ := hB2.keeps (S := fun k => Q.ownBlock = some k) (((Keeps.refl _ w2).alloc _).trans ((Keeps.of_grown hg4).mono fun i e => e.symm)) hyQ
  have hQ5 := own_keeps ho4 (Keeps.of_grown hg5) fun b e hs => own_blk_ne ho4 hY4 (by decide) (by rw [e, hs])
  have hl : gs.length = k := by have := h.len1; simpa using this
  have hd2 := dq_empty w2
  have hgl : ∀ (i g : Nat), gs[i]? = some g → g < W.heap.size := fun i g hg => by
    obtain ⟨_, _, -, -, hd, -⟩ := h.of_g hg
    exact hd.lt.1
  have hd5 : DqRep w5 w2.heap.size [] none := by
    have hn : Q.ownBlock ≠ some w2.heap.size := fun e => by have := (hQ2.lt _ e).2; omega
    refine (hd2.keeps (Keeps.of_grown hg4) (fun e => hn e.symm) (fun b e => by cases e)).keeps (Keeps.of_grown hg5) (fun e => ?_) (fun b e => by cases e)
    injection e with e
    omega
  have hbase : base ≤ W.heap.size := h.base_le
  refine ⟨hB5, h.above, World.ownsRow_nil _ _ _ _, ?_, ?_, World.ownsRow_nil _ _ _ _, ?_, ?_, ?_, ?_, ?_, ?_, ?_⟩
  · simpa [List.replicate_succ', ints] using hA5
  · simpa [ptrs] using hQ5
  · simp [hl]
  · simp
  · simp
  · intro i g r l a b c
    have hr : r = none := (List.mem_replicate.1 (List.mem_of_getElem? b)).2
    have hlz : l = [] := (List.mem_replicate.1 (List.mem_of_getElem? c)).2
    subst hr
    subst hlz
    by_cases hi : i < k
    · rw [List.getElem?_append_left (by omega)] at a
      obtain ⟨d1, d2⟩ := h.dq i g none [] a (by simp [hi]) (by simp [hi])
      obtain ⟨n1, -, n3, n4, -⟩ := h.dq_ne a
      refine ⟨(d1.keeps k12 (fun e => e.elim n3 fun e => n1 e.symm) (fun b e => by cases e)).keeps k25 (fun e => e.elim n4 fun e => n1 e.symm) (fun b e => by cases e), d2⟩
    · have hi' : i < k + 1 := by have := (List.getElem?_eq_some_iff.1 c).1; simpa using this
      rw [show i = k by omega, List.getElem?_append_right (by omega), hl, Nat.sub_self] at a
      cases a
      exact ⟨hd5, by omega⟩
  · rw [List.nodup_append]
    refine ⟨h.gnd, by simp, fun a ha b hb => ?_⟩
    simp only [List.mem_singleton] at hb
    obtain ⟨i, hi⟩ := List.getElem?_of_mem ha
    have := hgl i a hi
    omega
  · intro i j b _ hb
    have := (List.mem_replicate.1 (List.mem_of_getElem? hb)).2
    cases this
  · intro i b hb
    have := (List.mem_replicate.1 (List.mem_of_getElem? hb)).2
    cases this
end Go.Proofs.Ytcoijmnnnfogdaa


namespace Go.Proofs.Ytcoijmnnnfogdaa
set_option linter.unusedVariables false
set_option linter.unusedSimpArgs false
set_option maxRecDepth 100000
open Go Go.RowKit

/-- 'append(v, x)', the block's number told apart -/
theorem wp_push_at {P : Program} (w : World) {ops : Array Oper} {rest : List Oper} {o : Oper} {a : Act} {Q : Exit → Act → World → Prop} (s x : Operand) (q : Nat) (hq : w.heap.size = q)
    (base t e : TypeId) (z : Value) (size bytes : Nat) (ht : P.underlying t = some (.slice e)) (hinfo : (P.info? e).map (fun i => (i.zero, i.size, i.bytes)) = some (some z, size, bytes)) (hz : z.cells.size = size) (hsz : 0 < size)
    {v : Value} {n : Nat} {xs : List Value} (hown : w.ownsRow base e size v n xs) {c : Nat} (news : List Value) (hlen : news.length = 1 * size) (h1 : ∀ u ∈ news, u.oneCell' = true)
    (h63 : n + 1 ≤ maxLen) (hbytes : (n + 1) * bytes ≤ 140737488355328) (hbase : base ≤ w.heap.size)
    (hgd : o.guard = none) (ho : o.op = .call { callee := .builtin .append, args := #[s, x], argTypes := #[t, t] }) (hs : a.eval s = v) (hx : a.eval x = .slice (some ⟨q, 0, none⟩) 1 c)
    (h : ∀ v' w', w'.ownsRow base e size v' (n + 1) (xs ++ news) → w.grownBy w' v.ownBlock → (v'.ownBlock = v.ownBlock ∨ v'.ownBlock = some (w.heap.size + 1)) → Below base w w' → wpList P ops Q rest (a.put o.dst v') w') : wpList P ops Q (o :: rest) a (w.alloc (.cells news.toArray e)) := by
  subst hq
  exact wp_push w s x base t e z size bytes ht hinfo hz hsz hown news hlen h1 h63 hbytes hbase hgd ho hs hx h

/-- two rows of the call's own, and what was laid beside them since w0 -/
structure Two (w0 : World) (T : Nat → Prop) (B : Nat) (e1 : TypeId) (s1 : Nat) (e2 : TypeId) (s2 : Nat) (L : List (Nat × TypeId × List Value)) (w : World) (v1 : Value) (n1 : Nat) (xs1 : List Value) (v2 : Value) (n2 : Nat) (xs2 : List Value) : Prop where
  r1 : w.ownsRow B e1 s1 v1 n1 xs1
  r2 : w.ownsRow B e2 s2 v2 n2 xs2
  k : Keeps T w0 w
  base : B ≤ w.heap.size
  t1 : ∀ i, v1.ownBlock = some i → i < w0.heap.size → T i
  t2 : ∀ i, v2.ownBlock = some i → i < w0.heap.size → T i
  ap : ∀ i, v1.ownBlock = some i → v2.ownBlock ≠ some i
  src : ∀ p ∈ L, Blk w p.1 p.2.1 p.2.2 ∧ v1.ownBlock ≠ some p.1 ∧ v2.ownBlock ≠ some p.1

section
variable {w0 w : World} {T : Nat → Prop} {B s1 s2 n1 n2 : Nat} {e1 e2 : TypeId} {L : List (Nat × TypeId × List Value)} {v1 v2 : Value} {xs1 xs2 : List Value}

theorem Two.start (h1 : w0.ownsRow B e1 s1 v1 n1 xs1) (h2 : w0.ownsRow B e2 s2 v2 n2 xs2) (hb : B ≤ w0.heap.size) (hap : ∀ i, v1.ownBlock = some i → v2.ownBlock ≠ some i) :
    Two w0 (fun k => v1.ownBlock = some k ∨ v2.ownBlock = some k) B e1 s1 e2 s2 [] w0 v1 n1 xs1 v2 n2 xs2 :=
  ⟨h1, h2, Keeps.refl _ _, hb, fun i h _ => .inl h, fun i h _ => .inr h, hap, fun p h => by cases h⟩
theorem Two.drew (h : Two w0 T B e1 s1 e2 s2 L w v1 n1 xs1 v2 n2 xs2) : Two w0 T B e1 s1 e2 s2 L w.drew v1 n1 xs1 v2 n2 xs2 :=
  ⟨h.r1.drew, h.r2.drew, h.k.drewN 1, h.base, h.t1, h.t2, h.ap, fun p hp => ⟨(h.src p hp).1, (h.src p hp).2⟩⟩
theorem Two.alloc (h : Two w0 T B e1 s1 e2 s2 L w v1 n1 xs1 v2 n2 xs2) (cs : List Value) (t : TypeId) : Two w0 T B e1 s1 e2 s2 ((w.heap.size, t, cs) :: L) (w.alloc (.cells cs.toArray t)) v1 n1 xs1 v2 n2 xs2 := by
  refine ⟨h.r1.alloc _, h.r2.alloc _, h.k.alloc _, by have := h.base; simp; omega, h.t1, h.t2, h.ap, fun p hp => ?_⟩
  rcases List.mem_cons.1 hp with rfl | hp
  · exact ⟨Blk.new w t cs, fun e => by have := (h.r1.lt _ e).2; simp at this, fun e => by have := (h.r2.lt _ e).2; simp at this⟩
  · exact ⟨(h.src p hp).1.alloc _, (h.src p hp).2⟩
theorem Two.swap (h : Two w0 T B e1 s1 e2 s2 L w v1 n1 xs1 v2 n2 xs2) : Two w0 T B e2 s2 e1 s1 L w v2 n2 xs2 v1 n1 xs1 :=
  ⟨h.r2, h.r1, h.k, h.base, h.t2, h.t1, fun i h2 h1 => h.ap i h1 h2, fun p hp => ⟨(h.src p hp).1, (h.src p hp).2.2, (h.src p hp).2.1⟩⟩
theorem Two.cells (h : Two w0 T B e1 s1 e2 s2 L w v1 n1 xs1 v2 n2 xs2) {g : Nat} {t : TypeId} {cs : List Value} (hm : (g, t, cs) ∈ L) : Cells w (g + 1) (some ⟨g, 0, none⟩) cs :=
  ⟨g, 0, fun _ => ⟨rfl, Nat.lt_succ_self g⟩, fun j u hu => by rw [Nat.zero_add, (h.src _ hm).1.cell]; exact hu⟩

/-- an append to the first of them -/
theorem Two.grow (h : Two w0 T B e1 s1 e2 s2 L w v1 n1 xs1 v2 n2 xs2) {w' : World} {v' : Value} {n' : Nat} {xs' : List Value} (h1 : w'.ownsRow B e1 s1 v' n' xs') (hg : w.grownBy w' v1.ownBlock) (hv : v'.ownBlock = v1.ownBlock ∨ v'.ownBlock = some w.heap.size) :
    Two w0 T B e1 s1 e2 s2 L w' v' n' xs' v2 n2 xs2 := by
  have kk := Keeps.of_grown hg
  refine ⟨h1, own_keeps h.r2 kk (fun g e1 e2 => h.ap g e2.symm e1), h.k.step kk (fun i hi e => h.t1 i e.symm hi), Nat.le_trans h.base hg.size, fun i hi hl => ?_, h.t2, fun i hi => ?_, fun p hp => ⟨?_, ?_, (h.src p hp).2.2⟩⟩
  · rcases hv with e | e
    · exact h.t1 i (e ▸ hi) hl
    · rw [e] at hi
      injection hi with hi
      have := h.k.size
      omega
  · rcases hv with e | e
    · exact h.ap i (e ▸ hi)
    · rw [e] at hi
      injection hi with hi
      intro e2
      have := (h.r2.lt i e2).2
      omega
  · exact (h.src p hp).1.keeps kk (fun e => (h.src p hp).2.1 e.symm)
  · rcases hv with e | e
    · rw [e]; exact (h.src p hp).2.1
    · rw [e]
      intro e3
      injection e3 with e3
      have := (h.src p hp).1.lt
      omega

theorem two_append1 {P : Program} {ops : Array Oper} {o : Oper} {a : Act} {K : Act → World → Prop} {Q : Exit → Act → World → Prop} {E : Prop} {s x : Operand} {t : TypeId} (h : Two w0 T B e1 s1 e2 s2 L w v1 n1 xs1 v2 n2 xs2)
    {z : Value} {bytes : Nat} (ht : P.underlying t = some (.slice e1)) (hinfo : (P.info? e1).map (fun i => (i.zero, i.size, i.bytes)) = some (some z, s1, bytes)) (hz : z.cells.size = s1) (hsz : 0 < s1)
    {g : Nat} {news : List Value} {c : Nat} {tt : TypeId} (hm : (g, tt, news) ∈ L) (hlen : news.length = 1 * s1) (h1 : ∀ u ∈ news, u.oneCell' = true)
    (h63 : n1 + 1 ≤ maxLen) (hbytes : (n1 + 1) * bytes ≤ 140737488355328)
    (hgd : Region.wanted o (yielded ops a.tmps) = true) (ho : o.op = .call { callee := .builtin .append, args := #[s, x], argTypes := #[t, t] }) (hs : a.eval s = v1) (hx : a.eval x = .slice (some ⟨g, 0, none⟩) 1 c)
    (hK : ∀ v' w', Two w0 T B e1 s1 e2 s2 L w' v' (n1 + 1) (xs1 ++ news) v2 n2 xs2 → K (a.put o.dst v') w') :
    if Region.wanted o (yielded ops a.tmps) = true then Oper.wp P o a w K Q else E :=
  step_append s x B t e1 z s1 bytes ht hinfo hz hsz h.r1 (h.cells hm) hlen h1 h63 hbytes h.base hgd ho hs hx fun v' w' q1 q2 q3 _ => hK v' w' (h.grow q1 q2 q3)

theorem two_append2 {P : Program} {ops : Array Oper} {o : Oper} {a : Act} {K : Act → World → Prop} {Q : Exit → Act → World → Prop} {E : Prop} {s x : Operand} {t : TypeId} (h : Two w0 T B e1 s1 e2 s2 L w v1 n1 xs1 v2 n2 xs2)
    {z : Value} {bytes : Nat} (ht : P.underlying t = some (.slice e2)) (hinfo : (P.info? e2).map (fun i => (i.zero, i.size, i.bytes)) = some (some z, s2, bytes)) (hz : z.cells.size = s2) (hsz : 0 < s2)
    {g : Nat} {news : List Value} {c : Nat} {tt : TypeId} (hm : (g, tt, news) ∈ L) (hlen : news.length = 1 * s2) (h1 : ∀ u ∈ news, u.oneCell' = true)
    (h63 : n2 + 1 ≤ maxLen) (hbytes : (n2 + 1) * bytes ≤ 140737488355328)
    (hgd : Region.wanted o (yielded ops a.tmps) = true) (ho : o.op = .call { callee := .builtin .append, args := #[s, x], argTypes := #[t, t] }) (hs : a.eval s = v2) (hx : a.eval x = .slice (some ⟨g, 0, none⟩) 1 c)
    (hK : ∀ v' w', Two w0 T B e1 s1 e2 s2 L w' v1 n1 xs1 v' (n2 + 1) (xs2 ++ news) → K (a.put o.dst v') w') :
    if Region.wanted o (yielded ops a.tmps) = true then Oper.wp P o a w K Q else E :=
  two_append1 h.swap ht hinfo hz hsz hm hlen h1 h63 hbytes hgd ho hs hx fun v' w' q => hK v' w' q.swap

theorem twl_append1 {P : Program} {ops : Array Oper} {rest : List Oper} {o : Oper} {a : Act} {Q : Exit → Act → World → Prop} {s x : Operand} {t : TypeId} (h : Two w0 T B e1 s1 e2 s2 L w v1 n1 xs1 v2 n2 xs2)
    {z : Value} {bytes : Nat} (ht : P.underlying t = some (.slice e1)) (hinfo : (P.info? e1).map (fun i => (i.zero, i.size, i.bytes)) = some (some z, s1, bytes)) (hz : z.cells.size = s1) (hsz : 0 < s1)
    {g : Nat} {news : List Value} {c : Nat} {tt : TypeId} (hm : (g, tt, news) ∈ L) (hlen : news.length = 1 * s1) (h1 : ∀ u ∈ news, u.oneCell' = true)
    (h63 : n1 + 1 ≤ maxLen) (hbytes : (n1 + 1) * bytes ≤ 140737488355328)
    (hgd : o.guard = none) (ho : o.op = .call { callee := .builtin .append, args := #[s, x], argTypes := #[t, t] }) (hs : a.eval s = v1) (hx : a.eval x = .slice (some ⟨g, 0, none⟩) 1 c)
    (hK : ∀ v' w', Two w0 T B e1 s1 e2 s2 L w' v' (n1 + 1) (xs1 ++ news) v2 n2 xs2 → wpList P ops Q rest (a.put o.dst v') w') : wpList P ops Q (o :: rest) a w :=
  wp_append w s x B t e1 z s1 bytes ht hinfo hz hsz h.r1 (h.cells hm) hlen h1 h63 hbytes h.base hgd ho hs hx fun v' w' q1 q2 q3 _ => hK v' w' (h.grow q1 q2 q3)

theorem twl_append2 {P : Program} {ops : Array Oper} {rest : List Oper} {o : Oper} {a : Act} {Q : Exit → Act → World → Prop} {s x : Operand} {t : TypeId} (h : Two w0 T B e1 s1 e2 s2 L w v1 n1 xs1 v2 n2 xs2)
    {z : Value} {bytes : Nat} (ht : P.underlying t = some (.slice e2)) (hinfo : (P.info? e2).map (fun i => (i.zero, i.size, i.bytes)) = some (some z, s2, bytes)) (hz : z.cells.size = s2) (hsz : 0 < s2)
    {g : Nat} {news : List Value} {c : Nat} {tt : TypeId} (hm : (g, tt, news) ∈ L) (hlen : news.length = 1 * s2) (h1 : ∀ u ∈ news, u.oneCell' = true)
    (h63 : n2 + 1 ≤ maxLen) (hbytes : (n2 + 1) * bytes ≤ 140737488355328)
    (hgd : o.guard = none) (ho : o.op = .call { callee := .builtin .append, args := #[s, x], argTypes := #[t, t] }) (hs : a.eval s = v2) (hx : a.eval x = .slice (some ⟨g, 0, none⟩) 1 c)
    (hK : ∀ v' w', Two w0 T B e1 s1 e2 s2 L w' v1 n1 xs1 v' (n2 + 1) (xs2 ++ news) → wpList P ops Q rest (a.put o.dst v') w') : wpList P ops Q (o :: rest) a w :=
  twl_append1 h.swap ht hinfo hz hsz hm hlen h1 h63 hbytes hgd ho hs hx fun v' w' q => hK v' w' q.swap
end
end Go.Proofs.Ytcoijmnnnfogdaa


namespace Go.Proofs.Ytcoijmnnnfogdaa.Stl
set_option linter.unusedVariables false
set_option linter.unusedSimpArgs false
set_option maxRecDepth 100000
open Sp

theorem first_yard (t : T) (W : Nat) (hW : 0 < W) : (⟨img t (start 0 t) 0 0 (-1) false, ((List.replicate W (-1 : Int)).set 0 0).set 0 (if 0 ∈ (start 0 t).ws then (loc t (start 0 t) 0 0 : Int) else -1), (List.replicate W []).set 0 (if 0 ∈ (start 0 t).ws then seg t (start 0 t) 0 0 else []), []⟩ : Y) = yard t W (start 0 t) [] := by
  have h0 : ∀ v, v ∈ (start 0 t).ws → v = 0 := fun v hv => by
    rcases start_ok 0 t with e | ⟨-, -, e3⟩
    · rw [e] at hv; simp [S.ws] at hv
    · rw [e3] at hv; simpa using hv
  have r1 : List.replicate W (-1 : Int) = (List.range W).map fun _ => (-1 : Int) := by rw [List.map_const', List.length_range]
  have r2 : List.replicate W ([] : List Nat) = (List.range W).map fun _ => ([] : List Nat) := by rw [List.map_const', List.length_range]
  unfold yard
  rw [List.set_set, r1, r2]
  rw [set_range W 0 (fun _ => (-1 : Int)) (fun w => if w ∈ (start 0 t).ws then (loc t (start 0 t) 0 w : Int) else -1) (fun v _ hne => by rw [if_neg (fun h => hne (h0 v h))]), set_range W 0 (fun _ => ([] : List Nat)) (fun w => if w ∈ (start 0 t).ws then seg t (start 0 t) 0 w else []) (fun v _ hne => by rw [if_neg (fun h => hne (h0 v h))])]
end Go.Proofs.Ytcoijmnnnfogdaa.Stl


namespace Go.Proofs.Ytcoijmnnnfogdaa
set_option linter.unusedVariables false
set_option linter.unusedSimpArgs false
set_option maxRecDepth 100000
open Go.RowKit

def pkc (p : Stl.Pk) : List Value := [.int .i64 p.who, .int .i64 p.whom]
def pkcs (l : List Stl.Pk) : List Value := l.flatMap pkc
theorem pkcs_length (l : List Stl.Pk) : (pkcs l).length = l.length * 2 := flat_length pkc 2 (fun _ => rfl) l
theorem pkcs_get (l : List Stl.Pk) (i : Nat) (p : Stl.Pk) (h : l[i]? = some p) : (pkcs l)[i * 2]? = some (.int .i64 p.who) ∧ (pkcs l)[i * 2 + 1]? = some (.int .i64 p.whom) :=
  ⟨flat_get pkc 2 (fun _ => rfl) l i 0 p h (by omega), flat_get pkc 2 (fun _ => rfl) l i 1 p h (by omega)⟩

theorem logS_length (t : Sp.T) (W : Nat) : ∀ (ps : List Stl.Pk) (s : Stl.S), (Stl.logS t W s ps).length ≤ ps.length
  | [], _ => Nat.zero_le _
  | p :: ps, s => by
    have := logS_length t W ps (Stl.nextS t W s p.who p.whom)
    have h1 : (Stl.nextL t W s p.who).length ≤ 1 := by unfold Stl.nextL; split <;> simp
    simp only [Stl.logS, List.length_append, List.length_cons]
    omega

/-- what Run answers -/
def RunPost (w : World) (log : List (Nat × Int)) (left : Int) : Ending → World → Prop := fun e w' => ∃ D, e = .returned (.tuple #[D, .int .i64 left, .int .i64 0]) ∧ w'.ownsRow w.heap.size 35 2 D log.length (donecs log) ∧ Below w.heap.size w w'

theorem run_out (t : Sp.T) (w : World) (B : Nat) (cs : List Value) (W : Int) (v : Value) (hT : TmR B w cs t) (hW : W < 1 ∨ 16 < W) :
    Calls Try.prog 9 #[.agg cs.toArray, .int .i64 W, v] w fun e w' => e = .returned (.tuple #[.slice none 0 0, .int .i64 0, .int .i64 2]) ∧ Below w.heap.size w w' := by
  obtain ⟨k, c, b, l, A, n, cap, rfl, -, -⟩ := hT.form
  unfold tcells
  by_cases h1 : W < 1
  · go_enter Try.func9, Try.ntmps9
    go_wp2
    go_ret3
    exact ⟨rfl, below_alloc (Below.refl _ _) _⟩
  · have h2 : 16 < W := hW.resolve_left h1
    go_enter Try.func9, Try.ntmps9
    go_wp2
    go_ret3
    exact ⟨rfl, below_alloc (Below.refl _ _) _⟩

theorem ey_side {W w1 w2 w4 w5 : World} {yb base k : Nat} {A Q : Value} {gs : List Nat} {o : Obj} (h : EY W yb base k A Q gs) (hg1 : W.grownBy w1 A.ownBlock) (hg2 : w1.grownBy w2 (some yb)) (hg4 : (w2.alloc o).grownBy w4 Q.ownBlock) (hg5 : w4.grownBy w5 (some yb)) :
    Below base W w5 ∧ ∀ q cs, Blk W q 26 cs → Blk w5 q 26 cs := by
  have kk : Keeps (fun i => A.ownBlock = some i ∨ Q.ownBlock = some i ∨ i = yb) W w5 :=
    ((((Keeps.of_grown hg1).mono fun i e => .inl e.symm).trans ((Keeps.of_grown hg2).mono fun i e => .inr (.inr (by injection e)))).alloc o |>.trans ((Keeps.of_grown hg4).mono fun i e => .inr (.inl e.symm))).trans ((Keeps.of_grown hg5).mono fun i e => .inr (.inr (by injection e)))
  refine ⟨kk.below h.base_le fun i hi => ?_, fun q cs hB => hB.keeps kk fun hi => ?_⟩
  · rcases hi with e | e | e
    · exact own_ge h.ats i e
    · exact own_ge h.qus i e
    · have := h.above; omega
  · rcases hi with e | e | e
    · exact own_blk_ne h.ats hB (by decide) e
    · exact own_blk_ne h.qus hB (by decide) e
    · exact Blk.type_ne hB h.blk (by decide) e

set_option maxHeartbeats 4000000 in
theorem run_any (t : Sp.T) (ps : List Stl.Pk) (w : World) (B : Nat) (cs : List Value) (W : Nat) (v : Value) (hT : TmR B w cs t) (hB : B ≤ w.heap.size) (hsz : Stl.sz t ≤ 274877906944) (hlv : t.size ≤ 274877906944) (hps : ps.length ≤ 274877906944) (hW1 : 1 ≤ W) (hW2 : W ≤ 16) (hp : SlV w 2 v ps.length (pkcs ps)) :
    Calls Try.prog 9 #[.agg cs.toArray, .int .i64 (W : Int), v] w (RunPost w (Stl.logS t W (Stl.start 0 t) ps) ((t.size : Int) - ((Stl.logS t W (Stl.start 0 t) ps).length : Int))) := by
  obtain ⟨A0, c0, rfl, hle, hm, hlen, hcells⟩ := hp
  obtain ⟨k, c, b, l, A, n, cap, rfl, -, -⟩ := hT.form
  unfold tcells
  have hnW1 : ((W : Int) < 1) = False := by simp; omega
  have hnW2 : ((16 : Int) < W) = False := by simp; omega
  obtain ⟨q3, hq3⟩ : ∃ q3, q3 = w.heap.size := ⟨_, rfl⟩
  obtain ⟨yb, hyb⟩ : ∃ yb, yb = w.heap.size + 1 := ⟨_, rfl⟩
  have B3 := (Blk.new w 26 [.int .i64 k, .int .i64 c, .bool b, .int .i64 l, .slice A n cap]).alloc (.cells #[.slice none 0 0, .int .i64 0, .slice none 0 0, .slice none 0 0, .slice none 0 0] 65)
  have BY := Blk.new (w.alloc (.cells ([.int .i64 k, .int .i64 c, .bool b, .int .i64 l, .slice A n cap] : List Value).toArray 26)) 65 [.slice none 0 0, .int .i64 0, .slice none 0 0, .slice none 0 0, .slice none 0 0]
  have hb3 := below_alloc (below_alloc (Below.refl w.heap.size w) (.cells ([.int .i64 k, .int .i64 c, .bool b, .int .i64 l, .slice A n cap] : List Value).toArray 26)) (.cells #[.slice none 0 0, .int .i64 0, .slice none 0 0, .slice none 0 0, .slice none 0 0] 65)
  have hzz : (w.alloc (.cells ([.int .i64 k, .int .i64 c, .bool b, .int .i64 l, .slice A n cap] : List Value).toArray 26)).heap.size = w.heap.size + 1 := by simp
  rw [hzz, ← hyb] at BY
  go_enter Try.func9, Try.ntmps9
  go_wp2_with fail
  rw [← hq3] at B3
  rw [← hyb, ← hq3]
  generalize ((w.alloc (.cells ([.int .i64 k, .int .i64 c, .bool b, .int .i64 l, .slice A n cap] : List Value).toArray 26)).alloc (.cells ([.slice none 0 0, .int .i64 0, .slice none 0 0, .slice none 0 0, .slice none 0 0] : List Value).toArray 65)) = W0 at B3 BY hb3 ⊢
  have hE0 := ey_start W0 yb w.heap.size BY (by omega)
  have HQ := Lib.hid (And.intro hq3 hyb)
  clear hq3 hyb hzz BY
  go_loopw [21] (fun i wr => ∃ (j : Nat) (AA QQ : Value) (gs : List Nat), j ≤ W ∧ i = .int .i64 (j : Int) ∧ EY wr yb w.heap.size j AA QQ gs ∧ Below w.heap.size w wr ∧ Blk wr q3 26 [.int .i64 k, .int .i64 c, .bool b, .int .i64 l, .slice A n cap]) (fun i _ => W - (intOf i).toNat)
  case atStart => exact ⟨0, _, _, [], Nat.zero_le _, rfl, hE0, hb3, B3⟩
  case round =>
    obtain ⟨j, AA, QQ, gs, hj, rfl, hE, hbw, B3⟩ := hrel
    by_cases hlt : j < W
    · have hats : wr.ownsRow w.heap.size 3 1 AA j (ints .i64 (List.replicate j (-1))) := by have := hE.ats; simpa using this
      have hgl : gs.length = j := by have := hE.len1; simpa using this
      have hqus : wr.ownsRow w.heap.size 66 1 QQ j (ptrs gs) := by have := hE.qus; rw [hgl] at this; exact this
      obtain ⟨PA, cA, rfl, -, -⟩ := own_slice hats
      obtain ⟨PQ, cQ, rfl, -, -⟩ := own_slice hqus
      obtain ⟨-, -, c2, -, -⟩ := hE.heads
      have n63 : j + 1 ≤ maxLen := by unfold maxLen; omega
      have n47 : (j + 1) * 8 ≤ 140737488355328 := by omega
      have hwl := hE.base_le
      have lyb := hE.lt
      have hyA := own_blk_ne hE.ats hE.blk (by decide)
      have hyQ := own_blk_ne hE.qus hE.blk (by decide)
      have HE := Lib.hid (And.intro hE (And.intro hbw (And.intro B3 (And.intro hqus (And.intro hgl (And.intro hyA hyQ))))))
      clear hE hbw B3 hqus hgl hyA hyQ
      go_upto_region 7 with (first
        | (at_builtin; refine wp_push wr _ _ w.heap.size _ _ _ _ _ Try.underlying33 info_i64 rfl (by decide) hats [.int .i64 (-1)] rfl (by intro u hu; simp only [List.mem_singleton] at hu; subst hu; rfl) n63 n47 hwl rfl rfl rfl rfl ?_; intro A1 w1 hoA hgA _ _; have hY1 : Blk w1 yb 65 _ := HE.out.1.blk.grown hgA (fun e => HE.out.2.2.2.2.2.1 e.symm); have hoA' := hoA; obtain ⟨P1, cA1, rfl, -, -⟩ := own_slice hoA'; clear hoA')
        | (refine wpl_set_blk hY1 2 (.slice P1 (j + 1) cA1) (by kernel_rfl) (by simp) rfl rfl rfl rfl rfl rfl ?_; intro w2 hY2 hg2; simp only [List.set_cons_zero, List.set_cons_succ] at hY2))
      have c3 : w2.cell? ⟨yb, 3, none⟩ = some (.slice PQ j cQ) := (hY2.cell 3).trans rfl
      have ly2 := hY2.lt
      have k12 : Keeps (fun i => (Value.slice PA j cA).ownBlock = some i ∨ i = yb) wr w2 := ((Keeps.of_grown hgA).mono fun i e => .inl e.symm).trans ((Keeps.of_grown hg2).mono fun i e => .inr (by injection e))
      have hQ2 : w2.ownsRow w.heap.size 66 1 (.slice PQ j cQ) j (ptrs gs) := own_keeps HE.out.2.2.2.1 k12 fun b e hs => by
        rcases hs with hs | hs
        · exact own_own_ne HE.out.2.2.2.1 hats (by decide) e hs
        · exact HE.out.2.2.2.2.2.2 (by rw [e, hs])
      have hQ3 := hQ2.alloc (.cells #[.slice none 0 0, .int .i64 0, .int .i64 0] 68)
      have hw3 : w.heap.size ≤ (w2.alloc (.cells #[.slice none 0 0, .int .i64 0, .int .i64 0] 68)).heap.size := by have := k12.size; simp; omega
      have hQy : (Value.slice PQ j cQ).ownBlock ≠ some yb := HE.out.2.2.2.2.2.2
      have HY2 := Lib.hid (And.intro hoA (And.intro hgA (And.intro hY2 (And.intro hg2 k12))))
      clear hoA hgA hY2 hg2 k12 hQ2 c2 hY1 hats
      go_upto_region 8 with (first
        | (at_builtin; refine wp_push_at (w2.alloc (.cells #[.slice none 0 0, .int .i64 0, .int .i64 0] 68)) _ _ (w2.heap.size + 1) (by simp) w.heap.size _ _ _ _ _ Try.underlying63 info_pdq rfl (by decide) hQ3 [.pointer (some ⟨w2.heap.size, 0, none⟩)] rfl (by intro u hu; simp only [List.mem_singleton] at hu; subst hu; rfl) n63 n47 hw3 rfl rfl rfl rfl ?_; intro Q1 w4 hoQ hgQ _ _; have hY4 : Blk w4 yb 65 _ := (HY2.out.2.2.1.alloc _).grown hgQ (fun e => hQy e.symm); have hoQ' := hoQ; obtain ⟨P4, cQ1, rfl, -, -⟩ := own_slice hoQ'; clear hoQ')
        | (refine wpl_set_blk hY4 3 (.slice P4 (j + 1) cQ1) (by kernel_rfl) (by simp) rfl rfl rfl rfl rfl rfl ?_; intro w5 hY5 hg5; simp only [List.set_cons_zero, List.set_cons_succ] at hY5))
      have hE5 := ey_more HE.out.1 HY2.out.1 HY2.out.2.1 HY2.out.2.2.1 HY2.out.2.2.2.1 (by rw [HE.out.2.2.2.2.1]; exact hoQ) hgQ hY5 hg5
      obtain ⟨hs1, hs2⟩ := ey_side HE.out.1 HY2.out.2.1 HY2.out.2.2.2.1 hgQ hg5
      have HE5 := Lib.hid (And.intro hE5 (And.intro (HE.out.2.1.trans hs1) (hs2 _ _ HE.out.2.2.1)))
      clear hE5 hs1 hs2 hoQ hgQ hY5 hg5 hY4 hQ3 hQy hw3 c3 hwl
      go_wp2_with fail
      go_roundw
      case rel => exact ⟨j + 1, _, _, _, by omega, by go_num, HE5.out.1, HE5.out.2.1, HE5.out.2.2⟩
      case measure => simp [intOf]; omega
    · have hjW : j = W := by omega
      subst hjW
      go_upto_region 9 with (fail)
      obtain ⟨ag, ac, rfl, -, -, -, -⟩ := own_addr hE.ats (by simp; omega)
      simp only [List.length_replicate] at hE
      obtain ⟨-, -, b2, -, -⟩ := hE.heads
      have t0 := (B3.cell 0).trans rfl
      have t1 := (B3.cell 1).trans rfl
      have t2 := (B3.cell 2).trans rfl
      have t3 := (B3.cell 3).trans rfl
      have t4 := (B3.cell 4).trans rfl
      have lyb := hE.lt
      have lag := World.block_lt_of_cell? wr _ (hE.at_cell (i := 0) (a := -1) rfl (List.getElem?_replicate_of_lt (by omega)))
      have HE := Lib.hid (And.intro (hE.below (below_drew (Below.refl _ _))) (And.intro hbw (hT.later (hbw.drew.mono hB))))
      have hYd := hE.below (below_drew (Below.refl _ _))
      clear hE hbw
      go_cut [] (fun wx => ∃ P' D', YA wx yb w.heap.size ⟨Stl.partsOf t 0 0 (-1) false, (List.replicate j (-1)).set 0 0, List.replicate j [], []⟩ t.size P' (.slice (some ⟨ag, 0, none⟩) j ac) QQ D' gs (List.replicate j none) ∧ Below w.heap.size w wx)
      case first =>
        go_region_with ((go_at_call 24; refine (lay_any t wr.drew yb w.heap.size 0 B _ _ _ _ _ gs _ _ (-1) false HE.out.1 HE.out.2.2 hB (by omega) (by omega) (by simpa using hsz) (by omega)).mono ?_; rintro e w2 ⟨rfl, P2, h2, hk2, hf2⟩; obtain ⟨-, -, d2, -, -⟩ := h2.heads; have ca2 := h2.at_cell (i := 0) (a := -1) rfl (List.getElem?_replicate_of_lt (by omega)); have hrow2 := h2.ats; have fa2 := own_free hrow2 0))
        all_goals
          have e : (List.replicate j (-1 : Int)).length = j := by simp
          try dsimp only at hrow2
          rw [e] at hrow2
          simp only [Nat.zero_add, List.nil_append, List.length_nil] at h2
          have hrs := own_setCell (i := 0) hrow2 (.int .i64 0)
          have hgs := grown_setCell w2 ag 0 (.int .i64 0)
          have hY4 := YA.moved (A := .slice (some ⟨ag, 0, none⟩) j ac) h2 (xs := (List.replicate j (-1 : Int)).set 0 0) rfl (by simp) (by
            dsimp only
            rw [ints_set, e]
            exact hrs) hgs
          have hb4 := (HE.out.2.1.drew.trans (LK.below hk2 HE.out.1.parts HE.out.1.base_le HE.out.1.above)).trans (below_of_grown hgs (by have := h2.base_le; omega) (own_ge h2.ats ag rfl))
          have HF := Lib.hid (And.intro hY4 hb4)
          clear hY4 hb4 hrs hgs hrow2 h2 hk2 hf2 d2 ca2 fa2 e
          go_wp2_with fail
          go_meet
          case rel => exact ⟨_, _, HF.out⟩
      case rest =>
        obtain ⟨P', D', hY, hb⟩ := hcut
        obtain ⟨f, hf⟩ := Stl.first_runs t (by omega)
        have HY := Lib.hid (And.intro hY (And.intro hb hf))
        clear hY hb hf
        go_upto_region 10 with (fail)
        go_wp2_with fail
        refine (settle_any f _ 0 [] 0 _ _ _ wc yb w.heap.size _ _ _ _ _ _ _ HY.out.1 (by exact List.getElem?_replicate_of_lt (by omega)) (by show ((List.replicate j (-1 : Int)).set 0 0)[0]? = some 0; rw [List.getElem?_set_self (by simp; omega)]) (by show (Stl.partsOf t 0 0 (-1) false).length ≤ _; rw [Stl.partsOf_length]; omega) HY.out.2.2).mono ?_
        rintro e w3 ⟨rfl, ⟨rs3, h3⟩, hb3⟩
        have hY3 : YA w3 yb w.heap.size (Stl.yard t j (Stl.start 0 t) []) t.size P' (.slice (some ⟨ag, 0, none⟩) j ac) QQ D' gs rs3 := by
          rw [← Stl.first_yard t j (by omega)]
          exact h3
        have hb4 := HY.out.2.1.trans hb3.b
        clear h3 hb3
        go_wp2_with fail
        go_loopw [56] (fun i wr => ∃ (m : Nat) (D2 : Value) (rs2 : List (Option Nat)), m ≤ ps.length ∧ i = .int .i64 (m : Int) ∧ YA wr yb w.heap.size (Stl.yard t j (Stl.afterS t j (Stl.start 0 t) (ps.take m)) (Stl.logS t j (Stl.start 0 t) (ps.take m))) t.size P' (.slice (some ⟨ag, 0, none⟩) j ac) QQ D2 gs rs2 ∧ Below w.heap.size w wr) (fun i _ => ps.length - (intOf i).toNat)
        case atStart => exact ⟨0, _, _, Nat.zero_le _, rfl, hY3, hb4⟩
        case round =>
          obtain ⟨m, D2, rs2, hm, rfl, hY, hb⟩ := hrel
          by_cases hlt : m < ps.length
          · obtain ⟨p, hp⟩ : ∃ p, ps[m]? = some p := ⟨_, List.getElem?_eq_getElem hlt⟩
            obtain ⟨g0, o0, rfl, hg0, hc⟩ := hcells.at_ (by intro e; have := pkcs_length ps; rw [e] at this; simp at this; omega)
            obtain ⟨p0, p1⟩ := pkcs_get ps m p hp
            have a0 : wr.cell? ⟨g0, o0 + m * 2, none⟩ = some (.int .i64 p.who) := (hb.cell hg0).trans (hc _ _ p0)
            have a1 : wr.cell? ⟨g0, o0 + m * 2 + 1, none⟩ = some (.int .i64 p.whom) := (hb.cell hg0).trans (hc _ _ p1)
            have hgood := Stl.after_good (Stl.first_good t j (by omega)) (ps.take m)
            obtain ⟨f, hf⟩ := Stl.pick_yard (t := t) (by omega) hgood (Stl.logS t j (Stl.start 0 t) (ps.take m)) p.who p.whom
            have hlg : (Stl.logS t j (Stl.start 0 t) (ps.take m)).length ≤ 1099511627776 := by
              have := logS_length t j (ps.take m) (Stl.start 0 t)
              rw [List.length_take] at this
              omega
            have hpl : (Stl.yard t j (Stl.afterS t j (Stl.start 0 t) (ps.take m)) (Stl.logS t j (Stl.start 0 t) (ps.take m))).ps.length ≤ 1152921504606846976 := by
              show (Stl.img t _ 0 0 (-1) false).length ≤ _
              rw [Stl.img_length]; omega
            have hst : ps.take (m + 1) = ps.take m ++ [p] := by
              obtain ⟨h', rfl⟩ := List.getElem?_eq_some_iff.1 hp
              exact List.take_succ_eq_append_getElem h'
            have HP := Lib.hid (And.intro hY (And.intro hb (And.intro hf (And.intro hlg (And.intro hpl hst)))))
            clear hY hb hf hlg hpl hst hgood p0 p1 hp
            go_wp2_with fail
            have hba := below_alloc (Below.refl wr.heap.size wr) (.cells #[.int .i64 p.who, .int .i64 p.whom] 59)
            have hbw := below_next hba HP.out.2.1
            refine (pick_any f _ _ p.who p.whom _ yb w.heap.size _ _ _ _ _ gs _ (HP.out.1.below hba) HP.out.2.2.2.2.1 HP.out.2.2.2.1 HP.out.2.2.1).mono ?_
            rintro e w5 ⟨rfl, ⟨D5, rs5, h5⟩, hb5⟩
            have HE5 := Lib.hid (And.intro h5 (hbw.trans hb5.b))
            clear h5 hb5 hba hbw a0 a1 hc
            go_wp2_with fail
            go_roundw
            case rel => exact ⟨m + 1, D5, rs5, by omega, by go_num, by rw [HP.out.2.2.2.2.2, Stl.afterS_append, Stl.logS_append]; simpa [Stl.afterS, Stl.logS] using HE5.out.1, HE5.out.2⟩
            case measure => simp [intOf]; omega
          · have hmn : m = ps.length := by omega
            rw [hmn, List.take_length] at hY
            obtain ⟨-, d1, -, -, d4⟩ := hY.heads
            have hrow : wr.ownsRow w.heap.size 35 2 D2 (Stl.logS t j (Stl.start 0 t) ps).length (donecs (Stl.logS t j (Stl.start 0 t) ps)) := hY.log
            have hlg := logS_length t j ps (Stl.start 0 t)
            have lyb' := hY.lt
            clear hY hmn
            obtain ⟨LG, hLG⟩ : ∃ LG, LG = Stl.logS t j (Stl.start 0 t) ps := ⟨_, rfl⟩
            rw [← hLG] at hrow hlg
            have HLG := Lib.hid hLG
            clear hLG
            obtain ⟨PD, cD, rfl, -, -⟩ := own_slice hrow
            have HF := Lib.hid (And.intro hrow (below_drewN hb))
            clear hrow hb
            have lgb : LG.length ≤ 274877906944 := Nat.le_trans hlg hps
            go_wp2_with fail
            go_quiet (fail)
            go_wp2
            go_ret3
            have e := HLG.out
            subst e
            exact ⟨_, rfl, ⟨HF.out.1.1, HF.out.1.2⟩, HF.out.2 _⟩
end Go.Proofs.Ytcoijmnnnfogdaa


namespace Go.Proofs.Ytcoijmnnnfogdaa
set_option linter.unusedVariables false
set_option linter.unusedSimpArgs false
set_option maxRecDepth 100000
open Go.ChangeShapes Go.WideShapes Go.ChangeAt Go.RowKit

theorem sz_cnt (t : Sp.T) : Stl.sz t = t.cnt := by
  induction t with
  | nil => rfl
  | one _ _ _ => rfl
  | two p l r ihl ihr => rw [Stl.sz, Sp.T.cnt, ihl, ihr]
theorem rows_pks (rs : List (List Int)) (h : ∀ r ∈ rs, r.length = 2 ∧ Wfs .i64 r) : ∃ ps : List Stl.Pk, rs.flatMap irow = pkcs ps ∧ ps.length = rs.length := by
  refine ⟨rs.map fun r => ⟨r.getD 0 0, r.getD 1 0⟩, ?_, by simp⟩
  induction rs with
  | nil => rfl
  | cons r rs ih =>
    have hr := (h r (by simp)).1
    rw [List.flatMap_cons, ih (fun x hx => h x (by simp [hx]))]
    match r, hr with
    | [a, b], _ => rfl
end Go.Proofs.Ytcoijmnnnfogdaa


namespace Go.Proofs.Ytcoijmnnnfogdaa.Rc
set_option linter.unusedVariables false
set_option linter.unusedSimpArgs false
set_option maxRecDepth 100000
open Sp (T Acc)

def acc (t : T) (n : Nat) : Acc := t.leaves.getD n (0, false, 0)
theorem acc_get {t : T} {n : Nat} (h : n < t.size) : t.leaves[n]? = some (acc t n) := by
  unfold T.size at h
  unfold acc
  rw [List.getD_eq_getElem?_getD, List.getElem?_eq_getElem h, Option.getD_some]
def clash (t : T) (i j : Nat) : Bool := (acc t i).1 == (acc t j).1 && ((acc t i).2.1 || (acc t j).2.1)
theorem clash_comm (t : T) (i j : Nat) : clash t i j = clash t j i := by
  unfold clash
  rw [Bool.or_comm, Bool.eq_iff_iff]
  simp only [Bool.and_eq_true, beq_iff_eq]
  exact ⟨fun h => ⟨h.1.symm, h.2⟩, fun h => ⟨h.1.symm, h.2⟩⟩

/-! ### races -/
def hit (t : T) (i j : Nat) : Bool := clash t i j && decide (t.rk j < t.rk i)
def rowR (t : T) (i m : Nat) : List (Nat × Nat) := ((List.range m).filter fun k => hit t i (i + 1 + k)).map fun k => (i, i + 1 + k)
def racesK (t : T) (k : Nat) : List (Nat × Nat) := (List.range k).flatMap fun i => rowR t i (t.size - (i + 1))
def races (t : T) : List (Nat × Nat) := racesK t t.size
theorem rowR_zero (t : T) (i : Nat) : rowR t i 0 = [] := rfl
theorem rowR_succ (t : T) (i m : Nat) : rowR t i (m + 1) = rowR t i m ++ (if hit t i (i + 1 + m) then [(i, i + 1 + m)] else []) := by
  unfold rowR
  rw [List.range_succ, List.filter_append, List.map_append]
  simp only [List.filter_cons, List.filter_nil]
  split <;> rfl
theorem racesK_succ (t : T) (k : Nat) : racesK t (k + 1) = racesK t k ++ rowR t k (t.size - (k + 1)) := by
  unfold racesK
  rw [List.range_succ, List.flatMap_append]
  simp
theorem rowR_mem {t : T} {i m : Nat} {p : Nat × Nat} : p ∈ rowR t i m ↔ p.1 = i ∧ i < p.2 ∧ p.2 < i + 1 + m ∧ hit t i p.2 = true := by
  unfold rowR
  rw [List.mem_map]
  constructor
  · rintro ⟨k, hk, rfl⟩
    rw [List.mem_filter, List.mem_range] at hk
    exact ⟨rfl, by show i < i + 1 + k; omega, by show i + 1 + k < _; omega, hk.2⟩
  · rintro ⟨h1, h2, h3, h4⟩
    refine ⟨p.2 - (i + 1), ?_, ?_⟩
    · rw [List.mem_filter, List.mem_range, show i + 1 + (p.2 - (i + 1)) = p.2 by omega]
      exact ⟨by omega, h4⟩
    · rw [← h1, show p.1 + 1 + (p.2 - (p.1 + 1)) = p.2 by omega]
theorem races_mem {t : T} {p : Nat × Nat} : p ∈ races t ↔ p.1 < p.2 ∧ p.2 < t.size ∧ hit t p.1 p.2 = true := by
  unfold races racesK
  rw [List.mem_flatMap]
  constructor
  · rintro ⟨i, hi, hp⟩
    have := List.mem_range.1 hi
    obtain ⟨h1, h2, h3, h4⟩ := rowR_mem.1 hp
    rw [h1]
    exact ⟨h2, by omega, h4⟩
  · rintro ⟨h1, h2, h3⟩
    exact ⟨p.1, List.mem_range.2 (by omega), rowR_mem.2 ⟨rfl, h1, by omega, h3⟩⟩
theorem rowR_len (t : T) (i m : Nat) : (rowR t i m).length ≤ m := by
  unfold rowR
  rw [List.length_map]
  exact Nat.le_trans (List.length_filter_le _ _) (by simp)
theorem racesK_len (t : T) : ∀ k, (racesK t k).length ≤ k * t.size
  | 0 => by simp [racesK]
  | k + 1 => by
    rw [racesK_succ, List.length_append, Nat.add_mul, Nat.one_mul]
    exact Nat.add_le_add (racesK_len t k) (Nat.le_trans (rowR_len t k _) (by omega))
/-- two that clash, of which none races: the lesser one is ahead -/
theorem free_bf {t : T} (h : races t = []) {i j : Nat} (hij : i < j) (hj : j < t.size) (hc : clash t i j = true) : t.bf i j := by
  refine ⟨hij, ?_⟩
  have hn : ¬ t.rk j < t.rk i := fun hr => by
    have : (i, j) ∈ races t := races_mem.2 ⟨hij, hj, by unfold hit; rw [hc, decide_eq_true hr]; rfl⟩
    rw [h] at this
    cases this
  have hne : t.rk i ≠ t.rk j := fun e => by
    have := t.rk_inj i j (by omega) hj e
    omega
  omega

/-! ### an order -/
def pos (ns : List Nat) (x : Nat) : Nat := ns.findIdx (· == x)
theorem pos_eq {ns : List Nat} {k x : Nat} (hn : ns.Nodup) (h : ns[k]? = some x) : pos ns x = k := by
  unfold pos
  obtain ⟨hk, rfl⟩ := List.getElem?_eq_some_iff.1 h
  rw [List.findIdx_eq hk]
  refine ⟨by simp, fun j hj => ?_⟩
  rw [beq_eq_false_iff_ne]
  intro e
  have := (List.getElem_inj hn).1 e
  omega
structure Right (t : T) (ns : List Nat) : Prop where
  len : ns.length = t.size
  lt : ∀ x ∈ ns, x < t.size
  nd : ns.Nodup
  up : ∀ i j, i < j → j < t.size → t.rk i < t.rk j → pos ns i < pos ns j
theorem Right.all {t : T} {ns : List Nat} (h : Right t ns) {x : Nat} (hx : x < t.size) : x ∈ ns := by
  refine Decidable.byContradiction fun hn => ?_
  have h1 := (List.nodup_cons.2 ⟨hn, h.nd⟩).length_le_of_subset (l₂ := List.range t.size) (fun y hy => by
    rcases List.mem_cons.1 hy with rfl | hy
    · exact List.mem_range.2 hx
    · exact List.mem_range.2 (h.lt y hy))
  have := h.len
  simp at h1
  omega
theorem Right.at_pos {t : T} {ns : List Nat} (h : Right t ns) {x : Nat} (hx : x < t.size) : ns[pos ns x]? = some x := by
  obtain ⟨k, hk⟩ := List.getElem?_of_mem (h.all hx)
  rw [pos_eq h.nd hk]
  exact hk
theorem pos_range {n x : Nat} (h : x < n) : pos (List.range n) x = x := pos_eq List.nodup_range (List.getElem?_range h)
theorem right_plain (t : T) : Right t (List.range t.size) := by
  refine ⟨by simp, fun x hx => List.mem_range.1 hx, List.nodup_range, fun i j hij hj _ => ?_⟩
  rw [pos_range hj, pos_range (by omega)]
  exact hij

/-! ### what each one finds -/
def isw (t : T) (c : Int) (y : Nat) : Bool := (acc t y).2.1 && (acc t y).1 == c
/-- whose writing lies in the cell, from 1; 0: nobody's -/
def lw (t : T) (pre : List Nat) (c : Int) : Int := pre.foldl (fun v y => if isw t c y then ((y : Int) + 1) else v) 0
theorem lw_nil (t : T) (c : Int) : lw t [] c = 0 := rfl
theorem lw_snoc (t : T) (pre : List Nat) (y : Nat) (c : Int) : lw t (pre ++ [y]) c = if isw t c y then ((y : Int) + 1) else lw t pre c := by
  unfold lw
  rw [List.foldl_append]
  rfl
theorem lw_last (t : T) (c : Int) : ∀ (pre : List Nat) (v : Int), pre.foldl (fun v y => if isw t c y then ((y : Int) + 1) else v) v = (((pre.filter (isw t c)).getLast?).map fun y => (y : Int) + 1).getD v := by
  intro pre
  induction pre with
  | nil => intro v; rfl
  | cons y pre ih =>
    intro v
    rw [List.foldl_cons, ih]
    by_cases h : isw t c y = true
    · rw [if_pos h, List.filter_cons_of_pos h, List.getLast?_cons]
      cases (pre.filter (isw t c)).getLast? with
      | none => rfl
      | some z => rfl
    · rw [if_neg h, List.filter_cons_of_neg h]
def seeL (t : T) (ns : List Nat) : List Int := (List.range t.size).map fun x => lw t (ns.take (pos ns x)) (acc t x).1 - 1
/-- two lists that go up and have the same numbers -/
theorem rise_same : ∀ {l m : List Nat}, l.Pairwise (· < ·) → m.Pairwise (· < ·) → (∀ x, x ∈ l ↔ x ∈ m) → l = m
  | [], [], _, _, _ => rfl
  | [], y :: m, _, _, h => by have := (h y).2 List.mem_cons_self; cases this
  | x :: l, [], _, _, h => by have := (h x).1 List.mem_cons_self; cases this
  | x :: l, y :: m, hl, hm, h => by
    have hl' := List.pairwise_cons.1 hl
    have hm' := List.pairwise_cons.1 hm
    have e : x = y := by
      rcases List.mem_cons.1 ((h x).1 List.mem_cons_self) with e | hx
      · exact e
      · rcases List.mem_cons.1 ((h y).2 List.mem_cons_self) with e | hy
        · exact e.symm
        · have := hm'.1 x hx
          have := hl'.1 y hy
          omega
    subst e
    congr 1
    refine rise_same hl'.2 hm'.2 fun z => ⟨fun hz => ?_, fun hz => ?_⟩
    · rcases List.mem_cons.1 ((h z).1 (List.mem_cons_of_mem _ hz)) with e | h1
      · have := hl'.1 z hz; omega
      · exact h1
    · rcases List.mem_cons.1 ((h z).2 (List.mem_cons_of_mem _ hz)) with e | h1
      · have := hm'.1 z hz; omega
      · exact h1
theorem isw_clash {t : T} {c : Int} {x y : Nat} (hx : (acc t x).1 = c) (hy : isw t c y = true) : clash t x y = true ∧ clash t y x = true := by
  unfold isw at hy
  rw [Bool.and_eq_true, beq_iff_eq] at hy
  have : clash t y x = true := by
    unfold clash
    rw [hy.1, hy.2, hx]
    simp
  exact ⟨by rw [clash_comm]; exact this, this⟩
/-- where nothing races the order is no matter -/
theorem free_same {t : T} {ns : List Nat} (hf : races t = []) (h : Right t ns) : seeL t ns = seeL t (List.range t.size) := by
  refine List.map_congr_left fun x hx => ?_
  have hx := List.mem_range.1 hx
  have key : (ns.take (pos ns x)).filter (isw t (acc t x).1) = ((List.range t.size).take (pos (List.range t.size) x)).filter (isw t (acc t x).1) := by
    rw [pos_range hx, List.take_range, Nat.min_eq_left (by omega)]
    refine rise_same ?_ (List.pairwise_lt_range.filter _) fun y => ?_
    · rw [List.pairwise_iff_getElem]
      intro a b ha hb hab
      have hsub : ((ns.take (pos ns x)).filter (isw t (acc t x).1)).Sublist ns := List.filter_sublist.trans (List.take_sublist _ _)
      obtain ⟨y1, h1⟩ : ∃ y, y = ((ns.take (pos ns x)).filter (isw t (acc t x).1))[a] := ⟨_, rfl⟩
      obtain ⟨y2, h2⟩ : ∃ y, y = ((ns.take (pos ns x)).filter (isw t (acc t x).1))[b] := ⟨_, rfl⟩
      rw [← h1, ← h2]
      have w1 : isw t (acc t x).1 y1 = true := by have := List.getElem_mem ha; rw [← h1] at this; exact (List.mem_filter.1 this).2
      have w2 : isw t (acc t x).1 y2 = true := by have := List.getElem_mem hb; rw [← h2] at this; exact (List.mem_filter.1 this).2
      -- y1 is ahead of y2 in the order
      have hps : [y1, y2].Sublist ns := by
        refine List.Sublist.trans ?_ hsub
        have : ((ns.take (pos ns x)).filter (isw t (acc t x).1)).Sublist ((ns.take (pos ns x)).filter (isw t (acc t x).1)) := List.Sublist.refl _
        rw [h1, h2]
        exact List.pairwise_iff_getElem.1 (List.pairwise_of_forall_sublist (R := fun u v => [u, v].Sublist ((ns.take (pos ns x)).filter (isw t (acc t x).1))) (fun h => h)) a b ha hb hab
      have hpp : pos ns y1 < pos ns y2 := by
        have := List.pairwise_iff_forall_sublist.1 (List.pairwise_iff_getElem.2 (fun i j hi hj hij => by
          rw [pos_eq h.nd (List.getElem?_eq_getElem hi), pos_eq h.nd (List.getElem?_eq_getElem hj)]
          exact hij) : ns.Pairwise (fun u v => pos ns u < pos ns v)) hps
        exact this
      have hy1 : y1 < t.size := h.lt y1 (hps.subset (by simp))
      have hy2 : y2 < t.size := h.lt y2 (hps.subset (by simp))
      rcases Nat.lt_trichotomy y1 y2 with hlt | rfl | hgt
      · exact hlt
      · omega
      · have hcl := (isw_clash (x := y1) (by unfold isw at w1; rw [Bool.and_eq_true, beq_iff_eq] at w1; exact w1.2) w2).2
        obtain ⟨b1, b2⟩ := free_bf hf hgt hy1 hcl
        have := h.up y2 y1 b1 hy1 b2
        omega
    · rw [List.mem_filter, List.mem_filter, List.mem_range]
      constructor
      · rintro ⟨hy, hw⟩
        refine ⟨?_, hw⟩
        have hyl : y < t.size := h.lt y (List.mem_of_mem_take hy)
        obtain ⟨k, hk⟩ := List.getElem?_of_mem hy
        rw [List.getElem?_take] at hk
        split at hk
        · rename_i hkp
          have hpy := pos_eq h.nd hk
          rcases Nat.lt_trichotomy y x with hlt | rfl | hgt
          · exact hlt
          · omega
          · obtain ⟨b1, b2⟩ := free_bf hf hgt hyl (isw_clash rfl hw).1
            have := h.up x y b1 hyl b2
            omega
        · cases hk
      · rintro ⟨hy, hw⟩
        refine ⟨?_, hw⟩
        obtain ⟨b1, b2⟩ := free_bf hf hy hx (isw_clash rfl hw).2
        have h1 := h.up y x b1 hx b2
        have h2 := h.at_pos (show y < t.size by omega)
        refine List.mem_of_getElem? (i := pos ns y) ?_
        rw [List.getElem?_take, if_pos h1]
        exact h2
  show lw t _ _ - 1 = lw t _ _ - 1
  unfold lw
  rw [lw_last, lw_last, key]
end Go.Proofs.Ytcoijmnnnfogdaa.Rc


namespace Go.Proofs.Ytcoijmnnnfogdaa.Rc
set_option linter.unusedVariables false
set_option linter.unusedSimpArgs false
set_option maxRecDepth 100000
open Sp (T Acc)

def atf (pre : List Int) (n : Nat) : Int := if (n : Int) ∈ pre then (pre.findIdx (· == (n : Int)) : Int) + 1 else 0
theorem atf_snoc {pre : List Int} {z : Int} (hz : z ∉ pre) (n : Nat) : atf (pre ++ [z]) n = if (n : Int) = z then (pre.length : Int) + 1 else atf pre n := by
  unfold atf
  by_cases e : (n : Int) = z
  · rw [if_pos e, if_pos (by rw [e]; simp), List.findIdx_append, List.findIdx_eq_length_of_false (by
      intro x hx
      rw [beq_eq_false_iff_ne]
      rintro rfl
      rw [e] at hx
      exact hz hx)]
    simp [e]
  · rw [if_neg e]
    by_cases hm : (n : Int) ∈ pre
    · rw [if_pos hm, if_pos (List.mem_append_left _ hm), List.findIdx_append]
      have : pre.findIdx (· == (n : Int)) < pre.length := List.findIdx_lt_length_of_exists ⟨_, hm, by simp⟩
      rw [if_pos this]
    · rw [if_neg hm, if_neg (by simp [hm, e])]
theorem atf_pos {pre : List Int} {n : Nat} : 0 < atf pre n ↔ (n : Int) ∈ pre := by
  unfold atf
  split
  · rename_i h
    exact ⟨fun _ => h, fun _ => by omega⟩
  · rename_i h
    exact ⟨fun h' => absurd h' (by omega), fun h' => absurd h' h⟩
theorem atf_le (pre : List Int) (n : Nat) : 0 ≤ atf pre n ∧ atf pre n ≤ pre.length := by
  unfold atf
  split
  · rename_i h
    have : pre.findIdx (· == (n : Int)) < pre.length := List.findIdx_lt_length_of_exists ⟨_, h, by simp⟩
    omega
  · omega
def atL (N : Nat) (pre : List Int) : List Value := (List.range N).map fun n => .int .i64 (atf pre n)
theorem atL_length (N : Nat) (pre : List Int) : (atL N pre).length = N := by simp [atL]
theorem atL_nil (N : Nat) : atL N [] = List.replicate N (.int .i64 0) := by
  unfold atL
  apply List.ext_getElem?
  intro i
  by_cases h : i < N
  · simp [h, atf]
  · simp [h]
theorem atL_get {N : Nat} {pre : List Int} {n : Nat} (h : n < N) : (atL N pre)[n]? = some (.int .i64 (atf pre n)) := by
  unfold atL
  rw [List.getElem?_map, List.getElem?_range h]
  rfl
theorem atL_set {N : Nat} {pre : List Int} {n : Nat} (h : n < N) (hz : (n : Int) ∉ pre) : (atL N pre).set n (.int .i64 ((pre.length : Int) + 1)) = atL N (pre ++ [(n : Int)]) := by
  apply List.ext_getElem?
  intro i
  by_cases hi : i < N
  · rw [atL_get hi, atf_snoc hz]
    by_cases e : i = n
    · subst e
      rw [List.getElem?_set_self (by rw [atL_length]; exact h), if_pos rfl]
    · rw [List.getElem?_set_ne (fun h => e h.symm), atL_get hi, if_neg (by omega)]
  · rw [List.getElem?_eq_none (by rw [List.length_set, atL_length]; omega), List.getElem?_eq_none (by rw [atL_length]; omega)]

structure Pre (N : Nat) (pre : List Int) : Prop where
  lt : ∀ x ∈ pre, 0 ≤ x ∧ x < N
  nd : pre.Nodup
theorem Pre.nil (N : Nat) : Pre N [] := ⟨fun x h => (by cases h), List.nodup_nil⟩
theorem Pre.snoc {N : Nat} {pre : List Int} {n : Nat} (h : Pre N pre) (hn : n < N) (hm : (n : Int) ∉ pre) : Pre N (pre ++ [(n : Int)]) := by
  refine ⟨fun x hx => ?_, List.nodup_append.2 ⟨h.nd, by simp, fun a ha b hb => ?_⟩⟩
  · rcases List.mem_append.1 hx with h1 | h1
    · exact h.lt x h1
    · rw [List.mem_singleton] at h1
      omega
  · rw [List.mem_singleton] at hb
    rintro rfl
    rw [hb] at ha
    exact hm ha
theorem Pre.head {N : Nat} {a b : List Int} (h : Pre N (a ++ b)) : Pre N a := ⟨fun x hx => h.lt x (List.mem_append_left _ hx), (List.nodup_append.1 h.nd).1⟩
theorem Pre.last {N : Nat} {a : List Int} {z : Int} (h : Pre N (a ++ [z])) : 0 ≤ z ∧ z < N ∧ z ∉ a :=
  ⟨(h.lt z (by simp)).1, (h.lt z (by simp)).2, fun hm => (List.nodup_append.1 h.nd).2.2 z hm z (by simp) rfl⟩

theorem nodup_ints {ns : List Nat} : (ns.map fun n : Nat => (n : Int)).Nodup ↔ ns.Nodup := by
  unfold List.Nodup
  rw [List.pairwise_map]
  exact ⟨fun h => h.imp fun h e => h (by rw [e]), fun h => h.imp fun h e => h (by omega)⟩
def RightI (t : T) (zs : List Int) : Prop := ∃ ns : List Nat, zs = ns.map (fun n : Nat => (n : Int)) ∧ Right t ns
theorem RightI.len {t : T} {zs : List Int} (h : RightI t zs) : zs.length = t.size := by
  obtain ⟨ns, rfl, h⟩ := h
  rw [List.length_map, h.len]
theorem RightI.pre {t : T} {zs : List Int} (h : RightI t zs) : Pre t.size zs := by
  obtain ⟨ns, rfl, h⟩ := h
  refine ⟨fun x hx => ?_, nodup_ints.2 h.nd⟩
  obtain ⟨n, hn, rfl⟩ := List.mem_map.1 hx
  have := h.lt n hn
  omega
theorem atf_nats {ns : List Nat} {n : Nat} (h : n ∈ ns) : atf (ns.map fun n : Nat => (n : Int)) n = (pos ns n : Int) + 1 := by
  unfold atf pos
  rw [if_pos (List.mem_map.2 ⟨n, h, rfl⟩), List.findIdx_map]
  have : ((fun x : Int => x == (n : Int)) ∘ fun n : Nat => (n : Int)) = fun x : Nat => x == n := by
    funext x
    simp only [Function.comp]
    rw [Bool.eq_iff_iff, beq_iff_eq, beq_iff_eq]
    omega
  rw [this]
def Ups (t : T) (zs : List Int) (i j : Nat) : Prop := t.rk i < t.rk j → ¬ atf zs j < atf zs i
theorem RightI.ups {t : T} {zs : List Int} (h : RightI t zs) {i j : Nat} (hij : i < j) (hj : j < t.size) : Ups t zs i j := by
  obtain ⟨ns, rfl, h⟩ := h
  intro hr
  have := h.up i j hij hj hr
  rw [atf_nats (n := i) (h.all (by omega)), atf_nats (n := j) (h.all hj)]
  omega
theorem rightI_of {t : T} {zs : List Int} (hl : zs.length = t.size) (hp : Pre t.size zs) (hu : ∀ i j, i < j → j < t.size → Ups t zs i j) : RightI t zs := by
  obtain ⟨ns, rfl⟩ : ∃ ns : List Nat, zs = ns.map fun n : Nat => (n : Int) := by
    refine ⟨zs.map Int.toNat, ?_⟩
    rw [List.map_map]
    conv => lhs; rw [← List.map_id zs]
    refine List.map_congr_left fun x hx => ?_
    have := (hp.lt x hx).1
    simp only [Function.comp, id]
    omega
  have hnd : ns.Nodup := nodup_ints.1 hp.nd
  have hlt : ∀ x ∈ ns, x < t.size := fun x hx => by
    have := (hp.lt (x : Int) (List.mem_map.2 ⟨x, hx, rfl⟩)).2
    omega
  rw [List.length_map] at hl
  have hall : ∀ {x : Nat}, x < t.size → x ∈ ns := fun {x} hx => by
    refine Decidable.byContradiction fun hn => ?_
    have h1 := (List.nodup_cons.2 ⟨hn, hnd⟩).length_le_of_subset (l₂ := List.range t.size) (fun y hy => by
      rcases List.mem_cons.1 hy with rfl | hy
      · exact List.mem_range.2 hx
      · exact List.mem_range.2 (hlt y hy))
    simp at h1
    omega
  refine ⟨ns, rfl, hl, hlt, hnd, fun i j hij hj hr => ?_⟩
  have h1 := hu i j hij hj hr
  rw [atf_nats (n := j) (hall hj), atf_nats (n := i) (hall (by omega))] at h1
  have hne : pos ns i ≠ pos ns j := fun e => by
    obtain ⟨a, ha⟩ := List.getElem?_of_mem (hall (show i < t.size by omega))
    obtain ⟨b, hb⟩ := List.getElem?_of_mem (hall hj)
    rw [pos_eq hnd ha, pos_eq hnd hb] at e
    subst e
    rw [ha] at hb
    injection hb with hb
    omega
  omega
theorem right_nats {t : T} {ns : List Nat} (h : Right t ns) : RightI t (ns.map fun n : Nat => (n : Int)) := ⟨ns, rfl, h⟩
end Go.Proofs.Ytcoijmnnnfogdaa.Rc


namespace Go.Proofs.Ytcoijmnnnfogdaa.Stl
set_option linter.unusedVariables false
set_option linter.unusedSimpArgs false
set_option maxRecDepth 100000
open Sp

theorem step_cases {t : T} {W : Nat} {s : S} (h : Good t W s) (who whom : Int) :
    (∃ w : Nat, who = w ∧ w < W ∧ w ∈ s.ws ∧ nextS t W s who whom = fin w t s ∧ nextL t W s who = [(w, (leafOf t s 0 w : Int))]) ∨
    ((∀ m j, LD t (nextS t W s who whom) m j ↔ LD t s m j) ∧ dn t (nextS t W s who whom) = dn t s ∧ nextL t W s who = [] ∧ (∀ v ∈ s.ws, v ∈ (nextS t W s who whom).ws)) := by
  unfold nextS nextL
  by_cases hr : 0 ≤ who ∧ who < W
  · rw [if_pos hr]
    by_cases hw : who.toNat ∈ s.ws
    · rw [if_pos hw, if_pos ⟨hr.1, hr.2, hw⟩]
      exact .inl ⟨who.toNat, by omega, by omega, hw, rfl, rfl⟩
    · rw [if_neg hw, if_neg (show ¬ (0 ≤ who ∧ who < W ∧ who.toNat ∈ s.ws) from fun e => hw e.2.2)]
      split
      · rename_i hc
        obtain ⟨h1, h2⟩ := steal_LD who.toNat whom.toNat t s (good_act h hc.2.2.2.1)
        have := steal_ok who.toNat whom.toNat t s 0 (good_act h hc.2.2.2.1) hc.2.2.2.1 h.nodup hc.2.2.2.2 hw
        exact .inr ⟨h1, h2, rfl, this.keep⟩
      · exact .inr ⟨fun _ _ => Iff.rfl, rfl, rfl, fun _ hv => hv⟩
  · rw [if_neg hr, if_neg (show ¬ (0 ≤ who ∧ who < W ∧ who.toNat ∈ s.ws) from fun e => hr ⟨e.1, e.2.1⟩)]
    exact .inr ⟨fun _ _ => Iff.rfl, rfl, rfl, fun _ hv => hv⟩

theorem log_dn {t : T} {W : Nat} : ∀ (ps : List Pk) {s : S}, Good t W s → (logS t W s ps).length + dn t s = dn t (afterS t W s ps)
  | [], s, _ => by simp [logS, afterS]
  | p :: ps, s, h => by
    have ih := log_dn ps (nextS_good h p.who p.whom)
    show (nextL t W s p.who ++ logS t W (nextS t W s p.who p.whom) ps).length + dn t s = dn t (afterS t W (nextS t W s p.who p.whom) ps)
    rw [List.length_append]
    rcases step_cases h p.who p.whom with ⟨w, -, -, hw, e1, e2⟩ | ⟨-, e1, e2, -⟩
    · have hd := (does w t s (good_act h hw) hw h.nodup).dn
      rw [← e1] at hd
      rw [e2, List.length_singleton]
      omega
    · rw [e2, List.length_nil]
      omega

structure Once (t : T) (W : Nat) (s : S) (L : List (Nat × Int)) : Prop where
  who : ∀ x ∈ L, x.1 < W
  leaf : ∀ x ∈ L, ∃ j : Nat, x.2 = j ∧ j < t.size ∧ ¬ LD t s 0 j
  nodup : (L.map (·.2)).Nodup
  ahead : ∀ (p : Nat) (x : Nat × Int), L[p]? = some x → ∀ i : Nat, t.bf i x.2.toNat → LD t s 0 i ∨ ∃ q y, q < p ∧ L[q]? = some y ∧ y.2 = (i : Int)
theorem once {t : T} {W : Nat} : ∀ (ps : List Pk) {s : S}, Good t W s → Once t W s (logS t W s ps)
  | [], s, _ => ⟨fun _ h => by simp [logS] at h, fun _ h => by simp [logS] at h, by simp [logS], fun _ _ h => by simp [logS] at h⟩
  | p :: ps, s, h => by
    obtain ⟨i1, i2, i3, i4⟩ := once ps (nextS_good h p.who p.whom)
    show Once t W s (nextL t W s p.who ++ logS t W (nextS t W s p.who p.whom) ps)
    rcases step_cases h p.who p.whom with ⟨w, -, hlt, hw, e1, e2⟩ | ⟨e1, -, e2, -⟩
    · have hd := does w t s (good_act h hw) hw h.nodup
      rw [e2]
      rw [e1] at i1 i2 i3 i4 ⊢
      generalize logS t W (fin w t s) ps = L at i1 i2 i3 i4 ⊢
      have l1 := hd.lt 0
      refine ⟨fun x hx => ?_, fun x hx => ?_, ?_, fun q x hq i hi => ?_⟩
      · rcases List.mem_cons.1 hx with rfl | hx
        · exact hlt
        · exact i1 x hx
      · rcases List.mem_cons.1 hx with rfl | hx
        · exact ⟨_, rfl, by omega, hd.new 0⟩
        · obtain ⟨j, h1, h2, h3⟩ := i2 x hx
          exact ⟨j, h1, h2, fun hn => h3 ((hd.ld 0 j).2 (.inl hn))⟩
      · show (((leafOf t s 0 w : Int)) :: L.map (·.2)).Nodup
        rw [List.nodup_cons]
        refine ⟨fun hm => ?_, i3⟩
        obtain ⟨x, hx, hxe⟩ := List.mem_map.1 hm
        obtain ⟨j, h1, -, h3⟩ := i2 x hx
        exact h3 ((hd.ld 0 j).2 (.inr (by omega)))
      · rcases q with _ | q
        · simp only [List.singleton_append, List.getElem?_cons_zero, Option.some.injEq] at hq
          subst hq
          refine .inl (hd.ahead 0 (leafOf t s 0 w) (.inr rfl) i (Nat.zero_le _) (by simpa using hi))
        · simp only [List.singleton_append, List.getElem?_cons_succ] at hq
          rcases i4 q x hq i hi with hl | ⟨q', y, h1, h2, h3⟩
          · rcases (hd.ld 0 i).1 hl with hl | hl
            · exact .inl hl
            · exact .inr ⟨0, _, by omega, rfl, by rw [hl]⟩
          · exact .inr ⟨q' + 1, y, by omega, by simpa using h2, h3⟩
    · rw [e2, List.nil_append]
      exact ⟨i1, fun x hx => by obtain ⟨j, h1, h2, h3⟩ := i2 x hx; exact ⟨j, h1, h2, fun hn => h3 ((e1 0 j).2 hn)⟩, i3, fun q x hq i hi => (i4 q x hq i hi).imp (fun hl => (e1 0 i).1 hl) id⟩
theorem once_start (t : T) (W : Nat) (hW : 0 < W) (ps : List Pk) : Once t W (start 0 t) (logS t W (start 0 t) ps) := once ps (first_good t W hW)

/-! ### alone -/
theorem alone {t : T} : ∀ (k : Nat) (s : S), (s = .done ∨ (Act t s ∧ s.main = some 0)) → logS t 1 s (List.replicate k ⟨0, 0⟩) = (List.range' (dn t s) (min k (t.size - dn t s))).map fun i : Nat => (0, (i : Int))
  | 0, s, _ => by simp [logS]
  | k + 1, s, h => by
    rw [List.replicate_succ]
    show nextL t 1 s 0 ++ logS t 1 (nextS t 1 s 0 0) (List.replicate k ⟨0, 0⟩) = _
    rcases h with rfl | ⟨ha, hm⟩
    · have e1 : nextL t 1 .done 0 = [] := by simp [nextL, S.ws]
      have e2 : nextS t 1 .done 0 0 = .done := by simp [nextS, S.ws]
      rw [e1, e2, alone k .done (.inl rfl), dn_done]
      simp
    · have hws := main_only t s 0 ha hm
      have hw : 0 ∈ s.ws := by rw [hws]; simp
      have hn : s.ws.Nodup := by rw [hws]; simp
      have hd := does 0 t s ha hw hn
      have hf := fin_ok 0 t s ha hw hn
      have e1 : nextL t 1 s 0 = [(0, (leafOf t s 0 0 : Int))] := by simp [nextL, hw]
      have e2 : nextS t 1 s 0 0 = fin 0 t s := by simp [nextS, hw]
      have hl := hd.main hm 0
      have hlt := (hd.lt 0).2
      rw [e1, e2, alone k (fin 0 t s) (by
        by_cases e : fin 0 t s = .done
        · exact .inl e
        · exact .inr ⟨hf.act e, hf.main hm e⟩), hd.dn, hl]
      have : min (k + 1) (t.size - dn t s) = min k (t.size - (dn t s + 1)) + 1 := by omega
      rw [this, List.range'_succ]
      simp
theorem alone_start (t : T) (k : Nat) : logS t 1 (start 0 t) (List.replicate k ⟨0, 0⟩) = (List.range (min k t.size)).map fun i : Nat => (0, (i : Int)) := by
  rw [alone k _ ((start_ok 0 t).imp id (fun h => ⟨h.1, h.2.1⟩)), (start_no 0 t).2, List.range_eq_range']
  rfl

/-! ### all is done at last -/
def pairs (W : Nat) : List Pk := (List.range W).flatMap fun a : Nat => (List.range W).map fun b : Nat => ⟨(a : Int), (b : Int)⟩
def fairs (W : Nat) : Nat → List Pk
  | 0 => []
  | r + 1 => fairs W r ++ pairs W
theorem dn_mono {t : T} {W : Nat} {s : S} (h : Good t W s) (ps : List Pk) : dn t s ≤ dn t (afterS t W s ps) := by
  have := log_dn ps h
  omega
/-- a worker who is at work does a leaf when he is picked -/
theorem busy {t : T} {W : Nat} (w b : Nat) (hw : w < W) : ∀ (ps : List Pk) {s : S}, Good t W s → w ∈ s.ws → ⟨(w : Int), (b : Int)⟩ ∈ ps → dn t s < dn t (afterS t W s ps)
  | p :: ps, s, h, hs, hm => by
    show dn t s < dn t (afterS t W (nextS t W s p.who p.whom) ps)
    have hg := nextS_good h p.who p.whom
    have hmo := dn_mono hg ps
    rcases step_cases h p.who p.whom with ⟨v, -, hlt, hv, e1, -⟩ | ⟨-, e1, e2, hk⟩
    · have hd := (does v t s (good_act h hv) hv h.nodup).dn
      rw [← e1] at hd
      omega
    · rcases List.mem_cons.1 hm with rfl | hm
      · have : nextL t W s w = [(w, (leafOf t s 0 w : Int))] := by simp [nextL, hs, hw]
        rw [this] at e2
        cases e2
      · have := busy w b hw ps hg (hk w hs) hm
        omega
theorem good_lt {t : T} {W : Nat} {s : S} (h : Good t W s) (hs : s ≠ .done) : dn t s < t.size := by
  have ha := h.act.resolve_left hs
  obtain ⟨w, hw⟩ := List.exists_mem_of_ne_nil _ (act_ws t s ha)
  have := (does w t s ha hw h.nodup).dn
  have := dn_le t (fin w t s)
  omega
theorem round_done {t : T} {W : Nat} {s : S} (h : Good t W s) : afterS t W s (pairs W) = .done ∨ dn t s < dn t (afterS t W s (pairs W)) := by
  by_cases hs : s = .done
  · have hdone : ∀ ps : List Pk, afterS t W .done ps = .done := fun ps => by
      induction ps with
      | nil => rfl
      | cons p ps ih =>
        show afterS t W (nextS t W .done p.who p.whom) ps = .done
        rw [show nextS t W .done p.who p.whom = .done by simp [nextS, S.ws]]
        exact ih
    subst hs
    exact .inl (hdone _)
  · have ha := h.act.resolve_left hs
    obtain ⟨w, hw⟩ := List.exists_mem_of_ne_nil _ (act_ws t s ha)
    have hlt := h.lt w hw
    exact .inr (busy w 0 hlt _ h hw (List.mem_flatMap.2 ⟨w, by simpa using hlt, List.mem_map.2 ⟨0, List.mem_range.2 (Nat.lt_of_le_of_lt (Nat.zero_le _) hlt), rfl⟩⟩))
theorem fair_dn {t : T} {W : Nat} : ∀ (r : Nat) {s : S}, Good t W s → afterS t W s (fairs W r) = .done ∨ r ≤ dn t (afterS t W s (fairs W r))
  | 0, s, h => .inr (Nat.zero_le _)
  | r + 1, s, h => by
    have hg := after_good h (fairs W r)
    show afterS t W s (fairs W r ++ pairs W) = .done ∨ _ ≤ dn t (afterS t W s (fairs W r ++ pairs W))
    rw [afterS_append]
    rcases fair_dn r h with e | e
    · rcases round_done hg with e' | e'
      · exact .inl e'
      · have h1 := dn_le t (afterS t W (afterS t W s (fairs W r)) (pairs W))
        rw [e, dn_done] at e'
        rw [e] at h1
        omega
    · rcases round_done hg with e' | e'
      · exact .inl e'
      · exact .inr (by omega)
/-- fair picks, as many rounds as there are leaves and one more -/
theorem ends (t : T) (W : Nat) (hW : 0 < W) (ps : List Pk) (r : Nat) (hr : t.size < r) : (logS t W (start 0 t) (ps ++ fairs W r)).length = t.size := by
  have hg := first_good t W hW
  have h1 := log_dn (ps ++ fairs W r) hg
  rw [(start_no 0 t).2] at h1
  have h2 : afterS t W (start 0 t) (ps ++ fairs W r) = .done := by
    rw [afterS_append]
    have hg' := after_good hg ps
    rcases fair_dn r hg' with e | e
    · exact e
    · have := dn_le t (afterS t W (afterS t W (start 0 t) ps) (fairs W r))
      omega
  rw [h2, dn_done] at h1
  omega
end Go.Proofs.Ytcoijmnnnfogdaa.Stl


namespace Go.Proofs.Ytcoijmnnnfogdaa
set_option linter.unusedVariables false
set_option linter.unusedSimpArgs false
set_option maxRecDepth 100000
open Go.RowKit

namespace Stl
open Sp (T)
theorem right_log {t : T} {W : Nat} {s : S} {L : List (Nat × Int)} (h : Once t W s L) (hs : ∀ j, ¬ LD t s 0 j) (hl : t.size ≤ L.length) : ∃ ns : List Nat, L.map (·.2) = ns.map (fun n : Nat => (n : Int)) ∧ Rc.Right t ns := by
  obtain ⟨ns, hns⟩ : ∃ ns : List Nat, L.map (·.2) = ns.map fun n : Nat => (n : Int) := by
    refine ⟨L.map fun x => x.2.toNat, ?_⟩
    rw [List.map_map]
    refine List.map_congr_left fun x hx => ?_
    obtain ⟨j, hj, -, -⟩ := h.leaf x hx
    simp only [Function.comp]
    omega
  have hnd : ns.Nodup := Rc.nodup_ints.1 (by rw [← hns]; exact h.nodup)
  have hlt : ∀ x ∈ ns, x < t.size := fun x hx => by
    have : (x : Int) ∈ L.map (·.2) := by rw [hns]; exact List.mem_map.2 ⟨x, hx, rfl⟩
    obtain ⟨y, hy, e⟩ := List.mem_map.1 this
    obtain ⟨j, hj, hj2, -⟩ := h.leaf y hy
    omega
  have hlen : ns.length = L.length := by
    have := congrArg List.length hns
    simpa using this.symm
  have hle : ns.length ≤ t.size := by
    have := hnd.length_le_of_subset (l₂ := List.range t.size) (fun y hy => List.mem_range.2 (hlt y hy))
    simpa using this
  refine ⟨ns, hns, by omega, hlt, hnd, fun i j hij hj hr => ?_⟩
  have hall : j ∈ ns := by
    refine Decidable.byContradiction fun hn => ?_
    have h1 := (List.nodup_cons.2 ⟨hn, hnd⟩).length_le_of_subset (l₂ := List.range t.size) (fun y hy => by
      rcases List.mem_cons.1 hy with rfl | hy
      · exact List.mem_range.2 hj
      · exact List.mem_range.2 (hlt y hy))
    simp at h1
    omega
  obtain ⟨p, hp⟩ := List.getElem?_of_mem hall
  have hgo : ∀ q : Nat, (L[q]?.map fun x => x.2) = ns[q]?.map fun n : Nat => (n : Int) := fun q => by
    have := congrArg (·[q]?) hns
    simpa using this
  have hLp := hgo p
  rw [hp] at hLp
  obtain ⟨x, hx, hxj⟩ := Option.map_eq_some_iff.1 hLp
  have hb : t.bf i x.2.toNat := by
    rw [hxj]
    exact ⟨hij, hr⟩
  rcases h.ahead p x hx i hb with h1 | ⟨q, y, hq, hy, hyi⟩
  · exact absurd h1 (hs i)
  · have hLq := hgo q
    rw [hy] at hLq
    obtain ⟨n, hn, e⟩ := Option.map_eq_some_iff.1 hLq.symm
    have hni : n = i := by
      have : (n : Int) = (i : Int) := e.trans hyi
      omega
    subst hni
    rw [Rc.pos_eq hnd hn, Rc.pos_eq hnd hp]
    exact hq
end Stl

theorem two_push {w w' : World} {B s1 s2 n1 n2 : Nat} {e1 e2 : TypeId} {v1 v2 v' : Value} {xs1 xs2 : List Value} (h1 : w.ownsRow B e1 s1 v1 n1 xs1) (h2 : w.ownsRow B e2 s2 v2 n2 xs2) (hap : ∀ i, v1.ownBlock = some i → v2.ownBlock ≠ some i) (hg : w.grownBy w' v1.ownBlock) (hv : v'.ownBlock = v1.ownBlock ∨ v'.ownBlock = some (w.heap.size + 1)) :
    w'.ownsRow B e2 s2 v2 n2 xs2 ∧ ∀ i, v'.ownBlock = some i → v2.ownBlock ≠ some i := by
  refine ⟨own_keeps h2 (Keeps.of_grown hg) (fun g e1 e2 => hap g e2.symm e1), fun i hi => ?_⟩
  rcases hv with e | e
  · exact hap i (e ▸ hi)
  · rw [e] at hi
    injection hi with hi
    intro e2
    have := (h2.lt i e2).2
    omega
end Go.Proofs.Ytcoijmnnnfogdaa
