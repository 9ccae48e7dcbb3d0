/-
  steal.pick, walked.
-/
import Derived.Test.YtajddbmmbhdnfaaYdSet
import Derived.Deep.RegionLaw
import Derived.Deep.DeepCutAuto
namespace Go.Proofs.Ytajddbmmbhdnfaa
set_option linter.unusedVariables false
set_option linter.unusedSimpArgs false
set_option maxRecDepth 100000
open Go.RowKit

def FSlv (sz n : Nat) (vs : List Value) : Fact (fun w w' => Below w.heap.size w w') := ⟨fun v w => SlV w sz v n vs, fun _ _ _ h k => h.below k⟩
theorem below_of_grown' {a b : World} {B : Nat} {r : Option Nat} (h : a.grownBy b r) (hB : B ≤ a.heap.size) (hr : ∀ i, r = some i → B ≤ i) : Below B a b :=
  ⟨h.os, h.tape, h.output, h.size, fun k hk => h.block k (by omega) (fun e => by have := hr k e.symm; omega)⟩
def PickPost (w : World) (yb base lv : Nat) (y' : Stl.Y) (P A Q : Value) (gs : List Nat) : Ending → World → Prop := fun e w' =>
  e = .returned (.tuple #[]) ∧ (∃ D' rs', YA w' yb base y' lv P A Q D' gs rs') ∧ Fr base w w'

set_option maxHeartbeats 4000000 in
theorem pick_out (y : Stl.Y) (who whom : Int) (w : World) (yb base lv : Nat) (P A Q D : Value) (gs : List Nat) (rs : List (Option Nat)) (h : YA w yb base y lv P A Q D gs rs) (hr : who < 0 ∨ (y.at_.length : Int) ≤ who) :
    Calls Try.prog 29 #[.pointer (some ⟨yb, 0, none⟩), .agg #[.int .i64 who, .int .i64 whom]] w (PickPost w yb base lv y P A Q gs) := by
  obtain ⟨-, -, b2, -, -⟩ := h.heads
  obtain ⟨Aa, ac, rfl, hle, hm⟩ := own_slice h.ats
  have hb5 : Below w.heap.size w (w.alloc (.cells #[.int .i64 who, .int .i64 whom] 29)) := below_alloc (Below.refl _ _) _
  have l1 := h.lt
  unfold maxLen at hm
  rcases Int.lt_or_le who 0 with h0 | h0
  · have hd : decide (who < 0) = true := by simpa using h0
    go_enter Try.func29, Try.ntmps29
    go_wp2
    go_quiet (fail)
    go_wp2
    go_end0
    exact ⟨rfl, ⟨_, rs, h.below (below_drewN hb5 _)⟩, ((Fr.refl _ _).alloc h.base_le _).drewN _⟩
  · have hd : decide (who < 0) = false := by simpa using h0
    have hd2 : decide ((y.at_.length : Int) ≤ who) = true := by simpa using hr.resolve_left (by omega)
    have hr' : ¬ who < (y.at_.length : Int) := by omega
    obtain ⟨nA, hnA⟩ : ∃ nA, nA = y.at_.length := ⟨_, rfl⟩
    go_enter Try.func29, Try.ntmps29
    go_wp2
    go_quiet (fail)
    go_wp2
    go_end0
    exact ⟨rfl, ⟨_, rs, h.below (below_drewN hb5 _)⟩, ((Fr.refl _ _).alloc h.base_le _).drewN _⟩


/-- it is noted that a leaf is done -/
theorem picked {w W w4 : World} {yb base lv q3 : Nat} {y : Stl.Y} {P A Q D v4 : Value} {gs : List Nat} {rs : List (Option Nat)} {x : Nat × Int} {dw : Option Nat} {o : Obj} {cs : List Value} (h : YA W yb base y lv P A Q D gs rs) (hb : Fr base w W) (hB : Blk W q3 29 cs) (hdw : dw = D.ownBlock) (hn3 : ¬ dw = some q3) (hg : (W.alloc o).drew.grownBy w4 D.ownBlock) (hown : w4.ownsRow base 38 2 v4 (y.log.length + 1) (donecs y.log ++ donec x)) (hv : v4.ownBlock = D.ownBlock ∨ v4.ownBlock = some (W.alloc o).drew.heap.size) :
    ∃ D', YA (w4.setCell ⟨yb, 4, none⟩ v4) yb base ⟨y.ps, y.at_, y.qs, y.log ++ [x]⟩ lv P A Q D' gs rs ∧ Fr base w (w4.setCell ⟨yb, 4, none⟩ v4) ∧ Blk (w4.setCell ⟨yb, 4, none⟩ v4) q3 29 cs := by
  have hb0 : Below W.heap.size W (W.alloc o).drew := below_drew (below_alloc (Below.refl _ _) _)
  have h0 := h.below hb0
  have hyD : D.ownBlock ≠ some yb := own_blk_ne h.log h.blk (by decide)
  have hB4 : Blk w4 yb 74 [P, .int .i64 (lv : Int), A, Q, D] := h0.blk.grown hg (fun e => hyD e.symm)
  have hs := hB4.set_ 4 v4
  have hgs := grown_setCell w4 yb 4 v4
  have hy3 : yb ≠ q3 := Blk.type_ne h.blk hB (by decide)
  refine ⟨v4, h0.logged hown hg hs hgs, ?_, ?_⟩
  · have b1 : Fr base w (W.alloc o).drew := (hb.alloc h.base_le o).drew
    have b2 : Fr base (W.alloc o).drew w4 := ⟨below_of_grown' hg h0.base_le (fun i e => (h0.log.lt i e).1), fun g' cs hb' => hb'.grown hg (fun e => own_blk_ne h0.log hb' (by decide) e.symm)⟩
    have b3 : Fr base w4 (w4.setCell ⟨yb, 4, none⟩ v4) := ⟨below_of_grown hgs (Nat.le_trans h0.base_le hg.size) h.above, fun g' cs hb' => hb'.grown hgs (fun e => Blk.type_ne hB4 hb' (by decide) (by injection e with e; exact e.symm))⟩
    exact (b1.trans b2).trans b3
  · have := (hB.below hb0).grown hg (fun e => hn3 (by rw [hdw, e]))
    exact this.grown hgs (fun e => hy3 (by injection e with e; exact e.symm))

set_option maxHeartbeats 16000000 in
theorem pick_leaf (f : Nat) (y : Stl.Y) (who n : Nat) (whom : Int) (q : List Nat) (p : Stl.Part) (ps1 : List Stl.Part) (q1 : List Nat) (a1 : Int) (ps2 : List Stl.Part) (q2 : List Nat) (a2 : Int) (w : World) (yb base lv : Nat) (P A Q D : Value) (gs : List Nat) (rs : List (Option Nat)) (h : YA w yb base y lv P A Q D gs rs)
    (hq : y.qs[who]? = some q) (ha : y.at_[who]? = some (n : Int)) (hp : y.ps[n]? = some p) (he : Stl.ended f y.ps q n = some (ps1, q1, a1)) (hs : Stl.settle f ps1 q1 a1 = some (ps2, q2, a2)) (hN : y.ps.length ≤ 1152921504606846976) (hlog : y.log.length ≤ 1099511627776) :
    Calls Try.prog 29 #[.pointer (some ⟨yb, 0, none⟩), .agg #[.int .i64 (who : Int), .int .i64 whom]] w (PickPost w yb base lv ⟨ps2, y.at_.set who a2, y.qs.set who q2, y.log ++ [(who, p.leaf)]⟩ P A Q gs) := by
  have hwho := (List.getElem?_eq_some_iff.1 ha).1
  have hn := (List.getElem?_eq_some_iff.1 hp).1
  obtain ⟨ag, ac, rfl, hale, ham, hab, hal⟩ := own_addr h.ats (by omega)
  obtain ⟨pg, cap, rfl, hle, hm, hpb, hpl⟩ := own_addr h.parts (by omega)
  obtain ⟨-, -, b2, -, -⟩ := h.heads
  have ca := h.at_cell rfl ha
  have l1 := h.lt
  unfold maxLen at ham hm
  have hb5 : Below w.heap.size w (w.alloc (.cells #[.int .i64 (who : Int), .int .i64 whom] 29)) := below_alloc (Below.refl _ _) _
  have hY0 := h.below hb5
  have B3 := Blk.new w 29 [.int .i64 (who : Int), .int .i64 whom]
  have hbB := (Fr.refl base w).alloc h.base_le (.cells #[.int .i64 (who : Int), .int .i64 whom] 29)
  obtain ⟨nA, hnA⟩ : ∃ nA, nA = y.at_.length := ⟨_, rfl⟩
  rw [← hnA] at hale hwho b2 hY0 ⊢
  have hwl0 := Lib.hid hwho
  have HH := Lib.hid (And.intro hq (And.intro ha (And.intro hp (And.intro he (And.intro hs hnA)))))
  clear hq ha hp he hs hnA
  have hwl := hwl0.out
  have hnd1 : decide ((who : Int) < 0) = false := by simp
  have hnd2 : decide (nA ≤ who) = false := by simp; omega
  go_enter Try.func29, Try.ntmps29
  go_wp2
  go_quiet (fail)
  rename Nat => nq0
  go_wp2_with fail
  go_quiet (fail)
  go_wp2_with fail
  obtain ⟨q3, hq3⟩ : ∃ q3, q3 = w.heap.size := ⟨_, rfl⟩
  rw [← hq3] at B3 ⊢
  have hY1 := hY0.below (below_drewN (Below.refl _ _) (nq0 + nq))
  have hbB1 := hbB.drewN (nq0 + nq)
  have B1 := B3.drewN (nq0 + nq)
  clear hY0 hbB B3 b2 ca hb5 hq3 h
  generalize ((w.alloc (.cells ([.int .i64 (who : Int), .int .i64 whom] : List Value).toArray 29)).drewN (nq0 + nq)) = W at hY1 hbB1 B1 ⊢
  obtain ⟨b0, -, b2, -, b4⟩ := hY1.heads
  have e1 := (hY1.cells rfl HH.out.2.2.1).2.1
  have f0 : W.cell? ⟨q3, 0, none⟩ = some (.int .i64 (who : Int)) := (B1.cell 0).trans rfl
  obtain ⟨Da, dn, dc, rfl⟩ : ∃ Da dn dc, D = .slice Da dn dc := by
    obtain ⟨A', c', e, -, -⟩ := own_slice hY1.log
    exact ⟨_, _, _, e⟩
  obtain ⟨dw, hdw⟩ : ∃ dw, dw = (Value.slice Da dn dc).ownBlock := ⟨_, rfl⟩
  have hny : ¬ dw = some yb := by rw [hdw]; exact own_blk_ne hY1.log hY1.blk (by decide)
  have hn3 : ¬ dw = some q3 := by rw [hdw]; exact own_blk_ne hY1.log B1 (by decide)
  have hnp : ¬ dw = some pg := fun e => own_own_ne hY1.log hY1.parts (by decide) (by rw [← hdw]; exact e) rfl
  have KS : ∀ w', Keeps (fun k => dw = some k) W w' → (Keeps (fun k => dw = some k) W w' ∧ w'.cell? ⟨yb, 0, none⟩ = some (.slice (some ⟨pg, 0, none⟩) y.ps.length cap) ∧ w'.cell? ⟨yb, 4, none⟩ = some (.slice Da dn dc) ∧ w'.cell? ⟨q3, 0, none⟩ = some (.int .i64 (who : Int)) ∧ w'.cell? ⟨pg, n * 7 + 1, none⟩ = some (.int .i64 p.leaf) ∧ w'.frozen? ⟨yb, 4, none⟩ = false) := fun w' hk =>
    ⟨hk, hk.cell b0 hny, hk.cell b4 hny, hk.cell f0 hn3, hk.cell e1 hnp, (hY1.blk.keeps hk hny).frozen 4⟩
  have hrow : ∀ o : Obj, (W.alloc o).drew.ownsRow base 38 2 (.slice Da dn dc) y.log.length (donecs y.log) := fun o => (hY1.log.alloc o).drew
  have hba : ∀ o : Obj, base ≤ (W.alloc o).drew.heap.size := fun o => by have := hY1.base_le; simp; omega
  have n63 : y.log.length + 1 ≤ maxLen := by unfold maxLen; omega
  have n47 : (y.log.length + 1) * 16 ≤ 140737488355328 := by omega
  have HL := Lib.hid (And.intro hY1 (And.intro hbB1 (And.intro B1 hdw)))
  have fr4 := (hY1.blk).frozen 4
  have ly := hY1.lt
  have l3 := B1.lt
  have lp := World.block_lt_of_cell? W _ e1
  clear b2 hY1 hbB1 B1 hdw
  have HKS := Lib.hid KS
  go_cut [] (fun wx => ∃ D', YA wx yb base ⟨y.ps, y.at_, y.qs, y.log ++ [(who, p.leaf)]⟩ lv (.slice (some ⟨pg, 0, none⟩) y.ps.length cap) (.slice (some ⟨ag, 0, none⟩) nA ac) Q D' gs rs ∧ Fr base w wx ∧ Blk wx q3 29 [.int .i64 (who : Int), .int .i64 whom])
  case first =>
    go_region_law (refine step_append _ _ _ _ _ _ _ _ Try.underlying31 info_done rfl (by decide) (hrow _) (show Cells _ _ _ (donec (who, p.leaf)) from Cells.new W _ 38) rfl (donec_one _) n63 n47 (hba _) rfl rfl rfl rfl ?_; intro v4 w4 hown4 hg4 hv4 hb4; have hk4 : Keeps (fun k => dw = some k) W w4 := (((Keeps.refl _ W).alloc _).drewN 1).trans ((Keeps.of_grown hg4).mono (fun i hi => by rw [HL.out.2.2.2]; exact hi.symm)); obtain ⟨A4, k4, rfl, hle4, hm4⟩ := own_slice hown4; obtain ⟨-, -, c4, -, -, f4⟩ := KS w4 hk4)
    all_goals
      have hend := picked HL.out.1 HL.out.2.1 HL.out.2.2.1 HL.out.2.2.2 hn3 hg4 hown4 hv4
      go_wp2_with fail
      go_meet
      case rel => exact hend
  case rest =>
    obtain ⟨D', hY2, hb2, B2⟩ := hcut
    obtain ⟨-, -, b2, -, -⟩ := hY2.heads
    have f0 : wc.cell? ⟨q3, 0, none⟩ = some (.int .i64 (who : Int)) := (B2.cell 0).trans rfl
    have hlen := ended_len _ _ _ _ _ _ _ HH.out.2.2.2.1
    have HLn := Lib.hid hlen
    have HY := Lib.hid (hY2.below (below_drew (Below.refl _ _)))
    have HBB := Lib.hid hb2.drew
    have HB2 := Lib.hid B2
    clear hlen hY2 hb2 B2 KS hny hn3 hnp n63 n47 hrow hba
    go_wp2_with fail
    go_cut [] (fun wx => ∃ D' rs', YA wx yb base ⟨ps1, y.at_.set who a1, y.qs.set who q1, y.log ++ [(who, p.leaf)]⟩ lv (.slice (some ⟨pg, 0, none⟩) y.ps.length cap) (.slice (some ⟨ag, 0, none⟩) nA ac) Q D' gs rs' ∧ Fr base w wx ∧ Blk wx q3 29 [.int .i64 (who : Int), .int .i64 whom])
    case first =>
      go_region_with ((go_at_call 38; refine (ended_any f ⟨y.ps, y.at_, y.qs, y.log ++ [(who, p.leaf)]⟩ n who q ps1 q1 a1 wc.drew yb base lv _ _ _ D' gs rs HY.out HH.out.1 hN HH.out.2.2.2.1).mono ?_; rintro e w2 ⟨rfl, ⟨rs2, h2⟩, hb2⟩; obtain ⟨-, -, c2, -, -⟩ := h2.heads; have ca2 := h2.at_cell rfl HH.out.2.1; have hrow2 := h2.ats; have fa2 := own_free hrow2 who; have B5 := hb2.pk _ _ HB2.out.drew; have g0 : w2.cell? ⟨q3, 0, none⟩ = some (.int .i64 (who : Int)) := (B5.cell 0).trans rfl))
      all_goals
        have e : y.at_.length = nA := HH.out.2.2.2.2.2.symm
        rw [e] at hrow2
        have hrs := own_setCell (i := who) hrow2 (.int .i64 a1)
        have hgs := grown_setCell w2 ag who (.int .i64 a1)
        have hY4 := YA.moved (A := .slice (some ⟨ag, 0, none⟩) nA ac) h2 (xs := y.at_.set who a1) rfl (by simp) (by
          dsimp only
          rw [ints_set, e]
          exact hrs) hgs
        have hb4 := (HBB.out.trans hb2).trans (Fr.row h2.ats (by decide) rfl hgs h2.base_le)
        have B6 := (Fr.row h2.ats (by decide) rfl hgs h2.base_le).pk _ _ B5
        have HE := Lib.hid (And.intro hY4 (And.intro hb4 B6))
        clear hY4 hb4 hrs hgs hrow2 h2 hb2 c2 ca2 fa2 e g0 B5 B6
        go_wp2_with fail
        go_meet
        case rel => exact ⟨_, _, HE.out⟩
    case rest =>
      obtain ⟨D2, rs2, hY4, hb4, B4⟩ := hcut
      have f0 : wc.cell? ⟨q3, 0, none⟩ = some (.int .i64 (who : Int)) := (B4.cell 0).trans rfl
      have HE := Lib.hid (And.intro hY4 hb4)
      clear hY4 hb4 B4
      go_wp2_with fail
      have hw1 : (y.qs.set who q1)[who]? = some q1 := by
        have := (List.getElem?_eq_some_iff.1 HH.out.1).1
        simp [this]
      have hw2 : (y.at_.set who a1)[who]? = some a1 := by
        have := (List.getElem?_eq_some_iff.1 HH.out.2.1).1
        simp [this]
      refine (settle_any f ⟨ps1, y.at_.set who a1, y.qs.set who q1, y.log ++ [(who, p.leaf)]⟩ who q1 a1 ps2 q2 a2 wc yb base lv _ _ _ D2 gs rs2 HE.out.1 hw1 hw2 (by dsimp only; rw [HLn.out]; exact hN) HH.out.2.2.2.2.1).mono ?_
      rintro e w9 ⟨rfl, ⟨rs9, h9⟩, hb9⟩
      simp only [List.set_set] at h9
      have HE9 := Lib.hid (And.intro h9 (HE.out.2.trans hb9))
      clear h9 hb9
      go_wp2
      go_end0
      exact ⟨rfl, ⟨_, _, HE9.out.1⟩, HE9.out.2⟩
end Go.Proofs.Ytajddbmmbhdnfaa
