/-
  steal.Run, walked.
-/
import Derived.Test.YtajddbmmbhdnfaaYdRun1
import Derived.Test.YtajddbmmbhdnfaaTwo
import Derived.Test.YtajddbmmbhdnfaaStlFirst
namespace Go.Proofs.Ytajddbmmbhdnfaa
set_option linter.unusedVariables false
set_option linter.unusedSimpArgs false
set_option maxRecDepth 100000
open Go.RowKit

def pkc (p : Stl.Pk) : List Value := [.int .i64 p.who, .int .i64 p.whom]
def pkcs (l : List Stl.Pk) : List Value := l.flatMap pkc
theorem pkcs_length (l : List Stl.Pk) : (pkcs l).length = l.length * 2 := flat_length pkc 2 (fun _ => rfl) l
theorem pkcs_get (l : List Stl.Pk) (i : Nat) (p : Stl.Pk) (h : l[i]? = some p) : (pkcs l)[i * 2]? = some (.int .i64 p.who) ∧ (pkcs l)[i * 2 + 1]? = some (.int .i64 p.whom) :=
  ⟨flat_get pkc 2 (fun _ => rfl) l i 0 p h (by omega), flat_get pkc 2 (fun _ => rfl) l i 1 p h (by omega)⟩

theorem logS_length (t : Sp.T) (W : Nat) : ∀ (ps : List Stl.Pk) (s : Stl.S), (Stl.logS t W s ps).length ≤ ps.length
  | [], _ => Nat.zero_le _
  | p :: ps, s => by
    have := logS_length t W ps (Stl.nextS t W s p.who p.whom)
    have h1 : (Stl.nextL t W s p.who).length ≤ 1 := by unfold Stl.nextL; split <;> simp
    simp only [Stl.logS, List.length_append, List.length_cons]
    omega

/-- what Run answers -/
def RunPost (w : World) (log : List (Nat × Int)) (left : Int) : Ending → World → Prop := fun e w' => ∃ D, e = .returned (.tuple #[D, .int .i64 left, .int .i64 0]) ∧ w'.ownsRow w.heap.size 38 2 D log.length (donecs log) ∧ Below w.heap.size w w'

theorem run_out (t : Sp.T) (w : World) (B : Nat) (cs : List Value) (W : Int) (v : Value) (hT : TmR B w cs t) (hW : W < 1 ∨ 16 < W) :
    Calls Try.prog 12 #[.agg cs.toArray, .int .i64 W, v] w fun e w' => e = .returned (.tuple #[.slice none 0 0, .int .i64 0, .int .i64 2]) ∧ Below w.heap.size w w' := by
  obtain ⟨k, c, b, l, A, n, cap, rfl, -, -⟩ := hT.form
  unfold tcells
  by_cases h1 : W < 1
  · go_enter Try.func12, Try.ntmps12
    go_wp2
    go_ret3
    exact ⟨rfl, below_alloc (Below.refl _ _) _⟩
  · have h2 : 16 < W := hW.resolve_left h1
    go_enter Try.func12, Try.ntmps12
    go_wp2
    go_ret3
    exact ⟨rfl, below_alloc (Below.refl _ _) _⟩

theorem ey_side {W w1 w2 w4 w5 : World} {yb base k : Nat} {A Q : Value} {gs : List Nat} {o : Obj} (h : EY W yb base k A Q gs) (hg1 : W.grownBy w1 A.ownBlock) (hg2 : w1.grownBy w2 (some yb)) (hg4 : (w2.alloc o).grownBy w4 Q.ownBlock) (hg5 : w4.grownBy w5 (some yb)) :
    Below base W w5 ∧ ∀ q cs, Blk W q 26 cs → Blk w5 q 26 cs := by
  have kk : Keeps (fun i => A.ownBlock = some i ∨ Q.ownBlock = some i ∨ i = yb) W w5 :=
    ((((Keeps.of_grown hg1).mono fun i e => .inl e.symm).trans ((Keeps.of_grown hg2).mono fun i e => .inr (.inr (by injection e)))).alloc o |>.trans ((Keeps.of_grown hg4).mono fun i e => .inr (.inl e.symm))).trans ((Keeps.of_grown hg5).mono fun i e => .inr (.inr (by injection e)))
  refine ⟨kk.below h.base_le fun i hi => ?_, fun q cs hB => hB.keeps kk fun hi => ?_⟩
  · rcases hi with e | e | e
    · exact own_ge h.ats i e
    · exact own_ge h.qus i e
    · have := h.above; omega
  · rcases hi with e | e | e
    · exact own_blk_ne h.ats hB (by decide) e
    · exact own_blk_ne h.qus hB (by decide) e
    · exact Blk.type_ne hB h.blk (by decide) e

set_option maxHeartbeats 4000000 in
theorem run_any (t : Sp.T) (ps : List Stl.Pk) (w : World) (B : Nat) (cs : List Value) (W : Nat) (v : Value) (hT : TmR B w cs t) (hB : B ≤ w.heap.size) (hsz : Stl.sz t ≤ 274877906944) (hlv : t.size ≤ 274877906944) (hps : ps.length ≤ 274877906944) (hW1 : 1 ≤ W) (hW2 : W ≤ 16) (hp : SlV w 2 v ps.length (pkcs ps)) :
    Calls Try.prog 12 #[.agg cs.toArray, .int .i64 (W : Int), v] w (RunPost w (Stl.logS t W (Stl.start 0 t) ps) ((t.size : Int) - ((Stl.logS t W (Stl.start 0 t) ps).length : Int))) := by
  obtain ⟨A0, c0, rfl, hle, hm, hlen, hcells⟩ := hp
  obtain ⟨k, c, b, l, A, n, cap, rfl, -, -⟩ := hT.form
  unfold tcells
  have hnW1 : ((W : Int) < 1) = False := by simp; omega
  have hnW2 : ((16 : Int) < W) = False := by simp; omega
  obtain ⟨q3, hq3⟩ : ∃ q3, q3 = w.heap.size := ⟨_, rfl⟩
  obtain ⟨yb, hyb⟩ : ∃ yb, yb = w.heap.size + 1 := ⟨_, rfl⟩
  have B3 := (Blk.new w 26 [.int .i64 k, .int .i64 c, .bool b, .int .i64 l, .slice A n cap]).alloc (.cells #[.slice none 0 0, .int .i64 0, .slice none 0 0, .slice none 0 0, .slice none 0 0] 74)
  have BY := Blk.new (w.alloc (.cells ([.int .i64 k, .int .i64 c, .bool b, .int .i64 l, .slice A n cap] : List Value).toArray 26)) 74 [.slice none 0 0, .int .i64 0, .slice none 0 0, .slice none 0 0, .slice none 0 0]
  have hb3 := below_alloc (below_alloc (Below.refl w.heap.size w) (.cells ([.int .i64 k, .int .i64 c, .bool b, .int .i64 l, .slice A n cap] : List Value).toArray 26)) (.cells #[.slice none 0 0, .int .i64 0, .slice none 0 0, .slice none 0 0, .slice none 0 0] 74)
  have hzz : (w.alloc (.cells ([.int .i64 k, .int .i64 c, .bool b, .int .i64 l, .slice A n cap] : List Value).toArray 26)).heap.size = w.heap.size + 1 := by simp
  rw [hzz, ← hyb] at BY
  go_enter Try.func12, Try.ntmps12
  go_wp2_with fail
  rw [← hq3] at B3
  rw [← hyb, ← hq3]
  generalize ((w.alloc (.cells ([.int .i64 k, .int .i64 c, .bool b, .int .i64 l, .slice A n cap] : List Value).toArray 26)).alloc (.cells ([.slice none 0 0, .int .i64 0, .slice none 0 0, .slice none 0 0, .slice none 0 0] : List Value).toArray 74)) = W0 at B3 BY hb3 ⊢
  have hE0 := ey_start W0 yb w.heap.size BY (by omega)
  have HQ := Lib.hid (And.intro hq3 hyb)
  clear hq3 hyb hzz BY
  go_loopw [21] (fun i wr => ∃ (j : Nat) (AA QQ : Value) (gs : List Nat), j ≤ W ∧ i = .int .i64 (j : Int) ∧ EY wr yb w.heap.size j AA QQ gs ∧ Below w.heap.size w wr ∧ Blk wr q3 26 [.int .i64 k, .int .i64 c, .bool b, .int .i64 l, .slice A n cap]) (fun i _ => W - (intOf i).toNat)
  case atStart => exact ⟨0, _, _, [], Nat.zero_le _, rfl, hE0, hb3, B3⟩
  case round =>
    obtain ⟨j, AA, QQ, gs, hj, rfl, hE, hbw, B3⟩ := hrel
    by_cases hlt : j < W
    · have hats : wr.ownsRow w.heap.size 3 1 AA j (ints .i64 (List.replicate j (-1))) := by have := hE.ats; simpa using this
      have hgl : gs.length = j := by have := hE.len1; simpa using this
      have hqus : wr.ownsRow w.heap.size 75 1 QQ j (ptrs gs) := by have := hE.qus; rw [hgl] at this; exact this
      obtain ⟨PA, cA, rfl, -, -⟩ := own_slice hats
      obtain ⟨PQ, cQ, rfl, -, -⟩ := own_slice hqus
      obtain ⟨-, -, c2, -, -⟩ := hE.heads
      have n63 : j + 1 ≤ maxLen := by unfold maxLen; omega
      have n47 : (j + 1) * 8 ≤ 140737488355328 := by omega
      have hwl := hE.base_le
      have lyb := hE.lt
      have hyA := own_blk_ne hE.ats hE.blk (by decide)
      have hyQ := own_blk_ne hE.qus hE.blk (by decide)
      have HE := Lib.hid (And.intro hE (And.intro hbw (And.intro B3 (And.intro hqus (And.intro hgl (And.intro hyA hyQ))))))
      clear hE hbw B3 hqus hgl hyA hyQ
      go_upto_region 7 with (first
        | (at_builtin; refine wp_push wr _ _ w.heap.size _ _ _ _ _ Try.underlying71 info_i64 rfl (by decide) hats [.int .i64 (-1)] rfl (by intro u hu; simp only [List.mem_singleton] at hu; subst hu; rfl) n63 n47 hwl rfl rfl rfl rfl ?_; intro A1 w1 hoA hgA _ _; have hY1 : Blk w1 yb 74 _ := HE.out.1.blk.grown hgA (fun e => HE.out.2.2.2.2.2.1 e.symm); have hoA' := hoA; obtain ⟨P1, cA1, rfl, -, -⟩ := own_slice hoA'; clear hoA')
        | (refine wpl_set_blk hY1 2 (.slice P1 (j + 1) cA1) (by kernel_rfl) (by simp) rfl rfl rfl rfl rfl rfl ?_; intro w2 hY2 hg2; simp only [List.set_cons_zero, List.set_cons_succ] at hY2))
      have c3 : w2.cell? ⟨yb, 3, none⟩ = some (.slice PQ j cQ) := (hY2.cell 3).trans rfl
      have ly2 := hY2.lt
      have k12 : Keeps (fun i => (Value.slice PA j cA).ownBlock = some i ∨ i = yb) wr w2 := ((Keeps.of_grown hgA).mono fun i e => .inl e.symm).trans ((Keeps.of_grown hg2).mono fun i e => .inr (by injection e))
      have hQ2 : w2.ownsRow w.heap.size 75 1 (.slice PQ j cQ) j (ptrs gs) := own_keeps HE.out.2.2.2.1 k12 fun b e hs => by
        rcases hs with hs | hs
        · exact own_own_ne HE.out.2.2.2.1 hats (by decide) e hs
        · exact HE.out.2.2.2.2.2.2 (by rw [e, hs])
      have hQ3 := hQ2.alloc (.cells #[.slice none 0 0, .int .i64 0, .int .i64 0] 77)
      have hw3 : w.heap.size ≤ (w2.alloc (.cells #[.slice none 0 0, .int .i64 0, .int .i64 0] 77)).heap.size := by have := k12.size; simp; omega
      have hQy : (Value.slice PQ j cQ).ownBlock ≠ some yb := HE.out.2.2.2.2.2.2
      have HY2 := Lib.hid (And.intro hoA (And.intro hgA (And.intro hY2 (And.intro hg2 k12))))
      clear hoA hgA hY2 hg2 k12 hQ2 c2 hY1 hats
      go_upto_region 8 with (first
        | (at_builtin; refine wp_push_at (w2.alloc (.cells #[.slice none 0 0, .int .i64 0, .int .i64 0] 77)) _ _ (w2.heap.size + 1) (by simp) w.heap.size _ _ _ _ _ Try.underlying72 info_pdq rfl (by decide) hQ3 [.pointer (some ⟨w2.heap.size, 0, none⟩)] rfl (by intro u hu; simp only [List.mem_singleton] at hu; subst hu; rfl) n63 n47 hw3 rfl rfl rfl rfl ?_; intro Q1 w4 hoQ hgQ _ _; have hY4 : Blk w4 yb 74 _ := (HY2.out.2.2.1.alloc _).grown hgQ (fun e => hQy e.symm); have hoQ' := hoQ; obtain ⟨P4, cQ1, rfl, -, -⟩ := own_slice hoQ'; clear hoQ')
        | (refine wpl_set_blk hY4 3 (.slice P4 (j + 1) cQ1) (by kernel_rfl) (by simp) rfl rfl rfl rfl rfl rfl ?_; intro w5 hY5 hg5; simp only [List.set_cons_zero, List.set_cons_succ] at hY5))
      have hE5 := ey_more HE.out.1 HY2.out.1 HY2.out.2.1 HY2.out.2.2.1 HY2.out.2.2.2.1 (by rw [HE.out.2.2.2.2.1]; exact hoQ) hgQ hY5 hg5
      obtain ⟨hs1, hs2⟩ := ey_side HE.out.1 HY2.out.2.1 HY2.out.2.2.2.1 hgQ hg5
      have HE5 := Lib.hid (And.intro hE5 (And.intro (HE.out.2.1.trans hs1) (hs2 _ _ HE.out.2.2.1)))
      clear hE5 hs1 hs2 hoQ hgQ hY5 hg5 hY4 hQ3 hQy hw3 c3 hwl
      go_wp2_with fail
      go_roundw
      case rel => exact ⟨j + 1, _, _, _, by omega, by go_num, HE5.out.1, HE5.out.2.1, HE5.out.2.2⟩
      case measure => simp [intOf]; omega
    · have hjW : j = W := by omega
      subst hjW
      go_upto_region 9 with (fail)
      obtain ⟨ag, ac, rfl, -, -, -, -⟩ := own_addr hE.ats (by simp; omega)
      simp only [List.length_replicate] at hE
      obtain ⟨-, -, b2, -, -⟩ := hE.heads
      have t0 := (B3.cell 0).trans rfl
      have t1 := (B3.cell 1).trans rfl
      have t2 := (B3.cell 2).trans rfl
      have t3 := (B3.cell 3).trans rfl
      have t4 := (B3.cell 4).trans rfl
      have lyb := hE.lt
      have lag := World.block_lt_of_cell? wr _ (hE.at_cell (i := 0) (a := -1) rfl (List.getElem?_replicate_of_lt (by omega)))
      have HE := Lib.hid (And.intro (hE.below (below_drew (Below.refl _ _))) (And.intro hbw (hT.later (hbw.drew.mono hB))))
      have hYd := hE.below (below_drew (Below.refl _ _))
      clear hE hbw
      go_cut [] (fun wx => ∃ P' D', YA wx yb w.heap.size ⟨Stl.partsOf t 0 0 (-1) false, (List.replicate j (-1)).set 0 0, List.replicate j [], []⟩ t.size P' (.slice (some ⟨ag, 0, none⟩) j ac) QQ D' gs (List.replicate j none) ∧ Below w.heap.size w wx)
      case first =>
        go_region_with ((go_at_call 27; refine (lay_any t wr.drew yb w.heap.size 0 B _ _ _ _ _ gs _ _ (-1) false HE.out.1 HE.out.2.2 hB (by omega) (by omega) (by simpa using hsz) (by omega)).mono ?_; rintro e w2 ⟨rfl, P2, h2, hk2, hf2⟩; obtain ⟨-, -, d2, -, -⟩ := h2.heads; have ca2 := h2.at_cell (i := 0) (a := -1) rfl (List.getElem?_replicate_of_lt (by omega)); have hrow2 := h2.ats; have fa2 := own_free hrow2 0))
        all_goals
          have e : (List.replicate j (-1 : Int)).length = j := by simp
          try dsimp only at hrow2
          rw [e] at hrow2
          simp only [Nat.zero_add, List.nil_append, List.length_nil] at h2
          have hrs := own_setCell (i := 0) hrow2 (.int .i64 0)
          have hgs := grown_setCell w2 ag 0 (.int .i64 0)
          have hY4 := YA.moved (A := .slice (some ⟨ag, 0, none⟩) j ac) h2 (xs := (List.replicate j (-1 : Int)).set 0 0) rfl (by simp) (by
            dsimp only
            rw [ints_set, e]
            exact hrs) hgs
          have hb4 := (HE.out.2.1.drew.trans (LK.below hk2 HE.out.1.parts HE.out.1.base_le HE.out.1.above)).trans (below_of_grown hgs (by have := h2.base_le; omega) (own_ge h2.ats ag rfl))
          have HF := Lib.hid (And.intro hY4 hb4)
          clear hY4 hb4 hrs hgs hrow2 h2 hk2 hf2 d2 ca2 fa2 e
          go_wp2_with fail
          go_meet
          case rel => exact ⟨_, _, HF.out⟩
      case rest =>
        obtain ⟨P', D', hY, hb⟩ := hcut
        obtain ⟨f, hf⟩ := Stl.first_runs t (by omega)
        have HY := Lib.hid (And.intro hY (And.intro hb hf))
        clear hY hb hf
        go_upto_region 10 with (fail)
        go_wp2_with fail
        refine (settle_any f _ 0 [] 0 _ _ _ wc yb w.heap.size _ _ _ _ _ _ _ HY.out.1 (by exact List.getElem?_replicate_of_lt (by omega)) (by show ((List.replicate j (-1 : Int)).set 0 0)[0]? = some 0; rw [List.getElem?_set_self (by simp; omega)]) (by show (Stl.partsOf t 0 0 (-1) false).length ≤ _; rw [Stl.partsOf_length]; omega) HY.out.2.2).mono ?_
        rintro e w3 ⟨rfl, ⟨rs3, h3⟩, hb3⟩
        have hY3 : YA w3 yb w.heap.size (Stl.yard t j (Stl.start 0 t) []) t.size P' (.slice (some ⟨ag, 0, none⟩) j ac) QQ D' gs rs3 := by
          rw [← Stl.first_yard t j (by omega)]
          exact h3
        have hb4 := HY.out.2.1.trans hb3.b
        clear h3 hb3
        go_wp2_with fail
        go_loopw [56] (fun i wr => ∃ (m : Nat) (D2 : Value) (rs2 : List (Option Nat)), m ≤ ps.length ∧ i = .int .i64 (m : Int) ∧ YA wr yb w.heap.size (Stl.yard t j (Stl.afterS t j (Stl.start 0 t) (ps.take m)) (Stl.logS t j (Stl.start 0 t) (ps.take m))) t.size P' (.slice (some ⟨ag, 0, none⟩) j ac) QQ D2 gs rs2 ∧ Below w.heap.size w wr) (fun i _ => ps.length - (intOf i).toNat)
        case atStart => exact ⟨0, _, _, Nat.zero_le _, rfl, hY3, hb4⟩
        case round =>
          obtain ⟨m, D2, rs2, hm, rfl, hY, hb⟩ := hrel
          by_cases hlt : m < ps.length
          · obtain ⟨p, hp⟩ : ∃ p, ps[m]? = some p := ⟨_, List.getElem?_eq_getElem hlt⟩
            obtain ⟨g0, o0, rfl, hg0, hc⟩ := hcells.at_ (by intro e; have := pkcs_length ps; rw [e] at this; simp at this; omega)
            obtain ⟨p0, p1⟩ := pkcs_get ps m p hp
            have a0 : wr.cell? ⟨g0, o0 + m * 2, none⟩ = some (.int .i64 p.who) := (hb.cell hg0).trans (hc _ _ p0)
            have a1 : wr.cell? ⟨g0, o0 + m * 2 + 1, none⟩ = some (.int .i64 p.whom) := (hb.cell hg0).trans (hc _ _ p1)
            have hgood := Stl.after_good (Stl.first_good t j (by omega)) (ps.take m)
            obtain ⟨f, hf⟩ := Stl.pick_yard (t := t) (by omega) hgood (Stl.logS t j (Stl.start 0 t) (ps.take m)) p.who p.whom
            have hlg : (Stl.logS t j (Stl.start 0 t) (ps.take m)).length ≤ 1099511627776 := by
              have := logS_length t j (ps.take m) (Stl.start 0 t)
              rw [List.length_take] at this
              omega
            have hpl : (Stl.yard t j (Stl.afterS t j (Stl.start 0 t) (ps.take m)) (Stl.logS t j (Stl.start 0 t) (ps.take m))).ps.length ≤ 1152921504606846976 := by
              show (Stl.img t _ 0 0 (-1) false).length ≤ _
              rw [Stl.img_length]; omega
            have hst : ps.take (m + 1) = ps.take m ++ [p] := by
              obtain ⟨h', rfl⟩ := List.getElem?_eq_some_iff.1 hp
              exact List.take_succ_eq_append_getElem h'
            have HP := Lib.hid (And.intro hY (And.intro hb (And.intro hf (And.intro hlg (And.intro hpl hst)))))
            clear hY hb hf hlg hpl hst hgood p0 p1 hp
            go_wp2_with fail
            have hba := below_alloc (Below.refl wr.heap.size wr) (.cells #[.int .i64 p.who, .int .i64 p.whom] 29)
            have hbw := below_next hba HP.out.2.1
            refine (pick_any f _ _ p.who p.whom _ yb w.heap.size _ _ _ _ _ gs _ (HP.out.1.below hba) HP.out.2.2.2.2.1 HP.out.2.2.2.1 HP.out.2.2.1).mono ?_
            rintro e w5 ⟨rfl, ⟨D5, rs5, h5⟩, hb5⟩
            have HE5 := Lib.hid (And.intro h5 (hbw.trans hb5.b))
            clear h5 hb5 hba hbw a0 a1 hc
            go_wp2_with fail
            go_roundw
            case rel => exact ⟨m + 1, D5, rs5, by omega, by go_num, by rw [HP.out.2.2.2.2.2, Stl.afterS_append, Stl.logS_append]; simpa [Stl.afterS, Stl.logS] using HE5.out.1, HE5.out.2⟩
            case measure => simp [intOf]; omega
          · have hmn : m = ps.length := by omega
            rw [hmn, List.take_length] at hY
            obtain ⟨-, d1, -, -, d4⟩ := hY.heads
            have hrow : wr.ownsRow w.heap.size 38 2 D2 (Stl.logS t j (Stl.start 0 t) ps).length (donecs (Stl.logS t j (Stl.start 0 t) ps)) := hY.log
            have hlg := logS_length t j ps (Stl.start 0 t)
            have lyb' := hY.lt
            clear hY hmn
            obtain ⟨LG, hLG⟩ : ∃ LG, LG = Stl.logS t j (Stl.start 0 t) ps := ⟨_, rfl⟩
            rw [← hLG] at hrow hlg
            have HLG := Lib.hid hLG
            clear hLG
            obtain ⟨PD, cD, rfl, -, -⟩ := own_slice hrow
            have HF := Lib.hid (And.intro hrow (below_drewN hb))
            clear hrow hb
            have lgb : LG.length ≤ 274877906944 := Nat.le_trans hlg hps
            go_wp2_with fail
            go_quiet (fail)
            go_wp2
            go_ret3
            have e := HLG.out
            subst e
            exact ⟨_, rfl, ⟨HF.out.1.1, HF.out.1.2⟩, HF.out.2 _⟩
end Go.Proofs.Ytajddbmmbhdnfaa
