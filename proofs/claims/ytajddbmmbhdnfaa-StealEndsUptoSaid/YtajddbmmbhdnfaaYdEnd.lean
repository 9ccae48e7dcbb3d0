/-
  steal.ended, walked.
-/
import Derived.Test.YtajddbmmbhdnfaaYard
import Derived.BigQuiet
namespace Go.Proofs.Ytajddbmmbhdnfaa
set_option linter.unusedVariables false
set_option linter.unusedSimpArgs false
set_option maxRecDepth 100000
open Go.RowKit

/-- the parts' cells, and the yard's -/
theorem YA.cells {w : World} {yb base lv : Nat} {y : Stl.Y} {P A Q D : Value} {gs : List Nat} {rs : List (Option Nat)} (h : YA w yb base y lv P A Q D gs rs) {pg N cap : Nat} (hP : P = .slice (some ⟨pg, 0, none⟩) N cap) {i : Nat} {p : Stl.Part} (hp : y.ps[i]? = some p) :
    w.cell? ⟨pg, i * 7, none⟩ = some (.int .i64 (p.kind : Int)) ∧ w.cell? ⟨pg, i * 7 + 1, none⟩ = some (.int .i64 p.leaf) ∧ w.cell? ⟨pg, i * 7 + 2, none⟩ = some (.int .i64 (p.left : Int)) ∧ w.cell? ⟨pg, i * 7 + 3, none⟩ = some (.int .i64 (p.right : Int)) ∧ w.cell? ⟨pg, i * 7 + 4, none⟩ = some (.int .i64 p.up) ∧ w.cell? ⟨pg, i * 7 + 5, none⟩ = some (.bool p.onR) ∧ w.cell? ⟨pg, i * 7 + 6, none⟩ = some (.bool p.done) := by
  have hi := (List.getElem?_eq_some_iff.1 hp).1
  have hr := h.parts
  rw [hP] at hr
  have hNe : N = y.ps.length := own_len hr
  rw [hNe] at hr
  have go : ∀ j, j < 7 → w.cell? ⟨pg, i * 7 + j, none⟩ = (partc p)[j]? := fun j hj => (hr.cellAt (i * 7 + j) (by omega)).trans (partcs_get _ _ _ _ hp hj)
  exact ⟨go 0 (by omega), go 1 (by omega), go 2 (by omega), go 3 (by omega), go 4 (by omega), go 5 (by omega), go 6 (by omega)⟩

theorem YA.heads {w : World} {yb base lv : Nat} {y : Stl.Y} {P A Q D : Value} {gs : List Nat} {rs : List (Option Nat)} (h : YA w yb base y lv P A Q D gs rs) : w.cell? ⟨yb, 0, none⟩ = some P ∧ w.cell? ⟨yb, 1, none⟩ = some (.int .i64 (lv : Int)) ∧ w.cell? ⟨yb, 2, none⟩ = some A ∧ w.cell? ⟨yb, 3, none⟩ = some Q ∧ w.cell? ⟨yb, 4, none⟩ = some D :=
  ⟨(h.blk.cell 0).trans rfl, (h.blk.cell 1).trans rfl, (h.blk.cell 2).trans rfl, (h.blk.cell 3).trans rfl, (h.blk.cell 4).trans rfl⟩
/-- what a call may have turned: nothing below base, and no pick -/
structure Fr (B : Nat) (w w' : World) : Prop where
  b : Below B w w'
  pk : ∀ g cs, Blk w g 29 cs → Blk w' g 29 cs
section
variable {B : Nat} {w w' w'' : World}
theorem Fr.refl (B : Nat) (w : World) : Fr B w w := ⟨Below.refl _ _, fun _ _ h => h⟩
theorem Fr.size (h : Fr B w w') : w.heap.size ≤ w'.heap.size := h.b.size
theorem Fr.trans (h : Fr B w w') (k : Fr B w' w'') : Fr B w w'' := ⟨h.b.trans k.b, fun g cs hb => k.pk g cs (h.pk g cs hb)⟩
theorem Fr.alloc (h : Fr B w w') (hB : B ≤ w'.heap.size) (o : Obj) : Fr B w (w'.alloc o) := ⟨h.b.alloc hB o, fun g cs hb => (h.pk g cs hb).alloc o⟩
theorem Fr.drewN (h : Fr B w w') (n : Nat) : Fr B w (w'.drewN n) := ⟨below_drewN h.b n, fun g cs hb => (h.pk g cs hb).drewN n⟩
theorem Fr.drew (h : Fr B w w') : Fr B w w'.drew := ⟨h.b.drew, fun g cs hb => (h.pk g cs hb).drew⟩
theorem Fr.below (h : Fr B w w') (k : Below w'.heap.size w' w'') (hB : B ≤ w.heap.size) : Fr B w w'' := h.trans ⟨k.mono (Nat.le_trans hB h.size), fun _ _ hb => hb.below k⟩
theorem Fr.row {e : TypeId} {size n g : Nat} {v : Value} {xs : List Value} (h : w.ownsRow B e size v n xs) (he : e ≠ 29) (hv : v.ownBlock = some g) (hg : w.grownBy w' (some g)) (hB : B ≤ w.heap.size) : Fr B w w' :=
  ⟨below_of_grown hg hB (h.lt g hv).1, fun g' cs hb => hb.grown hg (fun e' => own_blk_ne h hb he (by rw [hv, e']))⟩
theorem Fr.dq {g : Nat} {r : Option Nat} {l : List Int} (hd : DqRep w g l r) (hk : Keeps (fun k => k = g ∨ some k = r) w w') (hB : B ≤ w.heap.size) (hg : B ≤ g) : Fr B w w' := by
  obtain ⟨v, n, xs, hr, hv⟩ := hd.row
  obtain ⟨cs, hc⟩ := hd.blk
  refine ⟨hk.below hB fun i hi => ?_, fun g' ds hb => hb.keeps hk fun hi => ?_⟩
  · rcases hi with hi | hi
    · omega
    · have := (hr.lt i (by rw [hv, hi])).1; omega
  · rcases hi with hi | hi
    · exact Blk.type_ne hb hc (by decide) hi
    · exact own_blk_ne hr hb (by decide) (by rw [hv, hi])
end
def EndPost (w : World) (yb base lv : Nat) (y : Stl.Y) (P A Q D : Value) (gs : List Nat) (who : Nat) (ps' : List Stl.Part) (q' : List Nat) (a' : Int) : Ending → World → Prop := fun e w' =>
  e = .returned (.int .i64 a') ∧ (∃ rs', YA w' yb base { y with ps := ps', qs := y.qs.set who q' } lv P A Q D gs rs') ∧ Fr base w w'




set_option maxHeartbeats 4000000 in
theorem ended_step (f : Nat) (ih : ∀ (y : Stl.Y) (n who : Nat) (q : List Nat) (ps' : List Stl.Part) (q' : List Nat) (a' : Int) (w : World) (yb base lv : Nat) (P A Q D : Value) (gs : List Nat) (rs : List (Option Nat)), YA w yb base y lv P A Q D gs rs → y.qs[who]? = some q → y.ps.length ≤ 1152921504606846976 → Stl.ended f y.ps q n = some (ps', q', a') →
      Calls Try.prog 38 #[.pointer (some ⟨yb, 0, none⟩), .int .i64 (who : Int), .int .i64 (n : Int)] w (EndPost w yb base lv y P A Q D gs who ps' q' a'))
    (y : Stl.Y) (n who : Nat) (q : List Nat) (ps' : List Stl.Part) (q' : List Nat) (a' : Int) (w : World) (yb base lv : Nat) (P A Q D : Value) (gs : List Nat) (rs : List (Option Nat)) (h : YA w yb base y lv P A Q D gs rs) (hq : y.qs[who]? = some q) (hN : y.ps.length ≤ 1152921504606846976) (hF : Stl.ended (f + 1) y.ps q n = some (ps', q', a')) :
      Calls Try.prog 38 #[.pointer (some ⟨yb, 0, none⟩), .int .i64 (who : Int), .int .i64 (n : Int)] w (EndPost w yb base lv y P A Q D gs who ps' q' a') := by
  unfold Stl.ended at hF
  rcases hp : y.ps[n]? with _ | p
  · rw [hp] at hF; simp at hF
  rw [hp] at hF
  dsimp only at hF
  have hn := (List.getElem?_eq_some_iff.1 hp).1
  obtain ⟨pg, cap, rfl, hle, hm, hpb, hpl⟩ := own_addr h.parts (by omega)
  have hrow := h.parts
  obtain ⟨c0, -, -, -, -⟩ := h.heads
  unfold maxLen at hm
  have hbw := h.base_le
  have hT : ∀ w', w'.ownsRow base 100 7 (.slice (some ⟨pg, 0, none⟩) y.ps.length cap) y.ps.length ((partcs y.ps).set (n * 7 + 6) (.bool true)) → w.grownBy w' (some pg) → YA w' yb base { y with ps := Stl.mark y.ps n } lv (.slice (some ⟨pg, 0, none⟩) y.ps.length cap) A Q D gs rs := fun w' ho hg => by
    rw [partcs_mark _ _ _ hp] at ho
    exact h.turned rfl (by unfold Stl.mark; rw [hp]; simp) ho hg
  have hmk : (Stl.mark y.ps n)[n]? = some { p with done := true } := by unfold Stl.mark; rw [hp]; simp [hn]
  have hml : (Stl.mark y.ps n).length = y.ps.length := by unfold Stl.mark; rw [hp]; simp
  have hbel : ∀ w', w.grownBy w' (some pg) → Fr base w w' := fun w' hg => Fr.row h.parts (by decide) rfl hg h.base_le
  have hset : y.qs.set who q = y.qs := by
    obtain ⟨h1, h2⟩ := List.getElem?_eq_some_iff.1 hq
    rw [← h2]; exact List.set_getElem_self ..
  have HT := Lib.hid hT
  have HM := Lib.hid hmk
  have HB := Lib.hid hbel
  have HS := Lib.hid (And.intro hset (And.intro hq hml))
  have h0 := Lib.hid h
  clear hT hmk hbel hset hq hml hp h
  by_cases hup0 : p.up < 0
  · rw [if_pos hup0] at hF
    cases hF
    obtain ⟨up, hup⟩ : ∃ up, p.up = up := ⟨_, rfl⟩
    rw [hup] at hup0
    go_enter Try.func38, Try.ntmps38
    go_wp2_with (refine wpl_set_row hrow (n * 7 + 6) (.bool true) (by kernel_rfl) (by omega) rfl rfl rfl rfl rfl rfl ?_; intro w1 hown1 hg1; have h1 := HT.out w1 hown1 hg1; obtain ⟨b0, -, -, b3, -⟩ := h1.heads; have l2 : pg < w1.heap.size := Nat.lt_of_lt_of_le hpl hg1.size; have b0' := World.new_ne w1 _ b0; have b3' := World.new_ne w1 _ b3; obtain ⟨-, -, -, -, d4, d5, -⟩ := h1.cells (i := n) rfl HM.out; have l1 := h1.lt; have d4' := World.new_ne w1 _ d4; rw [hup] at d4)
    go_ret
    exact ⟨rfl, ⟨rs, by rw [HS.out.1]; exact h1⟩, HB.out _ hg1⟩
  rw [if_neg hup0] at hF
  obtain ⟨k, hup⟩ : ∃ k : Nat, p.up = (k : Int) := ⟨p.up.toNat, by omega⟩
  rw [hup, Int.toNat_natCast] at hF
  rcases hu : (Stl.mark y.ps n)[k]? with _ | u
  · rw [hu] at hF; simp at hF
  rw [hu] at hF
  dsimp only at hF
  have hk := (List.getElem?_eq_some_iff.1 hu).1
  rw [HS.out.2.2] at hk
  obtain ⟨onR, hor⟩ : ∃ onR, onR = p.onR := ⟨_, rfl⟩
  rw [← hor] at hF
  have HU := Lib.hid hu
  have HOR := Lib.hid hor
  clear hu hor
  by_cases hk2 : u.kind = 2
  · have hk2' : (u.kind : Int) = 2 := by omega
    rw [if_pos hk2] at hF
    have HK2 := Lib.hid hk2
    clear hk2
    rcases onR with _ | _
    · rw [if_neg (by simp)] at hF
      cases hF
      go_enter Try.func38, Try.ntmps38
      go_wp2_with (refine wpl_set_row hrow (n * 7 + 6) (.bool true) (by kernel_rfl) (by omega) rfl rfl rfl rfl rfl rfl ?_; intro w1 hown1 hg1; have h1 := HT.out w1 hown1 hg1; obtain ⟨b0, -, -, b3, -⟩ := h1.heads; have l2 : pg < w1.heap.size := Nat.lt_of_lt_of_le hpl hg1.size; have b0' := World.new_ne w1 _ b0; have b3' := World.new_ne w1 _ b3; obtain ⟨-, -, -, -, d4, d5, -⟩ := h1.cells (i := n) rfl HM.out; have l1 := h1.lt; have d4' := World.new_ne w1 _ d4; rw [hup] at d4; rw [← HOR.out] at d5; obtain ⟨e0, e1, e2, e3, e4, e5, e6⟩ := h1.cells (i := k) rfl HU.out; rw [hk2'] at e0)
      go_ret
      exact ⟨rfl, ⟨rs, by rw [HS.out.1]; exact h1.below (below_alloc (Below.refl _ _) _)⟩, (HB.out _ hg1).alloc h1.base_le _⟩
    · rw [if_pos rfl] at hF
      have HF := Lib.hid hF
      clear hF
      go_enter Try.func38, Try.ntmps38
      go_wp2_with (refine wpl_set_row hrow (n * 7 + 6) (.bool true) (by kernel_rfl) (by omega) rfl rfl rfl rfl rfl rfl ?_; intro w1 hown1 hg1; have h1 := HT.out w1 hown1 hg1; obtain ⟨b0, -, -, b3, -⟩ := h1.heads; have l2 : pg < w1.heap.size := Nat.lt_of_lt_of_le hpl hg1.size; have b0' := World.new_ne w1 _ b0; have b3' := World.new_ne w1 _ b3; obtain ⟨-, -, -, -, d4, d5, -⟩ := h1.cells (i := n) rfl HM.out; have l1 := h1.lt; have d4' := World.new_ne w1 _ d4; rw [hup] at d4; rw [← HOR.out] at d5; obtain ⟨e0, e1, e2, e3, e4, e5, e6⟩ := h1.cells (i := k) rfl HU.out; rw [hk2'] at e0)
      refine (ih _ k who q ps' q' a' _ yb base lv _ A Q D gs rs (h1.below (below_alloc (Below.refl _ _) _)) HS.out.2.1 (by rw [HS.out.2.2]; exact hN) HF.out).mono ?_
      rintro e w2 ⟨rfl, hY, hb2⟩
      have hbB := HB.out _ hg1
      clear d4 d5 b0 b3 e0 e1 e2 e3 e4 e5 e6 hown1 hg1 h1
      go_wp2
      go_ret
      exact ⟨rfl, hY, (hbB.alloc (Nat.le_trans (by omega) hbB.size) _).trans hb2⟩
  · rw [if_neg hk2] at hF
    have hk2' : ((u.kind : Int) == 2) = false := by rw [beq_eq_false_iff_ne]; omega
    rcases ha : (Stl.mark y.ps n)[u.left]? with _ | a
    · rw [ha] at hF; simp at hF
    rcases hb : (Stl.mark y.ps n)[u.right]? with _ | b
    · rw [ha, hb] at hF; simp at hF
    rw [ha, hb] at hF
    dsimp only at hF
    have hla := (List.getElem?_eq_some_iff.1 ha).1
    have hlb := (List.getElem?_eq_some_iff.1 hb).1
    rw [HS.out.2.2] at hla hlb
    have HA := Lib.hid ha
    have HB2 := Lib.hid hb
    have HK2 := Lib.hid hk2
    clear ha hb hk2
    obtain ⟨da, hda⟩ : ∃ da, da = a.done := ⟨_, rfl⟩
    obtain ⟨db, hdb⟩ : ∃ db, db = b.done := ⟨_, rfl⟩
    rw [← hda, ← hdb] at hF
    have HD := Lib.hid (And.intro hda hdb)
    clear hda hdb
    rcases da with _ | _
    · rw [if_neg (by simp)] at hF
      rcases onR with _ | _
      · rw [if_neg (by simp)] at hF
        have hwho := (List.getElem?_eq_some_iff.1 HS.out.2.1).1
        have hgl := h0.out.len1
        obtain ⟨qg, qc, rfl, hqle, hqm, hqb, hql⟩ := own_addr h0.out.qus (by omega)
        obtain ⟨g, r, hgw, hrw, hdq, hgb⟩ := h0.out.at_dq HS.out.2.1
        unfold maxLen at hqm
        have hwg : who < gs.length := by omega
        have HG := Lib.hid (And.intro hgw (And.intro hrw hgb))
        clear hgw hrw hgb hdq hgl hwho
        rcases hlast : q.getLast? with _ | j
        · rw [hlast] at hF
          cases hF
          have HQ := Lib.hid (show q = [] by simpa using hlast)
          clear hlast
          go_enter Try.func38, Try.ntmps38
          go_wp2_with (refine wpl_set_row hrow (n * 7 + 6) (.bool true) (by kernel_rfl) (by omega) rfl rfl rfl rfl rfl rfl ?_; intro w1 hown1 hg1; have h1 := HT.out w1 hown1 hg1; obtain ⟨b0, -, -, b3, -⟩ := h1.heads; have l2 : pg < w1.heap.size := Nat.lt_of_lt_of_le hpl hg1.size; have b0' := World.new_ne w1 _ b0; have b3' := World.new_ne w1 _ b3; obtain ⟨-, -, -, -, d4, d5, -⟩ := h1.cells (i := n) rfl HM.out; have l1 := h1.lt; have d4' := World.new_ne w1 _ d4; rw [hup] at d4; rw [← HOR.out] at d5; obtain ⟨e0, e1, e2, e3, e4, e5, e6⟩ := h1.cells (i := k) rfl HU.out; have la := (h1.cells (i := u.left) rfl HA.out).2.2.2.2.2.2; have lb := (h1.cells (i := u.right) rfl HB2.out).2.2.2.2.2.2; rw [← HD.out.1] at la; rw [← HD.out.2] at lb; have qcell := (h1.qus.cellAt who (by omega)).trans (ptrs_get _ _ _ HG.out.1); have qcell' : qg < w1.heap.size := World.block_lt_of_cell? w1 _ qcell)
          go_quiet (fail)
          go_wp2_with fail
          have h2 := h1.below (below_drewN (below_alloc (Below.refl w1.heap.size w1) (.cells #[Value.int .i64 u.kind, .int .i64 u.leaf, .int .i64 u.left, .int .i64 u.right, .int .i64 u.up, .bool u.onR, .bool u.done] 100)) nq)
          have hd := (h2.dq who g r q HG.out.1 HG.out.2.1 HS.out.2.1).1
          rw [HQ.out] at hd
          refine (pop_none g r _ hd).mono ?_
          rintro e w3 ⟨rfl, rfl⟩
          have hbB := HB.out _ hg1
          clear d4 d5 b0 b3 e0 e1 e2 e3 e4 e5 e6 hown1 hg1 h1 la lb hd qcell
          go_wp2
          go_ret
          exact ⟨rfl, ⟨rs, by rw [HS.out.1]; exact h2⟩, (hbB.alloc (Nat.le_trans (by omega) hbB.size) _).drewN _⟩
        · rw [hlast] at hF
          cases hF
          have HQ := Lib.hid (show q = q.dropLast ++ [j] by
            obtain ⟨l', hl'⟩ := List.getLast?_eq_some_iff.1 hlast
            rw [hl']; simp)
          clear hlast
          go_enter Try.func38, Try.ntmps38
          go_wp2_with (refine wpl_set_row hrow (n * 7 + 6) (.bool true) (by kernel_rfl) (by omega) rfl rfl rfl rfl rfl rfl ?_; intro w1 hown1 hg1; have h1 := HT.out w1 hown1 hg1; obtain ⟨b0, -, -, b3, -⟩ := h1.heads; have l2 : pg < w1.heap.size := Nat.lt_of_lt_of_le hpl hg1.size; have b0' := World.new_ne w1 _ b0; have b3' := World.new_ne w1 _ b3; obtain ⟨-, -, -, -, d4, d5, -⟩ := h1.cells (i := n) rfl HM.out; have l1 := h1.lt; have d4' := World.new_ne w1 _ d4; rw [hup] at d4; rw [← HOR.out] at d5; obtain ⟨e0, e1, e2, e3, e4, e5, e6⟩ := h1.cells (i := k) rfl HU.out; have la := (h1.cells (i := u.left) rfl HA.out).2.2.2.2.2.2; have lb := (h1.cells (i := u.right) rfl HB2.out).2.2.2.2.2.2; rw [← HD.out.1] at la; rw [← HD.out.2] at lb; have qcell := (h1.qus.cellAt who (by omega)).trans (ptrs_get _ _ _ HG.out.1); have qcell' : qg < w1.heap.size := World.block_lt_of_cell? w1 _ qcell)
          go_quiet (fail)
          go_wp2_with fail
          have h2 := h1.below (below_drewN (below_alloc (Below.refl w1.heap.size w1) (.cells #[Value.int .i64 u.kind, .int .i64 u.leaf, .int .i64 u.left, .int .i64 u.right, .int .i64 u.up, .bool u.onR, .bool u.done] 100)) nq)
          have hd := (h2.dq who g r q HG.out.1 HG.out.2.1 HS.out.2.1).1
          rw [HQ.out, List.map_append, List.map_cons, List.map_nil] at hd
          refine (pop_some g j _ r _ hd).mono ?_
          rintro e w3 ⟨rfl, hd3, hk3⟩
          have hbB := HB.out _ hg1
          have hb2 : Fr base w ((w1.alloc (.cells #[Value.int .i64 u.kind, .int .i64 u.leaf, .int .i64 u.left, .int .i64 u.right, .int .i64 u.up, .bool u.onR, .bool u.done] 100)).drewN nq) := (hbB.alloc (Nat.le_trans (by omega) hbB.size) _).drewN _
          have h3 := h2.deque HG.out.1 HG.out.2.1 (hk3.mono fun _ => .inl) hd3 (.inl rfl)
          have hb3 := hb2.trans (Fr.dq hd (hk3.mono fun _ => .inl) (Nat.le_trans hbw hb2.size) HG.out.2.2)
          have HE := Lib.hid (And.intro h3 hb3)
          clear d4 d5 b0 b3 e0 e1 e2 e3 e4 e5 e6 hown1 hg1 h1 la lb hd qcell h2 hd3 hk3 h3 hb3 hb2 hbB
          go_wp2
          go_ret
          exact ⟨rfl, ⟨_, HE.out.1⟩, HE.out.2⟩
      · rw [if_pos rfl] at hF
        cases hF
        go_enter Try.func38, Try.ntmps38
        go_wp2_with (refine wpl_set_row hrow (n * 7 + 6) (.bool true) (by kernel_rfl) (by omega) rfl rfl rfl rfl rfl rfl ?_; intro w1 hown1 hg1; have h1 := HT.out w1 hown1 hg1; obtain ⟨b0, -, -, b3, -⟩ := h1.heads; have l2 : pg < w1.heap.size := Nat.lt_of_lt_of_le hpl hg1.size; have b0' := World.new_ne w1 _ b0; have b3' := World.new_ne w1 _ b3; obtain ⟨-, -, -, -, d4, d5, -⟩ := h1.cells (i := n) rfl HM.out; have l1 := h1.lt; have d4' := World.new_ne w1 _ d4; rw [hup] at d4; rw [← HOR.out] at d5; obtain ⟨e0, e1, e2, e3, e4, e5, e6⟩ := h1.cells (i := k) rfl HU.out; have la := (h1.cells (i := u.left) rfl HA.out).2.2.2.2.2.2; have lb := (h1.cells (i := u.right) rfl HB2.out).2.2.2.2.2.2; rw [← HD.out.1] at la; rw [← HD.out.2] at lb)
        go_quiet (fail)
        go_wp2_with fail
        go_ret
        have hbB := HB.out _ hg1
        exact ⟨rfl, ⟨rs, by rw [HS.out.1]; exact h1.below (below_drewN (below_alloc (Below.refl _ _) _) _)⟩, (hbB.alloc (Nat.le_trans (by omega) hbB.size) _).drewN _⟩
    · rcases db with _ | _
      · rw [if_neg (by simp)] at hF
        rcases onR with _ | _
        · rw [if_neg (by simp)] at hF
          have hwho := (List.getElem?_eq_some_iff.1 HS.out.2.1).1
          have hgl := h0.out.len1
          obtain ⟨qg, qc, rfl, hqle, hqm, hqb, hql⟩ := own_addr h0.out.qus (by omega)
          obtain ⟨g, r, hgw, hrw, hdq, hgb⟩ := h0.out.at_dq HS.out.2.1
          unfold maxLen at hqm
          have hwg : who < gs.length := by omega
          have HG := Lib.hid (And.intro hgw (And.intro hrw hgb))
          clear hgw hrw hgb hdq hgl hwho
          rcases hlast : q.getLast? with _ | j
          · rw [hlast] at hF
            cases hF
            have HQ := Lib.hid (show q = [] by simpa using hlast)
            clear hlast
            go_enter Try.func38, Try.ntmps38
            go_wp2_with (refine wpl_set_row hrow (n * 7 + 6) (.bool true) (by kernel_rfl) (by omega) rfl rfl rfl rfl rfl rfl ?_; intro w1 hown1 hg1; have h1 := HT.out w1 hown1 hg1; obtain ⟨b0, -, -, b3, -⟩ := h1.heads; have l2 : pg < w1.heap.size := Nat.lt_of_lt_of_le hpl hg1.size; have b0' := World.new_ne w1 _ b0; have b3' := World.new_ne w1 _ b3; obtain ⟨-, -, -, -, d4, d5, -⟩ := h1.cells (i := n) rfl HM.out; have l1 := h1.lt; have d4' := World.new_ne w1 _ d4; rw [hup] at d4; rw [← HOR.out] at d5; obtain ⟨e0, e1, e2, e3, e4, e5, e6⟩ := h1.cells (i := k) rfl HU.out; have la := (h1.cells (i := u.left) rfl HA.out).2.2.2.2.2.2; have lb := (h1.cells (i := u.right) rfl HB2.out).2.2.2.2.2.2; rw [← HD.out.1] at la; rw [← HD.out.2] at lb; have qcell := (h1.qus.cellAt who (by omega)).trans (ptrs_get _ _ _ HG.out.1); have qcell' : qg < w1.heap.size := World.block_lt_of_cell? w1 _ qcell)
            go_quiet (fail)
            go_wp2_with fail
            have h2 := h1.below (below_drewN (below_alloc (Below.refl w1.heap.size w1) (.cells #[Value.int .i64 u.kind, .int .i64 u.leaf, .int .i64 u.left, .int .i64 u.right, .int .i64 u.up, .bool u.onR, .bool u.done] 100)) nq)
            have hd := (h2.dq who g r q HG.out.1 HG.out.2.1 HS.out.2.1).1
            rw [HQ.out] at hd
            refine (pop_none g r _ hd).mono ?_
            rintro e w3 ⟨rfl, rfl⟩
            have hbB := HB.out _ hg1
            clear d4 d5 b0 b3 e0 e1 e2 e3 e4 e5 e6 hown1 hg1 h1 la lb hd qcell
            go_wp2
            go_ret
            exact ⟨rfl, ⟨rs, by rw [HS.out.1]; exact h2⟩, (hbB.alloc (Nat.le_trans (by omega) hbB.size) _).drewN _⟩
          · rw [hlast] at hF
            cases hF
            have HQ := Lib.hid (show q = q.dropLast ++ [j] by
              obtain ⟨l', hl'⟩ := List.getLast?_eq_some_iff.1 hlast
              rw [hl']; simp)
            clear hlast
            go_enter Try.func38, Try.ntmps38
            go_wp2_with (refine wpl_set_row hrow (n * 7 + 6) (.bool true) (by kernel_rfl) (by omega) rfl rfl rfl rfl rfl rfl ?_; intro w1 hown1 hg1; have h1 := HT.out w1 hown1 hg1; obtain ⟨b0, -, -, b3, -⟩ := h1.heads; have l2 : pg < w1.heap.size := Nat.lt_of_lt_of_le hpl hg1.size; have b0' := World.new_ne w1 _ b0; have b3' := World.new_ne w1 _ b3; obtain ⟨-, -, -, -, d4, d5, -⟩ := h1.cells (i := n) rfl HM.out; have l1 := h1.lt; have d4' := World.new_ne w1 _ d4; rw [hup] at d4; rw [← HOR.out] at d5; obtain ⟨e0, e1, e2, e3, e4, e5, e6⟩ := h1.cells (i := k) rfl HU.out; have la := (h1.cells (i := u.left) rfl HA.out).2.2.2.2.2.2; have lb := (h1.cells (i := u.right) rfl HB2.out).2.2.2.2.2.2; rw [← HD.out.1] at la; rw [← HD.out.2] at lb; have qcell := (h1.qus.cellAt who (by omega)).trans (ptrs_get _ _ _ HG.out.1); have qcell' : qg < w1.heap.size := World.block_lt_of_cell? w1 _ qcell)
            go_quiet (fail)
            go_wp2_with fail
            have h2 := h1.below (below_drewN (below_alloc (Below.refl w1.heap.size w1) (.cells #[Value.int .i64 u.kind, .int .i64 u.leaf, .int .i64 u.left, .int .i64 u.right, .int .i64 u.up, .bool u.onR, .bool u.done] 100)) nq)
            have hd := (h2.dq who g r q HG.out.1 HG.out.2.1 HS.out.2.1).1
            rw [HQ.out, List.map_append, List.map_cons, List.map_nil] at hd
            refine (pop_some g j _ r _ hd).mono ?_
            rintro e w3 ⟨rfl, hd3, hk3⟩
            have hbB := HB.out _ hg1
            have hb2 : Fr base w ((w1.alloc (.cells #[Value.int .i64 u.kind, .int .i64 u.leaf, .int .i64 u.left, .int .i64 u.right, .int .i64 u.up, .bool u.onR, .bool u.done] 100)).drewN nq) := (hbB.alloc (Nat.le_trans (by omega) hbB.size) _).drewN _
            have h3 := h2.deque HG.out.1 HG.out.2.1 (hk3.mono fun _ => .inl) hd3 (.inl rfl)
            have hb3 := hb2.trans (Fr.dq hd (hk3.mono fun _ => .inl) (Nat.le_trans hbw hb2.size) HG.out.2.2)
            have HE := Lib.hid (And.intro h3 hb3)
            clear d4 d5 b0 b3 e0 e1 e2 e3 e4 e5 e6 hown1 hg1 h1 la lb hd qcell h2 hd3 hk3 h3 hb3 hb2 hbB
            go_wp2
            go_ret
            exact ⟨rfl, ⟨_, HE.out.1⟩, HE.out.2⟩
        · rw [if_pos rfl] at hF
          cases hF
          go_enter Try.func38, Try.ntmps38
          go_wp2_with (refine wpl_set_row hrow (n * 7 + 6) (.bool true) (by kernel_rfl) (by omega) rfl rfl rfl rfl rfl rfl ?_; intro w1 hown1 hg1; have h1 := HT.out w1 hown1 hg1; obtain ⟨b0, -, -, b3, -⟩ := h1.heads; have l2 : pg < w1.heap.size := Nat.lt_of_lt_of_le hpl hg1.size; have b0' := World.new_ne w1 _ b0; have b3' := World.new_ne w1 _ b3; obtain ⟨-, -, -, -, d4, d5, -⟩ := h1.cells (i := n) rfl HM.out; have l1 := h1.lt; have d4' := World.new_ne w1 _ d4; rw [hup] at d4; rw [← HOR.out] at d5; obtain ⟨e0, e1, e2, e3, e4, e5, e6⟩ := h1.cells (i := k) rfl HU.out; have la := (h1.cells (i := u.left) rfl HA.out).2.2.2.2.2.2; have lb := (h1.cells (i := u.right) rfl HB2.out).2.2.2.2.2.2; rw [← HD.out.1] at la; rw [← HD.out.2] at lb)
          go_quiet (fail)
          go_wp2_with fail
          go_ret
          have hbB := HB.out _ hg1
          exact ⟨rfl, ⟨rs, by rw [HS.out.1]; exact h1.below (below_drewN (below_alloc (Below.refl _ _) _) _)⟩, (hbB.alloc (Nat.le_trans (by omega) hbB.size) _).drewN _⟩
      · rw [if_pos (show (true && true) = true from rfl)] at hF
        have HF := Lib.hid hF
        clear hF
        go_enter Try.func38, Try.ntmps38
        go_wp2_with (refine wpl_set_row hrow (n * 7 + 6) (.bool true) (by kernel_rfl) (by omega) rfl rfl rfl rfl rfl rfl ?_; intro w1 hown1 hg1; have h1 := HT.out w1 hown1 hg1; obtain ⟨b0, -, -, b3, -⟩ := h1.heads; have l2 : pg < w1.heap.size := Nat.lt_of_lt_of_le hpl hg1.size; have b0' := World.new_ne w1 _ b0; have b3' := World.new_ne w1 _ b3; obtain ⟨-, -, -, -, d4, d5, -⟩ := h1.cells (i := n) rfl HM.out; have l1 := h1.lt; have d4' := World.new_ne w1 _ d4; rw [hup] at d4; rw [← HOR.out] at d5; obtain ⟨e0, e1, e2, e3, e4, e5, e6⟩ := h1.cells (i := k) rfl HU.out; have la := (h1.cells (i := u.left) rfl HA.out).2.2.2.2.2.2; have lb := (h1.cells (i := u.right) rfl HB2.out).2.2.2.2.2.2; rw [← HD.out.1] at la; rw [← HD.out.2] at lb)
        go_quiet (fail)
        go_wp2_with fail
        refine (ih _ k who q ps' q' a' _ yb base lv _ A Q D gs rs (h1.below (below_drewN (below_alloc (Below.refl _ _) _) _)) HS.out.2.1 (by rw [HS.out.2.2]; exact hN) HF.out).mono ?_
        rintro e w2 ⟨rfl, hY, hb2⟩
        have hbB := HB.out _ hg1
        clear d4 d5 b0 b3 e0 e1 e2 e3 e4 e5 e6 hown1 hg1 h1
        go_wp2
        go_ret
        exact ⟨rfl, hY, ((hbB.alloc (Nat.le_trans (by omega) hbB.size) _).drewN _).trans hb2⟩
theorem ended_any : ∀ (f : Nat) (y : Stl.Y) (n who : Nat) (q : List Nat) (ps' : List Stl.Part) (q' : List Nat) (a' : Int) (w : World) (yb base lv : Nat) (P A Q D : Value) (gs : List Nat) (rs : List (Option Nat)), YA w yb base y lv P A Q D gs rs → y.qs[who]? = some q → y.ps.length ≤ 1152921504606846976 → Stl.ended f y.ps q n = some (ps', q', a') →
      Calls Try.prog 38 #[.pointer (some ⟨yb, 0, none⟩), .int .i64 (who : Int), .int .i64 (n : Int)] w (EndPost w yb base lv y P A Q D gs who ps' q' a') := by
  intro f
  induction f with
  | zero => intro y n who q ps' q' a' w yb base lv P A Q D gs rs h hq hN hF; simp [Stl.ended] at hF
  | succ f ih => exact ended_step f ih
end Go.Proofs.Ytajddbmmbhdnfaa
