/-
  A region that draws its order, with marks and a tail: facts that outlive a mark, too. No program is named here.
-/
import Derived.Test.YtfjmhmfkhgjnhaaDoorOrP5
import Derived.Test.YtfjmhmfkhgjnhaaDoorOrP3
import Derived.Test.YtfjmhmfkhgjnhaaDoorOrP1
import Derived.Test.YtfjmhmfkhgjnhaaDoorOrP2
import Derived.Test.YtfjmhmfkhgjnhaaDoorOrP4
import Derived.Test.YtfjmhmfkhgjnhaaDoorShelf
import Derived.Test.YtfjmhmfkhgjnhaaDoorOrP6
import Derived.Laws.Bits64b
import Derived.BigQuiet
import Derived.Test.YtfjmhmfkhgjnhaaDoorSwP1

namespace Go.Proofs.YtfjmhmfkhgjnhaaDoor.Mt
set_option linter.unusedVariables false
set_option linter.unusedSimpArgs false
set_option maxRecDepth 100000

/-- the nodes from k on, each one before the one that it is paired with -/
def tl (ah : List Int) : Nat → Int → List Nat
  | 0, _ => []
  | f + 1, k => if k < 0 then [] else k.toNat :: tl ah f (ah.getD k.toNat (-1))
theorem tl_neg (ah : List Int) (f : Nat) {k : Int} (h : k < 0) : tl ah f k = [] := by cases f <;> simp [tl, h]
theorem tl_pos (ah : List Int) (f : Nat) (k : Nat) : tl ah (f + 1) (k : Int) = k :: tl ah f (ah.getD k (-1)) := by
  rw [tl, if_neg (by omega), Int.toNat_natCast]
theorem tl_length (ah : List Int) : ∀ (f : Nat) (k : Int), (tl ah f k).length ≤ f
  | 0, _ => Nat.le_refl _
  | f + 1, k => by
    rw [tl]
    split
    · simp
    · have := tl_length ah f (ah.getD k.toNat (-1))
      rw [List.length_cons]
      omega
/-- one chain for each node behind whom it is paired with nobody -/
def covW (ah bk : List Int) (N k : Nat) : List (List Nat) := ((List.range k).filter fun n => decide (bk.getD n (-1) < 0)).map fun (n : Nat) => tl ah N (n : Int)
theorem covW_zero (ah bk : List Int) (N : Nat) : covW ah bk N 0 = [] := rfl
theorem covW_yes {ah bk : List Int} {N k : Nat} (h : bk.getD k (-1) < 0) : covW ah bk N (k + 1) = covW ah bk N k ++ [tl ah N k] := by
  unfold covW
  rw [List.range_succ, List.filter_append, List.map_append, List.filter_cons, if_pos (by simpa using h)]
  rfl
theorem covW_no {ah bk : List Int} {N k : Nat} (h : ¬ bk.getD k (-1) < 0) : covW ah bk N (k + 1) = covW ah bk N k := by
  unfold covW
  rw [List.range_succ, List.filter_append, List.map_append, List.filter_cons, if_neg (by simpa using h)]
  simp
theorem covW_length (ah bk : List Int) (N k : Nat) : (covW ah bk N k).length ≤ k := by
  unfold covW
  rw [List.length_map]
  have := List.length_filter_le (fun n => decide (bk.getD n (-1) < 0)) (List.range k)
  rwa [List.length_range] at this
end Go.Proofs.YtfjmhmfkhgjnhaaDoor.Mt


namespace Go.Proofs.YtfjmhmfkhgjnhaaDoor
set_option linter.unusedVariables false
set_option linter.unusedSimpArgs false
set_option maxRecDepth 100000
open Go.RowKit

theorem info_sint_cv : (Tryd.prog.info? 26).map (fun i => (i.zero, i.size, i.bytes)) = some (some (.slice none 0 0), 1, 24) := by kernel_rfl
theorem info_int_cv : (Tryd.prog.info? 3).map (fun i => (i.zero, i.size, i.bytes)) = some (some (.int .i64 0), 1, 8) := by kernel_rfl

/-- a slice of slices of nodes, of the call's own -/
def RowsI (w : World) (B : Nat) (u : Value) (cs : List (List Nat)) : Prop := ∃ os, w.ownsRow B 26 1 u cs.length os ∧ ∀ (i : Nat) (o : Value) (s : List Nat), os[i]? = some o → cs[i]? = some s → w.ownsRow B 3 1 o s.length (ilist s)
theorem RowsI.nil (w : World) (B : Nat) : RowsI w B (.slice none 0 0) [] := ⟨[], World.ownsRow_nil _ _ _ _, fun i o s h => by simp at h⟩
theorem RowsI.below {w w' : World} {B : Nat} {u : Value} {cs : List (List Nat)} (h : RowsI w B u cs) (hb : Below w.heap.size w w') : RowsI w' B u cs := by
  obtain ⟨os, h1, h2⟩ := h
  exact ⟨os, own_keeps h1 (Keeps.of_below hb (fun _ => False)) (fun _ _ => id), fun i o s ho hs => own_keeps (h2 i o s ho hs) (Keeps.of_below hb (fun _ => False)) (fun _ _ => id)⟩
theorem RowsI.base {w : World} {B B' : Nat} {u : Value} {cs : List (List Nat)} (h : RowsI w B u cs) (hb : B' ≤ B) : RowsI w B' u cs := by
  obtain ⟨os, h1, h2⟩ := h
  exact ⟨os, own_base h1 hb, fun i o s ho hs => own_base (h2 i o s ho hs) hb⟩
theorem RowsI.push {w w' : World} {B : Nat} {u o v' : Value} {cs : List (List Nat)} {s : List Nat} {os : List Value} (h1 : w.ownsRow B 26 1 u cs.length os) (h2 : ∀ (i : Nat) (o : Value) (s : List Nat), os[i]? = some o → cs[i]? = some s → w.ownsRow B 3 1 o s.length (ilist s))
    (ho : w.ownsRow B 3 1 o s.length (ilist s)) (hv : w'.ownsRow B 26 1 v' (cs.length + 1) (os ++ [o])) (hg : w.grownBy w' u.ownBlock) : RowsI w' B v' (cs ++ [s]) := by
  have hl : os.length = cs.length := by have := h1.1; omega
  have kp : Keeps (fun k => some k = u.ownBlock) w w' := Keeps.of_grown hg
  have hk : ∀ (o : Value) (s : List Nat), w.ownsRow B 3 1 o s.length (ilist s) → w'.ownsRow B 3 1 o s.length (ilist s) := fun o s h => own_keeps h kp fun g hg he => own_own_ne h h1 (by decide) hg he.symm
  refine ⟨os ++ [o], by rw [List.length_append]; exact hv, fun i x t hx ht => ?_⟩
  by_cases hi : i < os.length
  · rw [List.getElem?_append_left hi] at hx
    rw [List.getElem?_append_left (by omega)] at ht
    exact hk x t (h2 i x t hx ht)
  · rw [List.getElem?_append_right (by omega)] at hx
    rw [List.getElem?_append_right (by omega)] at ht
    have hi0 : i - os.length = 0 := by
      have := (List.getElem?_eq_some_iff.1 hx).1
      simp at this
      omega
    rw [hi0] at hx
    rw [show i - cs.length = 0 by omega] at ht
    simp only [List.getElem?_cons_zero, Option.some.injEq] at hx ht
    subst hx ht
    exact hk o s ho

set_option maxRecDepth 100000 in
set_option maxHeartbeats 8000000 in
theorem cover_yes (N : Nat) (B : List (List Nat)) (w : World) (A : Option Addr) (l c : Nat) (hN : N ≤ 200) (hBl : B.length = N) (hB : ∀ s ∈ B, Bs.Gs N s) (hT : Tab w) (rk : ∃ r : Nat → Nat, (∀ a b, a < N → b < N → b ∈ Mt.nbW B a → r a < r b) ∧ ∀ x, x < N → r x < N)
    (hbeh : ∀ w', Below w.heap.size w w' → Calls Tryd.prog 35 #[.agg #[.int .i64 (N : Int), .slice A l c]] w' fun e w'' => ∃ v, e = .returned (.tuple #[v, .int .i64 0]) ∧ SlW w'' v B ∧ Below w'.heap.size w' w'') :
    Calls Tryd.prog 30 #[.agg #[.int .i64 (N : Int), .slice A l c]] w fun e w' => ∃ u, e = .returned (.tuple #[u, .int .i64 0]) ∧ RowsI w' w.heap.size u (Mt.covW (Mt.prW B N N).1 (Mt.prW B N N).2 N N) ∧ Below w.heap.size w w' := by
  obtain ⟨r, hr1, hr2⟩ := rk
  obtain ⟨ah, hah⟩ : ∃ a, a = (Mt.prW B N N).1 := ⟨_, rfl⟩
  obtain ⟨bk, hbk⟩ : ∃ a, a = (Mt.prW B N N).2 := ⟨_, rfl⟩
  rw [← hah, ← hbk]
  have x0 := Blk.new w 24 [.int .i64 (N : Int), .slice A l c]
  have hb0 : Below w.heap.size w (w.alloc (.cells #[.int .i64 (N : Int), .slice A l c] 24)) := below_alloc (Below.refl _ _) _
  obtain ⟨q, hq⟩ : ∃ q, q = w.heap.size := ⟨_, rfl⟩
  go_enter Tryd.func30, Tryd.ntmps30
  go_upto_region 1 with (fail)
  generalize (w.alloc (.cells #[.int .i64 (N : Int), .slice A l c] 24)) = W0 at x0 hb0 ⊢
  rw [← hq] at x0 ⊢
  have HQ := Lib.hid hq
  clear hq
  have d0 : W0.cell? ⟨q, 0, none⟩ = some (.int .i64 (N : Int)) := (x0.cell 0).trans rfl
  have d1 : W0.cell? ⟨q, 1, none⟩ = some (.slice A l c) := (x0.cell 1).trans rfl
  go_wp2_with fail
  refine (hbeh W0 hb0).mono ?_
  rintro e w1 ⟨v, rfl, hv, hb1⟩
  have x1 := x0.below hb1
  have hb01 := below_next hb1 hb0
  obtain ⟨A', c', rfl⟩ : ∃ A' c', v = .slice A' N c' := by
    obtain ⟨os, ⟨A', c', e, -⟩, -⟩ := hv
    rw [hBl] at e
    exact ⟨_, _, e⟩
  have hT1 := hT.later hT.lt hb01
  clear d0 d1 x0 hbeh hb1 hb0
  go_wp2_with fail
  refine (match_any N hN B hBl hB w1 hT1 A' c' hv).mono ?_
  rintro e w2 ⟨gm, ga, gk, rfl, M2, -, hb2⟩
  have x2 := x1.below hb2
  have hb02 := below_next hb2 hb01
  have hval := (Mt.prW_best hB (Nat.le_refl N)).val
  obtain ⟨hAu, hBu⟩ := Mt.val_up hval
  rw [← hah, ← hbk] at M2 hval
  rw [← hah] at hAu
  rw [← hbk] at hBu
  have k0 : w2.cell? ⟨q, 0, none⟩ = some (.int .i64 (N : Int)) := (x2.cell 0).trans rfl
  have hnl : ∀ y, ah.getD y (-1) = -1 ∨ ∃ k : Nat, ah.getD y (-1) = (k : Int) := Mt.neg_of hval.lowA
  have cM : ∀ w', Below w2.heap.size w2 w' → w'.cell? ⟨gm, 1, none⟩ = some (.slice (some ⟨ga, 0, none⟩) N N) ∧ w'.cell? ⟨gm, 2, none⟩ = some (.slice (some ⟨gk, 0, none⟩) N N) ∧ (∀ y, y < N → w'.cell? ⟨ga, y, none⟩ = some (.int .i64 (ah.getD y (-1)))) ∧ ∀ y, y < N → w'.cell? ⟨gk, y, none⟩ = some (.int .i64 (bk.getD y (-1))) := fun w' hb =>
    ⟨(((M2.below hb).m).cell 1).trans rfl, (((M2.below hb).m).cell 2).trans rfl, fun y hy => (((M2.below hb).ah).cell y).trans (ints_at (by have := hval.lenA; omega)), fun y hy => (((M2.below hb).bk).cell y).trans (ints_at (by have := hval.lenB; omega))⟩
  have hstep : ∀ y k : Nat, y < N → ah.getD y (-1) = (k : Int) → k < N ∧ r y < r k := fun y k hy h => by
    obtain ⟨h1, h2, -⟩ := hval.fw y k hy h
    exact ⟨h1, hr1 y k hy h1 h2⟩
  have HC := Lib.hid (And.intro cM (And.intro hstep (And.intro hnl (And.intro hr2 hb02))))
  clear hah hbk hval hAu hBu M2 x1 x2 cM hstep hnl hr1 hr2 hb01 hb02 hb2 hT1 hv hB hT
  go_wp2_with fail
  go_loopw [7, 23] (fun out i wr => ∃ k : Nat, k ≤ N ∧ i = .int .i64 (k : Int) ∧ RowsI wr w2.heap.size out (Mt.covW ah bk N k) ∧ Below w2.heap.size w2 wr) (fun _ i _ => N - (intOf i).toNat)
  case atStart => exact ⟨0, Nat.zero_le _, rfl, RowsI.nil _ _, Below.refl _ _⟩
  case round =>
    clear k0
    obtain ⟨n, hn, rfl, hR, hb⟩ := hrel
    by_cases hlt : n < N
    · obtain ⟨cA, cB, cAh, cBk⟩ := HC.out.1 wr hb
      have cn := cBk n hlt
      have hcl := Mt.covW_length ah bk N n
      have hyes := Mt.covW_yes (ah := ah) (bk := bk) (N := N) (k := n)
      have hno := Mt.covW_no (ah := ah) (bk := bk) (N := N) (k := n)
      obtain ⟨b, hbe⟩ : ∃ b, b = bk.getD n (-1) := ⟨_, rfl⟩
      rw [← hbe] at cn hyes hno
      have HR := Lib.hid (And.intro hR (And.intro hyes hno))
      clear hR hyes hno hbe cAh cBk
      rcases h0 : decide (0 ≤ b) with _ | _
      · have hb0 := of_decide_eq_false h0
        go_wp2_with fail
        clear cn
        obtain ⟨wo, rfl⟩ : ∃ wo : World, wo = wr := ⟨_, rfl⟩
        go_loopw [9, 10] (fun l k wr => ∃ (kv : Int) (pre : List Nat) (f : Nat), k = .int .i64 kv ∧ wr.ownsRow wo.heap.size 3 1 l pre.length (ilist pre) ∧ pre ++ Mt.tl ah f kv = Mt.tl ah N n ∧ (0 ≤ kv → kv < N ∧ N ≤ f + r kv.toNat) ∧ Below wo.heap.size wo wr) (fun _ k _ => if intOf k < 0 then 0 else N - r (intOf k).toNat)
        case atStart => exact ⟨(n : Int), [], N, rfl, World.ownsRow_nil _ _ _ _, by simp, fun _ => ⟨by omega, by omega⟩, Below.refl _ _⟩
        case round =>
          clear cA cB
          obtain ⟨kv, pre, f, rfl, hown, hpt, hkv, hbi⟩ := hrel
          have hb2 := hb.trans (hbi.mono hb.size)
          have hpl : pre.length ≤ N := by
            have h1 := congrArg List.length hpt
            have h2 := Mt.tl_length ah N n
            rw [List.length_append] at h1
            omega
          obtain ⟨Al, cl, rfl, -, -⟩ := own_slice hown
          rcases hk0 : decide (0 ≤ kv) with _ | _
          · have hk0' := of_decide_eq_false hk0
            rw [Mt.tl_neg ah f (by omega), List.append_nil] at hpt
            obtain ⟨os, q1, q2⟩ := HR.out.1.below hbi
            have hown2 := own_base hown hb.size
            have hsz2 := hb2.size
            obtain ⟨pl, hple⟩ : ∃ x, x = pre.length := ⟨_, rfl⟩
            obtain ⟨M, hM⟩ : ∃ x, x = (Mt.covW ah bk N n).length := ⟨_, rfl⟩
            have HM := Lib.hid (And.intro q1 (And.intro q2 (And.intro hown2 (And.intro hpt (And.intro hple hM)))))
            rw [← hM] at q1 hcl
            rw [← hple]
            have HL := Lib.hid (show M + 1 ≤ maxLen ∧ (M + 1) * 24 ≤ 140737488355328 by unfold maxLen; omega)
            clear q2 hown2 hpt hown hkv hM hple hpl
            go_wp2_with (first
              | (at_builtin; refine wp_push_at _ _ _ _ (by first | rfl | simp) _ _ _ _ _ _ Tryd.underlying49 info_sint_cv rfl (by decide) q1 [.slice Al pl cl] rfl (by simp [Value.oneCell']) HL.out.1 HL.out.2 hsz2 rfl rfl rfl rfl ?_; intro v7 w7 hr7 hg7 hv7 hb7)
              | fail)
            obtain ⟨q1', q2, hown2, hpt, hple, hM⟩ := HM.out
            have hb27 := hb2.trans hb7
            have hRn : RowsI w7 w2.heap.size v7 (Mt.covW ah bk N (n + 1)) := by
              rw [HR.out.2.1 (by omega), ← hpt]
              rw [← hple] at hown2
              rw [hM] at hr7
              exact RowsI.push q1' q2 (by rw [hple] at hown2 ⊢; exact hown2) hr7 hg7
            have HF := Lib.hid hRn
            clear hRn hr7 hg7 hv7 hb7 q1 q1' q2 hown2 hpt hple hM
            go_roundw
            case rel => exact ⟨n + 1, by omega, by go_num, HF.out, hb27⟩
            case measure => simp [intOf]; omega
          · have hk0' := of_decide_eq_true hk0
            obtain ⟨k, rfl⟩ := Int.eq_ofNat_of_zero_le hk0'
            obtain ⟨hkN, hfr⟩ := hkv hk0'
            rw [Int.toNat_natCast] at hfr
            have hkN : k < N := by omega
            have hrk := HC.out.2.2.2.1 k hkN
            obtain ⟨f', rfl⟩ : ∃ f', f = f' + 1 := ⟨f - 1, by omega⟩
            rw [Mt.tl_pos] at hpt
            obtain ⟨M, hM⟩ : ∃ x, x = pre.length := ⟨_, rfl⟩
            rw [← hM] at hown hpl ⊢
            have hsz := hbi.size
            have HL := Lib.hid (show M + 1 ≤ maxLen ∧ (M + 1) * 8 ≤ 140737488355328 by unfold maxLen; omega)
            have HM := Lib.hid (And.intro hpt (And.intro hfr hM))
            clear hpt hfr hM hkv
            go_upto_region 13 with (first
              | (at_builtin; refine wp_push_at _ _ _ _ (by first | rfl | simp) _ _ _ _ _ _ Tryd.underlying26 info_int_cv rfl (by decide) hown [.int .i64 (k : Int)] rfl (by simp [Value.oneCell']) HL.out.1 HL.out.2 hsz rfl rfl rfl rfl ?_; intro v7 w7 hr7 hg7 hv7 hb7)
              | fail)
            have hbi7 := hbi.trans hb7
            have hb27 := hb2.trans (hb7.mono hb.size)
            obtain ⟨cA, cB, cAh, -⟩ := HC.out.1 w7 hb27
            have ca := cAh k hkN
            obtain ⟨k2, hk2⟩ : ∃ x, x = ah.getD k (-1) := ⟨_, rfl⟩
            rw [← hk2] at ca
            have HK := Lib.hid hk2
            clear hown hg7 hv7 hb7 cAh cB hk2
            go_wp2_with fail
            obtain ⟨hpt, hfr, hM⟩ := HM.out
            rw [← HK.out] at hpt
            have hk2 := HC.out.2.2.1 k
            rw [← HK.out] at hk2
            have hst := HC.out.2.1 k
            rw [← HK.out] at hst
            go_roundw
            case rel =>
              refine ⟨k2, pre ++ [k], f', rfl, ?_, by rw [← hpt, List.append_assoc]; rfl, fun h => ?_, hbi7⟩
              · rw [List.length_append, ← hM]
                have : ilist (pre ++ [k]) = ilist pre ++ [.int .i64 (k : Int)] := by simp [ilist, ints]
                rw [this]
                exact hr7
              · rcases hk2 with h2 | ⟨j, h2⟩
                · omega
                · subst h2
                  obtain ⟨h3, h4⟩ := hst j hkN rfl
                  rw [Int.toNat_natCast]
                  omega
            case measure =>
              rw [show intOf (.int .i64 k2) = k2 from rfl, show intOf (.int .i64 (k : Int)) = (k : Int) from rfl, if_neg (show ¬ (k : Int) < 0 by omega), Int.toNat_natCast]
              split
              · omega
              · rcases hk2 with h2 | ⟨j, h2⟩
                · omega
                · subst h2
                  obtain ⟨h3, h4⟩ := hst j hkN rfl
                  rw [Int.toNat_natCast]
                  omega
      · have hb0 := of_decide_eq_true h0
        go_wp2_with fail
        go_roundw
        case rel => exact ⟨n + 1, by omega, by go_num, by rw [HR.out.2.2 (by omega)]; exact HR.out.1, hb⟩
        case measure => simp [intOf]; omega
    · have hne : n = N := by omega
      subst hne
      obtain ⟨os, q1, -⟩ := id hR
      obtain ⟨Au, cu, rfl, -, -⟩ := own_slice q1
      have hb02 := HC.out.2.2.2.2
      have hF := hR.base hb02.size
      have hbw := below_next hb hb02
      have HF := Lib.hid (And.intro hF hbw)
      clear hR q1 hF hbw hb02 hb
      go_wp2_with fail
      go_ret2
      exact ⟨_, rfl, HF.out⟩
end Go.Proofs.YtfjmhmfkhgjnhaaDoor


namespace Go.Proofs.YtfjmhmfkhgjnhaaDoor
set_option linter.unusedVariables false
set_option linter.unusedSimpArgs false
set_option maxRecDepth 100000
open Go.RowKit Go.Shelf

theorem fn_and : Fn2 60 Bs.fand where
  ent := enters_of Tryd.func60 (by kernel_rfl) rfl
  lt := fun _ _ ha _ => Bs.fand_lt ha
  run := fun w a b ha hb => by
    have h := bits_and_u64_nat a b ha hb
    have H := Lib.hid h
    clear h
    go_enter Tryd.func60, Tryd.ntmps60
    go_wp2
    go_ret
    exact ⟨ret_int H.out, rfl⟩
theorem and_any (w : World) (v v' : Value) (xs ys : List Nat) (h : SlU w v xs) (h' : SlU w v' ys) (hr : xs.length ≤ 17592186044416) (hr' : ys.length ≤ 17592186044416) :
    Calls Tryd.prog 38 #[v, v'] w fun e w' => ∃ u, e = .returned u ∧ SlU w' u (Bs.op Bs.fand xs ys) ∧ Below w.heap.size w w' := by
  have hz := zip_any _ _ fn_and w v v' xs ys h h' hr hr'
  obtain ⟨A, c, rfl⟩ := slU_form h
  obtain ⟨A', c', rfl⟩ := slU_form h'
  clear h h'
  go_enter Tryd.func38, Tryd.ntmps38
  go_wp2_with fail
  refine hz.mono ?_
  rintro e w1 ⟨u, rfl, hu, hb⟩
  obtain ⟨U, uc, rfl⟩ := slU_form hu
  have HU := Lib.hid (And.intro hu hb)
  clear hz hu hb
  go_wp2
  go_ret
  exact ⟨_, rfl, HU.out⟩
end Go.Proofs.YtfjmhmfkhgjnhaaDoor


namespace Go.Proofs.YtfjmhmfkhgjnhaaDoor
set_option linter.unusedVariables false
set_option linter.unusedSimpArgs false
set_option maxRecDepth 100000
open Go.RowKit

def Bs.has (x : Int) (xs : List Int) : Bool := xs.any (fun y => x == y)
theorem index_i64 (v : Value) (xs : List Int) (s : Int) (w : World) (h : SlV w 1 v xs.length (ints .i64 xs)) :
    Calls Tryd.prog 32 #[v, .int .i64 s] w fun e w' => (∃ z : Int, e = .returned (.int .i64 z) ∧ decide (0 ≤ z) = Bs.has s xs) ∧ ∃ m, w' = w.drewN m := by
  obtain ⟨A, c, rfl, hle, hm, hlen, hc⟩ := h
  clear hlen
  unfold maxLen at hm
  go_enter Tryd.func32, Tryd.ntmps32
  go_wp2
  go_loopw [8] (fun i wr => ∃ k : Nat, k ≤ xs.length ∧ i = .int .i64 k ∧ (∃ a, wr = w.drewN a) ∧ (xs.take k).any (fun x => s == x) = false) (fun i _ => xs.length - (intOf i).toNat)
  case atStart => exact ⟨0, Nat.zero_le _, rfl, ⟨0, rfl⟩, rfl⟩
  case round =>
    obtain ⟨k, hk, rfl, ⟨a, rfl⟩, ht⟩ := hrel
    have HT := Lib.hid ht
    clear ht
    by_cases hlt : k < xs.length
    · obtain ⟨b, o, x, rfl, hb, hx, hcc⟩ := hc.one hlt
      have HX := Lib.hid hx.out
      clear hc hx
      rcases hq : (s == x) with _ | _
      · go_wp2
        go_roundw
        case rel => exact ⟨k + 1, by omega, by go_num, ⟨_, rfl⟩, by
          obtain ⟨h', hx'⟩ := List.getElem?_eq_some_iff.1 HX.out
          rw [List.take_succ_eq_append_getElem h', List.any_append, HT.out, hx']
          simp [hq]⟩
        case measure => simp [intOf]; omega
      · go_wp2
        go_ret
        exact ⟨⟨_, rfl, by
          have : Bs.has s xs = true := List.any_eq_true.2 ⟨x, List.mem_of_getElem? HX.out, hq⟩
          rw [this]
          simp⟩, ⟨_, rfl⟩⟩
    · have HK := Lib.hid (show k = xs.length by omega)
      clear hc
      go_wp2
      go_ret
      exact ⟨⟨_, rfl, by
        have := HT.out
        rw [HK.out, List.take_length] at this
        show _ = Bs.has s xs
        unfold Bs.has
        rw [this]
        rfl⟩, ⟨_, rfl⟩⟩

theorem contains_i64 (v : Value) (xs : List Int) (s : Int) (w : World) (h : SlV w 1 v xs.length (ints .i64 xs)) :
    Calls Tryd.prog 36 #[v, .int .i64 s] w fun e w' => e = .returned (.bool (Bs.has s xs)) ∧ ∃ m, w' = w.drewN m := by
  have hi := index_i64 v xs s w h
  obtain ⟨A, c, rfl, hle, hm, hlen, hc⟩ := h
  clear hlen hc hm hle
  go_enter Tryd.func36, Tryd.ntmps36
  go_wp2_with fail
  refine hi.mono ?_
  rintro e w1 ⟨⟨z, rfl, hz⟩, m, rfl⟩
  have HZ := Lib.hid hz
  clear hz hi
  go_wp2
  go_ret
  exact ⟨ret_bool HZ.out, m, rfl⟩
end Go.Proofs.YtfjmhmfkhgjnhaaDoor


namespace Go.Proofs.YtfjmhmfkhgjnhaaDoor
set_option linter.unusedVariables false
set_option linter.unusedSimpArgs false
set_option maxRecDepth 100000
open Go.RowKit

theorem slV_take (w : World) (A : Option Addr) (c k : Nat) (l : List Int) (h : SlV w 1 (.slice A l.length c) l.length (ints .i64 l)) (hk : k ≤ l.length) : SlV w 1 (.slice A k c) (l.take k).length (ints .i64 (l.take k)) := by
  have := h.takeV k hk
  rw [Nat.mul_one] at this
  have e : (ints .i64 l).take k = ints .i64 (l.take k) := by simp [ints, List.map_take]
  rw [e] at this
  rw [List.length_take, Nat.min_eq_left hk]
  exact this
theorem has_take (x : Int) (l : List Int) : Bs.has x l = true ↔ x ∈ l := by
  unfold Bs.has
  simp [List.any_eq_true]

/-- nodes, unlike each other -/
def Gr.ApN (N : Nat) (l : List Int) (k : Nat) : Prop := ∀ j x, j < k → l[j]? = some x → 0 ≤ x ∧ x < (N : Int) ∧ x ∉ l.take j
/-- none behind another one -/
def Gr.ApB (B : List (List Nat)) (l : List Int) (k : Nat) : Prop := ∀ j x, j < k → l[j]? = some x → Bs.op Bs.fand (Bs.of_ l) (B.getD x.toNat []) = []

set_option maxRecDepth 20000 in
set_option maxHeartbeats 8000000 in
theorem apart_yes (N : Nat) (B : List (List Nat)) (l : List Int) (w : World) (A Al : Option Addr) (n c cl : Nat) (hN : N ≤ 200) (hBl : B.length = N) (hBr : ∀ s ∈ B, Bs.Gs N s) (hl : SlV w 1 (.slice Al l.length cl) l.length (ints .i64 l))
    (hbeh : ∀ w', Below w.heap.size w w' → Calls Tryd.prog 35 #[.agg #[.int .i64 (N : Int), .slice A n c]] w' fun e w'' => ∃ v, e = .returned (.tuple #[v, .int .i64 0]) ∧ SlW w'' v B ∧ Below w'.heap.size w' w'') :
    Calls Tryd.prog 13 #[.agg #[.int .i64 (N : Int), .slice A n c], .slice Al l.length cl] w fun e w' => ∃ b, e = .returned (.bool b) ∧ (b = true ↔ Gr.ApN N l l.length ∧ Gr.ApB B l l.length) ∧ Below w.heap.size w w' := by
  have hba : Below w.heap.size w (w.alloc (.cells #[.int .i64 (N : Int), .slice A n c] 24)) := below_alloc (Below.refl _ _) _
  have x0 := Blk.new w 24 [.int .i64 (N : Int), .slice A n c]
  have hbe0 := hbeh _ hba
  have hlm : l.length ≤ cl ∧ cl ≤ 9223372036854775807 := by
    obtain ⟨A', c', e, h1, h2, -⟩ := hl
    injection e with e1 e2 e3
    subst e3
    unfold maxLen at h2
    exact ⟨h1, by omega⟩
  obtain ⟨hlc, hcm⟩ := hlm
  obtain ⟨q, hq⟩ : ∃ q, q = w.heap.size := ⟨_, rfl⟩
  go_enter Tryd.func13, Tryd.ntmps13
  go_upto_region 1 with (fail)
  generalize (w.alloc (.cells #[.int .i64 (N : Int), .slice A n c] 24)) = W0 at x0 hba hbe0 ⊢
  rw [← hq] at x0 ⊢
  have HQ := Lib.hid hq
  clear hq hbeh
  have d0 : W0.cell? ⟨q, 0, none⟩ = some (.int .i64 (N : Int)) := (x0.cell 0).trans rfl
  have d1 : W0.cell? ⟨q, 1, none⟩ = some (.slice A n c) := (x0.cell 1).trans rfl
  go_wp2_with fail
  refine hbe0.mono ?_
  rintro _ w1 ⟨v, rfl, hS, hb1⟩
  obtain ⟨os, hos, hrow⟩ := hS
  obtain ⟨Ab, cb, rfl, hcb, hcbm, hosl, hcc⟩ := hos
  have x1 := x0.below hb1
  have hb01 := below_next hb1 hba
  have hl1 := hl.below hb01
  have hosN : os.length = N := by omega
  have hcell1 : ∀ m, m < N → ∃ g o u, Ab = some ⟨g, o, none⟩ ∧ g < w1.heap.size ∧ w1.cell? ⟨g, o + m, none⟩ = some u ∧ SlU w1 u (B.getD m []) ∧ (B.getD m []).length ≤ 1024 := fun m hm => by
    obtain ⟨g, o, rfl, hg, hc⟩ := hcc.at_ (fun e => by rw [e] at hosN; simp at hosN; omega)
    have hu : os[m]? = some os[m] := List.getElem?_eq_getElem (by omega)
    have hs : B[m]? = some (B.getD m []) := by rw [List.getD_eq_getElem?_getD, List.getElem?_eq_getElem (by omega)]; rfl
    exact ⟨g, o, _, rfl, hg, hc m _ hu, hrow m _ _ hu hs, by have := (hBr _ (List.mem_of_getElem? hs)).length; omega⟩
  have hBN : B.length = N := hBl
  have HR := Lib.hid hcell1
  unfold maxLen at hcbm
  clear hcell1 hrow hcc hosl hosN d0 d1 x0 hba hb1 hbe0 hBr hl
  go_wp2_with fail
  go_loopw [21] (fun i wr => ∃ k : Nat, k ≤ l.length ∧ i = .int .i64 (k : Int) ∧ Gr.ApN N l k ∧ Below w1.heap.size w1 wr) (fun i _ => l.length - (intOf i).toNat)
  case atStart => exact ⟨0, Nat.zero_le _, rfl, fun j x h => by omega, Below.refl _ _⟩
  case round =>
    obtain ⟨k, hk, rfl, hpre, hb⟩ := hrel
    have HP := Lib.hid hpre
    clear hpre
    by_cases hlt : k < l.length
    · obtain ⟨x, hx⟩ : ∃ x, l[k]? = some x := ⟨_, List.getElem?_eq_getElem hlt⟩
      have hlr := hl1.below hb
      have hbw := below_next hb hb01
      obtain ⟨A', c', he, -, -, -, hcr⟩ := id hlr
      injection he with e1 e2 e3
      subst e1 e3
      clear e2
      have hx' : (ints .i64 l)[k]? = some (.int .i64 x) := by simp [ints, hx]
      obtain ⟨gl, ol, rfl, hgl, hcl⟩ := hcr.at_ (fun e => by rw [e] at hx'; simp at hx')
      have cx := hcl k _ hx'
      have hTk := slV_take wr _ cl k l hlr hk
      have k0 : wr.cell? ⟨q, 0, none⟩ = some (.int .i64 (N : Int)) := ((x1.below hb).cell 0).trans rfl
      have hbad : (¬ (0 ≤ x ∧ x < (N : Int) ∧ x ∉ l.take k)) → (false = true ↔ Gr.ApN N l l.length ∧ Gr.ApB B l l.length) := fun h => ⟨fun h2 => (by cases h2), fun h' => absurd (h'.1 k x hlt hx) h⟩
      have hgood : (0 ≤ x ∧ x < (N : Int) ∧ x ∉ l.take k) → Gr.ApN N l (k + 1) := fun h j y hj hy => by
        by_cases hjk : j < k
        · exact HP.out j y hjk hy
        · have : j = k := by omega
          subst this
          rw [hx] at hy
          injection hy with hy
          subst hy
          exact h
      have HG := Lib.hid (And.intro hbad hgood)
      clear hbad hgood hx' hcl hcr hlr
      have hTk' := hTk
      clear x1
      rcases hn0 : decide (x < 0) with _ | _
      · rcases hnN : decide ((N : Int) ≤ x) with _ | _
        · rcases hh : Bs.has x (l.take k) with _ | _
          · have HH := Lib.hid hh
            clear hh
            go_wp2_with fail
            refine (contains_i64 _ (l.take k) x _ hTk').mono ?_
            rw [HH.out]
            rintro e w6 ⟨rfl, m, rfl⟩
            have hbm := below_drewN (Below.refl wr.heap.size wr) m
            have hb' := hb.trans (below_drewN (below_drewN (Below.refl wr.heap.size wr) m) 0 |>.mono hb.size)
            clear k0 cx
            go_wp2_with fail
            go_roundw
            case rel => exact ⟨k + 1, by omega, by go_num, HG.out.2 ⟨by have := of_decide_eq_false hn0; omega, by have := of_decide_eq_false hnN; omega, fun h => by rw [(has_take x _).2 h] at HH; exact absurd HH.out (by simp)⟩, hb'⟩
            case measure => simp [intOf]; omega
          · have HH := Lib.hid hh
            clear hh
            go_wp2_with fail
            refine (contains_i64 _ (l.take k) x _ hTk').mono ?_
            rw [HH.out]
            rintro e w6 ⟨rfl, m, rfl⟩
            have hbm := hbw.trans (below_drewN (Below.refl wr.heap.size wr) m |>.mono hbw.size)
            clear k0 cx
            go_wp2_with fail
            go_ret
            exact ⟨false, rfl, HG.out.1 (fun h => h.2.2 ((has_take x _).1 HH.out)), hbm⟩
        · go_wp2_with fail
          go_ret
          exact ⟨false, rfl, HG.out.1 (fun h => by have := of_decide_eq_true hnN; omega), hbw⟩
      · go_wp2_with fail
        go_ret
        exact ⟨false, rfl, HG.out.1 (fun h => by have := of_decide_eq_true hn0; omega), hbw⟩
    · have hke : k = l.length := by omega
      subst hke
      have hbw := below_next hb hb01
      have hlr := hl1.below hb
      have gO := of_any wr _ l hlr
      clear hlt hk hbw
      go_wp2_with fail
      refine gO.mono ?_
      rintro _ w2 ⟨u, rfl, hu, hb2⟩
      obtain ⟨U, uc, rfl⟩ := slU_form hu
      have hb12 := hb.trans (hb2.mono hb.size)
      have hul := Bs.of_length l
      have HU := Lib.hid hu
      clear gO hb2 hlr hu
      go_wp2_with fail
      go_loopw [46] (fun i wr => ∃ k : Nat, k ≤ l.length ∧ i = .int .i64 (k : Int) ∧ Gr.ApB B l k ∧ Below w2.heap.size w2 wr) (fun i _ => l.length - (intOf i).toNat)
      case atStart => exact ⟨0, Nat.zero_le _, rfl, fun j x h => by omega, Below.refl _ _⟩
      case round =>
        obtain ⟨k, hk, rfl, hpre, hb⟩ := hrel
        have hb1r := hb12.trans (hb.mono hb12.size)
        have hbw := below_next hb1r hb01
        have HA := Lib.hid hpre
        clear hpre
        by_cases hlt : k < l.length
        · obtain ⟨x, hx⟩ : ∃ x, l[k]? = some x := ⟨_, List.getElem?_eq_getElem hlt⟩
          obtain ⟨hx0, hxN, -⟩ := HP.out k x hlt hx
          obtain ⟨m, rfl⟩ := Int.eq_ofNat_of_zero_le hx0
          have hmN : m < N := by omega
          have hlr := hl1.below hb1r
          obtain ⟨A', c', he, -, -, -, hcr⟩ := id hlr
          injection he with e1 e2 e3
          subst e1 e3
          clear e2
          have hx' : (ints .i64 l)[k]? = some (.int .i64 (m : Int)) := by simp [ints, hx]
          obtain ⟨gl, ol, rfl, hgl, hcl⟩ := hcr.at_ (fun e => by rw [e] at hx'; simp at hx')
          have cx := hcl k _ hx'
          obtain ⟨g, o, uv, rfl, hg, hc1, hsu, hsl⟩ := HR.out m hmN
          have cr := (hb1r.cell (p := ⟨g, o + m, none⟩) hg).trans hc1
          have hsr := hsu.below hb1r
          have hur := HU.out.below hb
          obtain ⟨R, rc, rfl⟩ := slU_form hsr
          have gA := and_any wr _ _ _ _ hur hsr (by omega) (by omega)
          have hbe : (Gr.ApB B l l.length → Bs.op Bs.fand (Bs.of_ l) (B.getD m []) = []) := fun h => by have := h k _ hlt hx; rwa [Int.toNat_natCast] at this
          have hnx : Bs.op Bs.fand (Bs.of_ l) (B.getD m []) = [] → Gr.ApB B l (k + 1) := fun h j y hj hy => by
            by_cases hjk : j < k
            · exact HA.out j y hjk hy
            · have : j = k := by omega
              subst this
              rw [hx] at hy
              injection hy with hy
              subst hy
              rw [Int.toNat_natCast]
              exact h
          obtain ⟨Z, hZ⟩ : ∃ Z, Z = Bs.op Bs.fand (Bs.of_ l) (B.getD m []) := ⟨_, rfl⟩
          rw [← hZ] at gA hbe hnx
          obtain ⟨rl, hrl⟩ : ∃ rl, rl = (B.getD m []).length := ⟨_, rfl⟩
          rw [← hrl] at gA cr
          have HN := Lib.hid (And.intro hbe hnx)
          clear hbe hnx hZ hx' hcl hcr hlr hsr hur hsu hc1 hx hrl hsl
          go_wp2_with fail
          refine gA.mono ?_
          rintro _ w3 ⟨vz, rfl, hz, hb3⟩
          obtain ⟨Y, yc, rfl⟩ := slU_form hz
          have hbr := hb.trans (hb3.mono hb.size)
          have hbw3 := hbw.trans (hb3.mono hbw.size)
          clear gA hz cx cr hb3
          rcases hzl : decide (0 < Z.length) with _ | _
          · go_wp2_with fail
            go_roundw
            case rel => exact ⟨k + 1, by omega, by go_num, HN.out.2 (List.eq_nil_of_length_eq_zero (by have := of_decide_eq_false hzl; omega)), hbr⟩
            case measure => simp [intOf]; omega
          · go_wp2_with fail
            go_ret
            exact ⟨false, rfl, ⟨fun h => (by cases h), fun h => by have := HN.out.1 h.2; rw [this] at hzl; simp at hzl⟩, hbw3⟩
        · have hke : k = l.length := by omega
          subst hke
          go_wp2_with fail
          go_ret
          exact ⟨true, rfl, ⟨fun _ => ⟨HP.out, HA.out⟩, fun _ => rfl⟩, hbw⟩
end Go.Proofs.YtfjmhmfkhgjnhaaDoor


namespace Go.Proofs.YtfjmhmfkhgjnhaaDoor
set_option linter.unusedVariables false
set_option linter.unusedSimpArgs false
set_option maxRecDepth 100000

namespace Bs
theorem and_nil {a b : List Nat} (ha : Ws a) : op fand a b = [] ↔ ∀ y, ¬ (bit a y = true ∧ bit b y = true) := by
  constructor
  · intro h y ⟨h1, h2⟩
    have e := aand a b (y / 64)
    rw [h, at_nil] at e
    have h3 : ((at_ a (y / 64)) &&& (at_ b (y / 64))).testBit (y % 64) = true := by
      rw [Nat.testBit_and, Bool.and_eq_true]
      exact ⟨h1, h2⟩
    rw [← e] at h3
    simp at h3
  · intro h
    refine tr_ext (tr_op _ _ _) rfl fun i => ?_
    rw [aand, at_nil]
    refine Nat.eq_of_testBit_eq fun t => ?_
    rw [Nat.testBit_and, Nat.zero_testBit]
    by_cases ht : t < 64
    · have hn := h (64 * i + t)
      unfold bit at hn
      rw [show (64 * i + t) / 64 = i by omega, show (64 * i + t) % 64 = t by omega] at hn
      rcases hx : (at_ a i).testBit t with _ | _
      · rfl
      · rcases hy : (at_ b i).testBit t with _ | _
        · rfl
        · exact absurd ⟨hx, hy⟩ hn
    · have hlt : at_ a i < 2 ^ t := by
        have h1 : at_ a i < 18446744073709551616 := by
          unfold at_
          rcases hi : a[i]? with _ | x
          · rw [List.getD_eq_getElem?_getD, hi]; decide
          · rw [List.getD_eq_getElem?_getD, hi]; exact ha x (List.mem_of_getElem? hi)
        have h2 : 2 ^ 64 ≤ 2 ^ t := Nat.pow_le_pow_right (by omega) (by omega)
        omega
      rw [Nat.testBit_lt_two_pow hlt]
      rfl
end Bs

namespace Gr
/-- all are nodes, unlike each other, none of which is behind another one -/
structure ApL (N : Nat) (es : List Ed) (l : List Int) : Prop where
  node : ∀ x ∈ l, 0 ≤ x ∧ x < (N : Int)
  one : l.Nodup
  way : ∀ x ∈ l, ∀ y ∈ l, ¬ Way es x.toNat y.toNat
theorem apN_is (N : Nat) (l : List Int) : ApN N l l.length ↔ (∀ x ∈ l, 0 ≤ x ∧ x < (N : Int)) ∧ l.Nodup := by
  constructor
  · intro h
    refine ⟨fun x hx => ?_, ?_⟩
    · obtain ⟨i, hi⟩ := List.getElem?_of_mem hx
      have := h i x (List.getElem?_eq_some_iff.1 hi).1 hi
      exact ⟨this.1, this.2.1⟩
    · refine List.pairwise_iff_getElem.2 fun i j hi hj hij e => ?_
      have := (h j l[j] hj (List.getElem?_eq_getElem hj)).2.2
      refine this (List.mem_of_getElem? (i := i) ?_)
      rw [List.getElem?_take_of_lt hij, List.getElem?_eq_getElem hi, e]
  · rintro ⟨h1, h2⟩ j x hj hx
    have := h1 x (List.mem_of_getElem? hx)
    refine ⟨this.1, this.2, fun hm => ?_⟩
    obtain ⟨i, hi⟩ := List.getElem?_of_mem hm
    have hil := (List.getElem?_eq_some_iff.1 hi).1
    rw [List.length_take] at hil
    rw [List.getElem?_take_of_lt (by omega)] at hi
    have := List.pairwise_iff_getElem.1 h2 i j (by omega) hj (by omega)
    obtain ⟨_, e1⟩ := List.getElem?_eq_some_iff.1 hi
    obtain ⟨_, e2⟩ := List.getElem?_eq_some_iff.1 hx
    exact this (e1.trans e2.symm)
theorem apart_is {N : Nat} {es : List Ed} (hN : N ≤ 200) (hl : (take N es).length = N) (hes : ∀ e ∈ es, e.1 < N ∧ e.2 < N) (l : List Int) : (ApN N l l.length ∧ ApB (behW N es) l l.length) ↔ ApL N es l := by
  rw [apN_is]
  obtain ⟨f1, -, f3⟩ := Bs.of_facts l
  have hb : ((∀ x ∈ l, 0 ≤ x ∧ x < (N : Int))) → (ApB (behW N es) l l.length ↔ ∀ x ∈ l, ∀ y ∈ l, ¬ Way es x.toNat y.toNat) := fun hn => by
    constructor
    · intro h x hx y hy hw
      obtain ⟨i, hi⟩ := List.getElem?_of_mem hx
      have h1 := (Bs.and_nil f1).1 (h i x (List.getElem?_eq_some_iff.1 hi).1 hi) y.toNat
      have hx' := hn x hx
      have hy' := hn y hy
      exact h1 ⟨(f3 _).2 ⟨y, hy, hy'.1, by omega, rfl⟩, (behW_is hl (fun e he => (hes e he).2) _ (by omega) _).2 hw⟩
    · intro h j x hj hx
      refine (Bs.and_nil f1).2 fun y ⟨h1, h2⟩ => ?_
      obtain ⟨z, hz, hz1, hz2, rfl⟩ := (f3 _).1 h1
      have hxm := List.mem_of_getElem? hx
      have hx' := hn x hxm
      exact h x hxm z hz ((behW_is hl (fun e he => (hes e he).2) _ (by omega) _).1 h2)
  constructor
  · rintro ⟨⟨h1, h2⟩, h3⟩
    exact ⟨h1, h2, (hb h1).1 h3⟩
  · rintro ⟨h1, h2, h3⟩
    exact ⟨⟨h1, h2⟩, (hb h1).2 h3⟩
end Gr
end Go.Proofs.YtfjmhmfkhgjnhaaDoor


namespace Go.Proofs.YtfjmhmfkhgjnhaaDoor
set_option linter.unusedVariables false
set_option linter.unusedSimpArgs false
set_option maxRecDepth 100000
open Go.RowKit

namespace Mt
/-- as few chains as may be; of a graph that is not right: none -/
def covG (n : Int) (es : List Gr.Er) : List (List Nat) := if Gr.wrong n es = 0 then covW (prW (Gr.behW n.toNat (Gr.nat es)) n.toNat n.toNat).1 (prW (Gr.behW n.toNat (Gr.nat es)) n.toNat n.toNat).2 n.toNat n.toNat else []
end Mt

set_option maxHeartbeats 4000000 in
theorem cover_no (R : Int) (hR : R ≠ 0) (w : World) (A : Option Addr) (l c : Nat) (n : Int)
    (hs : ∀ w', Below w.heap.size w w' → Calls Tryd.prog 35 #[.agg #[.int .i64 n, .slice A l c]] w' fun e w'' => ∃ v, e = .returned (.tuple #[v, .int .i64 R]) ∧ v = .slice none 0 0 ∧ Below w'.heap.size w' w'') :
    Calls Tryd.prog 30 #[.agg #[.int .i64 n, .slice A l c]] w fun e w' => e = .returned (.tuple #[.slice none 0 0, .int .i64 R]) ∧ Below w.heap.size w w' := by
  have x0 := Blk.new w 24 [.int .i64 n, .slice A l c]
  have hb0 : Below w.heap.size w (w.alloc (.cells #[.int .i64 n, .slice A l c] 24)) := below_alloc (Below.refl _ _) _
  go_enter Tryd.func30, Tryd.ntmps30
  go_upto_region 1 with (fail)
  generalize (w.alloc (.cells #[.int .i64 n, .slice A l c] 24)) = W0 at x0 hb0 ⊢
  have d0 : W0.cell? ⟨w.heap.size, 0, none⟩ = some (.int .i64 n) := (x0.cell 0).trans rfl
  have d1 : W0.cell? ⟨w.heap.size, 1, none⟩ = some (.slice A l c) := (x0.cell 1).trans rfl
  have g0 : (R != 0) = true := by simpa using hR
  have HR := Lib.hid hR
  clear hR
  go_wp2_with fail
  refine (hs W0 hb0).mono ?_
  rintro e w1 ⟨v, rfl, rfl, hb1⟩
  have HB := Lib.hid (below_next hb1 hb0)
  clear d0 d1 x0 hs hb1 hb0
  go_wp2_with fail
  go_ret2
  exact ⟨rfl, HB.out⟩

theorem cover_any (n : Int) (es : List Gr.Er) (w : World) (A : Option Addr) (c : Nat) (hA : SlV w 2 (.slice A es.length c) es.length (ercs es)) (hle : es.length ≤ 1099511627776) (hT : Tab w) :
    Calls Tryd.prog 30 #[.agg #[.int .i64 n, .slice A es.length c]] w fun e w' => ∃ u, e = .returned (.tuple #[u, .int .i64 (Gr.wrong n es)]) ∧ RowsI w' w.heap.size u (Mt.covG n es) ∧ Below w.heap.size w w' := by
  have hbh := fun w' (hb : Below w.heap.size w w') => behind_any n es w' A c (hA.below hb) hle (hT.later hT.lt hb)
  by_cases h0 : Gr.wrong n es = 0
  · obtain ⟨hok, N, rfl, hN, hes, hln, hl⟩ := Gr.wrong_zero h0
    obtain ⟨r, r1, r2⟩ := Mt.rank hl
    have := cover_yes N (Gr.behW N (Gr.nat es)) w A es.length c hN (Gr.behW_length N (Gr.nat es)) (Gr.behW_gs (fun e he => (hes e he).2)) hT ⟨r, fun a b ha hb hab => r1 a b hb ((Mt.nbW_way hl hes a b).1 hab).2, r2⟩ (fun w' hb => by
      refine (hbh w' hb).mono ?_
      rintro e w'' ⟨v, rfl, -, h2, h3⟩
      have h2 := h2 h0
      rw [Int.toNat_natCast] at h2
      exact ⟨v, by rw [h0], h2, h3⟩)
    refine this.mono ?_
    rintro e w' ⟨u, rfl, h1, h2⟩
    unfold Mt.covG
    rw [if_pos h0, Int.toNat_natCast]
    exact ⟨u, by rw [h0], h1, h2⟩
  · refine (cover_no (Gr.wrong n es) h0 w A es.length c n fun w' hb => ?_).mono ?_
    · refine (hbh w' hb).mono ?_
      rintro e w'' ⟨v, rfl, h1, -, h3⟩
      exact ⟨v, rfl, h1 h0, h3⟩
    · rintro e w' ⟨rfl, h2⟩
      unfold Mt.covG
      rw [if_neg h0]
      exact ⟨_, rfl, RowsI.nil _ _, h2⟩

set_option maxHeartbeats 4000000 in
theorem apart_no (R : Int) (hR : R ≠ 0) (w : World) (A Al : Option Addr) (l c ll cl : Nat) (n : Int)
    (hs : ∀ w', Below w.heap.size w w' → Calls Tryd.prog 35 #[.agg #[.int .i64 n, .slice A l c]] w' fun e w'' => ∃ v, e = .returned (.tuple #[v, .int .i64 R]) ∧ v = .slice none 0 0 ∧ Below w'.heap.size w' w'') :
    Calls Tryd.prog 13 #[.agg #[.int .i64 n, .slice A l c], .slice Al ll cl] w fun e w' => e = .returned (.bool false) ∧ Below w.heap.size w w' := by
  have x0 := Blk.new w 24 [.int .i64 n, .slice A l c]
  have hb0 : Below w.heap.size w (w.alloc (.cells #[.int .i64 n, .slice A l c] 24)) := below_alloc (Below.refl _ _) _
  go_enter Tryd.func13, Tryd.ntmps13
  go_upto_region 1 with (fail)
  generalize (w.alloc (.cells #[.int .i64 n, .slice A l c] 24)) = W0 at x0 hb0 ⊢
  have d0 : W0.cell? ⟨w.heap.size, 0, none⟩ = some (.int .i64 n) := (x0.cell 0).trans rfl
  have d1 : W0.cell? ⟨w.heap.size, 1, none⟩ = some (.slice A l c) := (x0.cell 1).trans rfl
  have g0 : (R != 0) = true := by simpa using hR
  have HR := Lib.hid hR
  clear hR
  go_wp2_with fail
  refine (hs W0 hb0).mono ?_
  rintro e w1 ⟨v, rfl, rfl, hb1⟩
  have HB := Lib.hid (below_next hb1 hb0)
  clear d0 d1 x0 hs hb1 hb0
  go_wp2_with fail
  go_ret
  exact ⟨rfl, HB.out⟩

theorem apart_any (n : Int) (es : List Gr.Er) (l : List Int) (w : World) (A Al : Option Addr) (c cl : Nat) (hA : SlV w 2 (.slice A es.length c) es.length (ercs es)) (hle : es.length ≤ 1099511627776) (hT : Tab w) (hl : SlV w 1 (.slice Al l.length cl) l.length (ints .i64 l)) :
    Calls Tryd.prog 13 #[.agg #[.int .i64 n, .slice A es.length c], .slice Al l.length cl] w fun e w' => ∃ b, e = .returned (.bool b) ∧ (b = true ↔ Gr.wrong n es = 0 ∧ Gr.ApL n.toNat (Gr.nat es) l) ∧ Below w.heap.size w w' := by
  have hbh := fun w' (hb : Below w.heap.size w w') => behind_any n es w' A c (hA.below hb) hle (hT.later hT.lt hb)
  by_cases h0 : Gr.wrong n es = 0
  · obtain ⟨hok, N, rfl, hN, hes, hln, hlt⟩ := Gr.wrong_zero h0
    have := apart_yes N (Gr.behW N (Gr.nat es)) l w A Al es.length c cl hN (Gr.behW_length N (Gr.nat es)) (Gr.behW_gs (fun e he => (hes e he).2)) hl (fun w' hb => by
      refine (hbh w' hb).mono ?_
      rintro e w'' ⟨v, rfl, -, h2, h3⟩
      have h2 := h2 h0
      rw [Int.toNat_natCast] at h2
      exact ⟨v, by rw [h0], h2, h3⟩)
    refine this.mono ?_
    rintro e w' ⟨b, rfl, h1, h2⟩
    rw [Gr.apart_is hN hlt hes] at h1
    rw [Int.toNat_natCast]
    exact ⟨b, rfl, h1.trans ⟨fun h => ⟨h0, h⟩, fun h => h.2⟩, h2⟩
  · refine (apart_no (Gr.wrong n es) h0 w A Al es.length c l.length cl n fun w' hb => ?_).mono ?_
    · refine (hbh w' hb).mono ?_
      rintro e w'' ⟨v, rfl, h1, -, h3⟩
      exact ⟨v, rfl, h1 h0, h3⟩
    · rintro e w' ⟨rfl, h2⟩
      exact ⟨false, rfl, ⟨fun h => (by cases h), fun h => absurd h.1 h0⟩, h2⟩
end Go.Proofs.YtfjmhmfkhgjnhaaDoor


namespace Go.Proofs.YtfjmhmfkhgjnhaaDoor.Gr
set_option linter.unusedVariables false
set_option linter.unusedSimpArgs false
set_option maxRecDepth 100000

def cstep (L : List Nat) (n f : Nat) (e : Ed) : Nat := if e.2 = n ∧ lget L e.1 + 1 = lget L n then min f e.1 else f
def cpre (N : Nat) (es : List Ed) (L : List Nat) (n j : Nat) : Nat := (es.take j).foldl (cstep L n) N
def cprev (N : Nat) (es : List Ed) (L : List Nat) (n : Nat) : Nat := es.foldl (cstep L n) N
theorem cpre_zero (N : Nat) (es : List Ed) (L : List Nat) (n : Nat) : cpre N es L n 0 = N := rfl
theorem cpre_succ {N : Nat} {es : List Ed} {L : List Nat} {n j : Nat} {e : Ed} (h : es[j]? = some e) : cpre N es L n (j + 1) = cstep L n (cpre N es L n j) e := by
  obtain ⟨h', rfl⟩ := List.getElem?_eq_some_iff.1 h
  unfold cpre
  rw [List.take_succ_eq_append_getElem h', List.foldl_append]
  rfl
theorem cpre_all (N : Nat) (es : List Ed) (L : List Nat) (n : Nat) : cpre N es L n es.length = cprev N es L n := by unfold cpre cprev; rw [List.take_length]
theorem cfold (L : List Nat) (n : Nat) : ∀ (l : List Ed) (f : Nat), (l.foldl (cstep L n) f = f ∨ ∃ e ∈ l, l.foldl (cstep L n) f = e.1 ∧ e.2 = n ∧ lget L e.1 + 1 = lget L n) ∧ l.foldl (cstep L n) f ≤ f ∧ ∀ e ∈ l, e.2 = n → lget L e.1 + 1 = lget L n → l.foldl (cstep L n) f ≤ e.1
  | [], f => ⟨.inl rfl, Nat.le_refl _, fun _ h => by cases h⟩
  | e :: l, f => by
    obtain ⟨h1, h2, h3⟩ := cfold L n l (cstep L n f e)
    rw [List.foldl_cons]
    have hc : cstep L n f e = f ∨ (cstep L n f e = e.1 ∧ e.2 = n ∧ lget L e.1 + 1 = lget L n) := by
      unfold cstep
      split
      · rename_i h
        rcases Nat.le_total f e.1 with hl | hl
        · left; omega
        · right; exact ⟨by omega, h⟩
      · exact .inl rfl
    have hl : cstep L n f e ≤ f := by
      unfold cstep
      split <;> omega
    refine ⟨?_, by omega, fun x hx hxn hxl => ?_⟩
    · rcases h1 with h1 | ⟨x, hx, h1⟩
      · rw [h1]
        rcases hc with hc | hc
        · exact .inl hc
        · exact .inr ⟨e, List.mem_cons_self, hc⟩
      · exact .inr ⟨x, List.mem_cons_of_mem _ hx, h1⟩
    · rcases List.mem_cons.1 hx with rfl | hx
      · have : cstep L n f x ≤ x.1 := by
          unfold cstep
          rw [if_pos ⟨hxn, hxl⟩]
          omega
        omega
      · exact h3 x hx hxn hxl
theorem cprev_is {N : Nat} {es : List Ed} {L : List Nat} {n : Nat} (h : LvL N es L) (hes : ∀ e ∈ es, e.1 < N) (h0 : 0 < lget L n) : (cprev N es L n, n) ∈ es ∧ lget L (cprev N es L n) + 1 = lget L n ∧ cprev N es L n < N := by
  obtain ⟨e, he, hen, hel⟩ := h.down n h0
  obtain ⟨h1, -, h3⟩ := cfold L n es N
  have hlt : cprev N es L n < N := Nat.lt_of_le_of_lt (h3 e he hen hel) (hes e he)
  rcases h1 with h1 | ⟨x, hx, h1, h2, h4⟩
  · have h1 : cprev N es L n = N := h1
    omega
  · have h1 : cprev N es L n = x.1 := h1
    refine ⟨?_, by rw [h1]; exact h4, hlt⟩
    rw [h1, ← h2]
    exact hx
def cback (N : Nat) (es : List Ed) (L : List Nat) : Nat → Nat → List Nat
  | 0, n => [n]
  | k + 1, n => n :: cback N es L k (cprev N es L n)
theorem cback_length (N : Nat) (es : List Ed) (L : List Nat) : ∀ k n, (cback N es L k n).length = k + 1
  | 0, _ => rfl
  | k + 1, n => by rw [cback, List.length_cons, cback_length]
theorem cback_head (N : Nat) (es : List Ed) (L : List Nat) (k n : Nat) : (cback N es L k n)[0]? = some n := by cases k <;> rfl
theorem cback_on {N : Nat} {es : List Ed} {L : List Nat} (h : LvL N es L) (hes : ∀ e ∈ es, e.1 < N) : ∀ (k n : Nat), lget L n = k → n < N → (∀ i a b, (cback N es L k n)[i]? = some a → (cback N es L k n)[i + 1]? = some b → (b, a) ∈ es) ∧ ∀ a ∈ cback N es L k n, a < N
  | 0, n, _, hn => ⟨fun i a b _ h2 => by simp [cback] at h2, fun a ha => by simp [cback] at ha; subst ha; exact hn⟩
  | k + 1, n, hk, hn => by
    obtain ⟨p1, p2, p3⟩ := cprev_is h hes (n := n) (by omega)
    obtain ⟨q1, q2⟩ := cback_on h hes k (cprev N es L n) (by omega) p3
    refine ⟨fun i a b h1 h2 => ?_, fun a ha => ?_⟩
    · rw [cback] at h1 h2
      rcases i with _ | i
      · rw [List.getElem?_cons_zero] at h1
        rw [List.getElem?_cons_succ, cback_head] at h2
        injection h1 with h1
        injection h2 with h2
        subst h1 h2
        exact p1
      · rw [List.getElem?_cons_succ] at h1 h2
        exact q1 i a b h1 h2
    · rw [cback] at ha
      rcases List.mem_cons.1 ha with rfl | ha
      · exact hn
      · exact q2 a ha
end Go.Proofs.YtfjmhmfkhgjnhaaDoor.Gr


namespace Go.Proofs.YtfjmhmfkhgjnhaaDoor
set_option linter.unusedVariables false
set_option linter.unusedSimpArgs false
set_option maxRecDepth 100000
open Go.RowKit

theorem ilist_app' (a b : List Nat) : ilist (a ++ b) = ilist a ++ ilist b := by simp [ilist, ints]
theorem edcs_at (l : List (Nat × Nat)) (i : Nat) (p : Nat × Nat) (h : l[i]? = some p) : (edcs l)[i * 2]? = some (.int .i64 (p.1 : Int)) ∧ (edcs l)[i * 2 + 1]? = some (.int .i64 (p.2 : Int)) :=
  ⟨flat_get edc 2 (fun _ => rfl) l i 0 p h (by omega), flat_get edc 2 (fun _ => rfl) l i 1 p h (by omega)⟩
theorem index_nat (w : World) (v : Value) (L : List Nat) (x : Nat) (h : SlN w v L) (hx : x ∈ L) :
    Calls Tryd.prog 32 #[v, .int .i64 (x : Int)] w fun e w' => (∃ k : Nat, e = .returned (.int .i64 (k : Int)) ∧ L[k]? = some x) ∧ w' = w := by
  obtain ⟨A, c, rfl, hle, hm, hlen, hc⟩ := h
  have hne : ilist L ≠ [] := fun e => by
    have : L = [] := by simpa [ilist, ints] using e
    rw [this] at hx
    cases hx
  obtain ⟨b, o, rfl, hb, hcc⟩ := hc.at_ hne
  unfold maxLen at hm
  obtain ⟨k0, hk0⟩ : ∃ k, L[k]? = some x := List.getElem?_of_mem hx
  -- the first
  have first : ∀ k : Nat, L[k]? = some x → ∃ m : Nat, L[m]? = some x ∧ ∀ j : Nat, j < m → L[j]? ≠ some x := by
    intro k
    induction k using Nat.strongRecOn with
    | _ k ih =>
      intro hk
      by_cases h : ∃ j, j < k ∧ L[j]? = some x
      · obtain ⟨j, hj, hjx⟩ := h
        exact ih j hj hjx
      · exact ⟨k, hk, fun j hj hjx => h ⟨j, hj, hjx⟩⟩
  obtain ⟨k, hk, hfirst⟩ := first k0 hk0
  have hkl : k < L.length := (List.getElem?_eq_some_iff.1 hk).1
  have := Tryd.slices_Index_int b o L.length c (L.map fun (x : Nat) => (x : Int)) (x : Int) w (by simp) (by omega) (fun j hj => by
    have hj' : j < L.length := by simpa using hj
    rw [hcc j _ (ilist_get (List.getElem?_eq_getElem hj'))]
    simp [List.getD_eq_getElem?_getD, List.getElem?_eq_getElem hj'])
  refine this.mono ?_
  rintro e w' ⟨rfl, rfl⟩
  refine ⟨⟨k, ?_, hk⟩, rfl⟩
  rw [Lib.idxOf_hit _ _ k _ hkl (by simp) (by simp [List.getD_eq_getElem?_getD, hk]) (fun j hj he => hfirst j hj (by
    have hj' : j < L.length := by omega
    rw [List.getElem?_eq_getElem hj']
    simp [List.getD_eq_getElem?_getD, List.getElem?_eq_getElem hj'] at he
    have he' : L[j] = x := by omega
    exact congrArg some he'))]

/-- what a chain is, from its end's place on -/
def Gr.chainOf (N : Nat) (es : List Gr.Ed) (L : List Nat) (n : Nat) : List Nat := (Gr.cback N es L (Gr.lget L n) n).reverse

/-- what Chain says of a graph whose levels are L -/
def Gr.ChainSaid (N : Nat) (es : List Gr.Ed) (L C : List Nat) : Prop := (L = [] ∧ C = []) ∨ ∃ n0, L[n0]? = some (L.foldl max 0) ∧ C = Gr.chainOf N es L n0

set_option maxRecDepth 20000 in
set_option maxHeartbeats 8000000 in
theorem chain_yes (N : Nat) (es : List Gr.Ed) (w : World) (A : Option Addr) (c : Nat) (hN : N ≤ 200) (hes : ∀ e ∈ es, e.1 < N ∧ e.2 < N) (hA : SlV w 2 (.slice A es.length c) es.length (edcs es)) (hle : es.length ≤ 1099511627776)
    (hlv : ∀ w', Below w.heap.size w w' → Calls Tryd.prog 10 #[.agg #[.int .i64 (N : Int), .slice A es.length c]] w' fun e w'' => ∃ v L, e = .returned (.tuple #[v, .int .i64 0]) ∧ Gr.LvL N es L ∧ (∀ m, Gr.lget L m ≤ N) ∧ w''.ownsRow w'.heap.size 3 1 v L.length (ilist L) ∧ Below w'.heap.size w' w'') :
    Calls Tryd.prog 11 #[.agg #[.int .i64 (N : Int), .slice A es.length c]] w fun e w' => ∃ u L C, e = .returned (.tuple #[u, .int .i64 0]) ∧ Gr.LvL N es L ∧ Gr.ChainSaid N es L C ∧ w'.ownsRow w.heap.size 3 1 u C.length (ilist C) ∧ Below w.heap.size w w' := by
  have hba : Below w.heap.size w (w.alloc (.cells #[.int .i64 (N : Int), .slice A es.length c] 24)) := below_alloc (Below.refl _ _) _
  have x0 := Blk.new w 24 [.int .i64 (N : Int), .slice A es.length c]
  have hlv0 := hlv _ hba
  obtain ⟨q, hq⟩ : ∃ q, q = w.heap.size := ⟨_, rfl⟩
  go_enter Tryd.func11, Tryd.ntmps11
  go_upto_region 1 with (fail)
  generalize (w.alloc (.cells #[.int .i64 (N : Int), .slice A es.length c] 24)) = W0 at x0 hba hlv0 ⊢
  rw [← hq] at x0 ⊢
  have HQ := Lib.hid hq
  clear hq hlv
  have d0 : W0.cell? ⟨q, 0, none⟩ = some (.int .i64 (N : Int)) := (x0.cell 0).trans rfl
  have d1 : W0.cell? ⟨q, 1, none⟩ = some (.slice A es.length c) := (x0.cell 1).trans rfl
  go_wp2_with fail
  refine hlv0.mono ?_
  rintro _ w1 ⟨v, L, rfl, hL, hLm, hr1, hb1⟩
  by_cases hne : L = []
  · have HF := Lib.hid (And.intro hL (below_next hb1 hba))
    obtain ⟨Av, cv, rfl, -, -⟩ := own_slice hr1
    have hz : L.length = 0 := by rw [hne]; rfl
    clear hlv0 hb1 d0 d1 x0 hba hr1 hL hLm hA hne
    go_wp2_with fail
    go_ret2
    have hL0 : L = [] := List.eq_nil_of_length_eq_zero hz
    exact ⟨_, L, [], rfl, HF.out.1, .inl ⟨hL0, rfl⟩, World.ownsRow_nil _ _ _ _, HF.out.2⟩
  have hlen := hL.len
  have hNp : 0 < N := by
    rcases Nat.eq_zero_or_pos N with h | h
    · exact absurd (List.eq_nil_of_length_eq_zero (by rw [hlen, h])) hne
    · exact h
  have hmx : L.foldl max 0 ∈ L := by
    obtain ⟨-, h2, h3⟩ := Gr.foldl_max L 0
    rcases h3 with h3 | h3
    · rw [h3]
      have h0 := h2 _ (List.mem_of_getElem? (Gr.lget_some (L := L) (m := 0) (by omega)))
      rw [h3] at h0
      have h0 : Gr.lget L 0 = 0 := by omega
      rw [← h0]
      exact List.mem_of_getElem? (Gr.lget_some (by omega))
    · exact h3
  have hlenz : ((L.length : Int) == 0) = false := by simp; intro h; exact hne h
  have HLn := Lib.hid hlen
  clear hlen
  have x1 := x0.below hb1
  have hb01 := below_next hb1 hba
  have hS1 := SlN.of_own hr1
  obtain ⟨Al, cl, rfl, hcl, hml⟩ := own_slice hr1
  unfold maxLen at hml
  have gM := max_any _ L w1 hS1 hne (fun m => Nat.le_trans (hLm m) (by omega))
  have gI := index_nat w1 _ L (L.foldl max 0) hS1 hmx
  obtain ⟨mx, hmxe⟩ : ∃ m, m = L.foldl max 0 := ⟨_, rfl⟩
  rw [← hmxe] at gM gI
  have HM := Lib.hid hmxe
  clear hlv0 d0 d1 x0 hba hb1 hr1 hmx hmxe
  go_wp2_with fail
  refine gM.mono ?_
  rintro _ w2 ⟨rfl, rfl⟩
  go_wp2_with fail
  refine gI.mono ?_
  rintro _ w3 ⟨⟨n0, rfl, hn0⟩, rfl⟩
  have hn0l : n0 < N := by rw [← HLn.out]; exact (List.getElem?_eq_some_iff.1 hn0).1
  have hcells : ∀ (w' : World) (m : Nat), Below w3.heap.size w3 w' → m < N → ∃ g o, Al = some ⟨g, o, none⟩ ∧ g < w3.heap.size ∧ w'.cell? ⟨g, o + m, none⟩ = some (.int .i64 (Gr.lget L m : Int)) := fun w' m hb hm => by
    obtain ⟨g, o, h1, h2, h3⟩ := hS1.get (Gr.lget_some (L := L) (m := m) (by rw [HLn.out]; exact hm))
    exact ⟨g, o, h1, h2, (hb.cell (p := ⟨g, o + m, none⟩) h2).trans h3⟩
  obtain ⟨g, o, hAl, hgl, -⟩ := hcells w3 0 (Below.refl _ _) hNp
  subst hAl
  have hcell : ∀ (w' : World) (m : Nat), Below w3.heap.size w3 w' → m < N → w'.cell? ⟨g, o + m, none⟩ = some (.int .i64 (Gr.lget L m : Int)) := fun w' m hb hm => by
    obtain ⟨g', o', h1, h2, h3⟩ := hcells w' m hb hm
    injection h1 with h1
    injection h1 with e1 e2
    subst e1 e2
    exact h3
  have hA3 := hA.below hb01
  have hb3 : Below w3.heap.size w3 (w3.alloc (.cells #[.int .i64 (n0 : Int)] 3)) := below_alloc (Below.refl _ _) _
  have hr3 : (w3.alloc (.cells #[.int .i64 (n0 : Int)] 3)).ownsRow w3.heap.size 3 1 (.slice (some ⟨w3.heap.size, 0, none⟩) 1 1) (([] : List Nat) ++ [n0]).length (ilist (([] : List Nat) ++ [n0])) :=
    ⟨rfl, .inr ⟨w3.heap.size, 1, #[.int .i64 (n0 : Int)], rfl, Nat.le_refl _, World.alloc_heap_new w3 _, Nat.le_refl _, by decide, rfl, rfl⟩⟩
  have HB := Lib.hid (And.intro hb01 (And.intro hn0 hcell))
  clear hcells hS1 hb01 hn0
  have HC := Lib.hid hcell
  clear hcell
  have hmN : ∀ m, m < N → (m : Int) < (L.length : Int) := fun m hm => by have := HLn.out; omega
  have HmN := Lib.hid hmN
  clear hmN
  go_upto_region 6 with (fail)
  go_loopw [6, 7] (fun n out wr => ∃ (m : Nat) (pre : List Nat), n = .int .i64 (m : Int) ∧ m < N ∧ (pre ++ [m]).length ≤ N + 1 ∧ wr.ownsRow w3.heap.size 3 1 out (pre ++ [m]).length (ilist (pre ++ [m])) ∧ pre ++ Gr.cback N es L (Gr.lget L m) m = Gr.cback N es L (Gr.lget L n0) n0 ∧ Below w3.heap.size w3 wr) (fun n _ _ => Gr.lget L (intOf n).toNat)
  case atStart => exact ⟨n0, [], rfl, hn0l, by simp, hr3, rfl, hb3⟩
  case round =>
    obtain ⟨m, pre, rfl, hm, hpl, hown, hpc, hb⟩ := hrel
    have cL := HC.out wr m hb hm
    have fm := HmN.out m hm
    have x2 := x1.below hb
    have cq0 : wr.cell? ⟨q, 0, none⟩ = some (.int .i64 (N : Int)) := (x2.cell 0).trans rfl
    have cq1 : wr.cell? ⟨q, 1, none⟩ = some (.slice A es.length c) := (x2.cell 1).trans rfl
    have hlm := hLm m
    obtain ⟨lm, hlme⟩ : ∃ x, x = Gr.lget L m := ⟨_, rfl⟩
    rw [← hlme] at cL hlm
    have HP := Lib.hid (And.intro hpc (And.intro hlme (And.intro hpl hown)))
    clear hpc hlme hpl hown hr3 hb3
    rcases h0 : decide (0 < lm) with _ | _
    · obtain ⟨hpc, hlme, hpl, hown⟩ := HP.out
      have hlm0 : Gr.lget L m = 0 := by have := of_decide_eq_false h0; omega
      rw [hlm0] at hpc
      have hpc : pre ++ [m] = Gr.cback N es L (Gr.lget L n0) n0 := hpc
      rw [hpc] at hown hpl
      obtain ⟨Ao, co, rfl, -, -⟩ := own_slice hown
      have gR := reverse_nat wr w3.heap.size co Ao _ hown (by omega)
      have hCl : (Gr.chainOf N es L n0).length = (Gr.cback N es L (Gr.lget L n0) n0).length := by unfold Gr.chainOf; rw [List.length_reverse]
      have hge : ∀ i, (Value.slice Ao (Gr.cback N es L (Gr.lget L n0) n0).length co).ownBlock = some i → w3.heap.size ≤ i := own_ge hown
      have HE := Lib.hid (And.intro hCl (And.intro hge (And.intro hb HB.out)))
      clear hpc hlme hpl hown hlm0 hlm hCl hge HP
      go_wp2_with fail
      refine gR.mono ?_
      rintro _ w9 ⟨⟨vr, rfl⟩, hr9, hg9⟩
      obtain ⟨hCl, hge, hb, hb01, hn0, -⟩ := HE.out
      have hb9 : Below w.heap.size w w9 := (hb01.trans (hb.mono hb01.size)).grown hg9 (by have := hb01.size; have := hb.size; omega) (fun i hi => Nat.le_trans hb01.size (hge i hi))
      have hfin : w9.ownsRow w.heap.size 3 1 (.slice Ao (Gr.cback N es L (Gr.lget L n0) n0).length co) (Gr.chainOf N es L n0).length (ilist (Gr.chainOf N es L n0)) := by
        rw [hCl]
        exact own_base hr9 hb01.size
      have HF := Lib.hid (And.intro hfin (And.intro hb9 hn0))
      clear gR hr9 hg9 hfin hb9 hb hb01 hn0 cL cq0 cq1 hCl hge HE
      go_wp2_with fail
      go_ret2
      exact ⟨_, L, _, rfl, hL, .inr ⟨n0, by rw [HF.out.2.2, HM.out], rfl⟩, HF.out.1, HF.out.2.1⟩
    · have hA2 := hA3.below hb
      clear x2
      go_upto_region 9 with (fail)
      obtain ⟨wo, rfl⟩ : ∃ wo : World, wo = wr := ⟨_, rfl⟩
      go_loopw [8, 40] (fun f i w' => ∃ j : Nat, j ≤ es.length ∧ i = .int .i64 (j : Int) ∧ f = .int .i64 (Gr.cpre N es L m j : Int) ∧ Below wo.heap.size wo w') (fun _ i _ => es.length - (intOf i).toNat)
      case atStart => exact ⟨0, Nat.zero_le _, rfl, rfl, Below.refl _ _⟩
      case round =>
        clear cL cq0 cq1
        obtain ⟨j, hj, rfl, rfl, hbi⟩ := hrel
        have hbw := hb.trans (hbi.mono hb.size)
        by_cases hlt : j < es.length
        · obtain ⟨⟨a, b⟩, hab⟩ : ∃ e, es[j]? = some e := ⟨_, List.getElem?_eq_getElem hlt⟩
          obtain ⟨ha, hbN⟩ := hes _ (List.mem_of_getElem? hab)
          dsimp only at ha hbN
          obtain ⟨gx, gy⟩ := edcs_at _ _ _ hab
          obtain ⟨A', c', he, h1, h2, h3, hcc⟩ := hA2.below hbi
          injection he with e1 e2 e3
          subst e1 e3
          clear e2 h3
          obtain ⟨ge, oe, rfl, hgel, hgc⟩ := hcc.at_ (fun e => by rw [e] at gx; simp at gx)
          have ca := hgc _ _ gx
          have cb := hgc _ _ gy
          rw [← Nat.add_assoc] at cb
          dsimp only at ca cb
          have hst := Gr.cpre_succ (N := N) (L := L) (n := m) hab
          have pN := Blk.new wr 39 [.int .i64 (a : Int), .int .i64 (b : Int)]
          have hbN2 : Below wr.heap.size wr (wr.alloc (.cells #[.int .i64 (a : Int), .int .i64 (b : Int)] 39)) := below_alloc (Below.refl _ _) _
          obtain ⟨P, hP⟩ : ∃ P, P = wr.heap.size := ⟨_, rfl⟩
          have HJ := Lib.hid (And.intro hst (And.intro hab hP))
          unfold maxLen at h2
          clear hst hab gx gy hgc hcc
          go_upto_region 11 with (fail)
          rw [← hP] at pN ⊢
          have hbb := hbi.trans (hbN2.mono hbi.size)
          have hbw2 := hb.trans (hbb.mono hb.size)
          generalize (wr.alloc (.cells #[.int .i64 (a : Int), .int .i64 (b : Int)] 39)) = Wb at pN hbb hbw2 ⊢
          have k0 : Wb.cell? ⟨P, 0, none⟩ = some (.int .i64 (a : Int)) := (pN.cell 0).trans rfl
          have k1 : Wb.cell? ⟨P, 1, none⟩ = some (.int .i64 (b : Int)) := (pN.cell 1).trans rfl
          have k2 := HC.out Wb a hbw2 ha
          have k3 := HC.out Wb m hbw2 hm
          have fa := HmN.out a ha
          have hla := hLm a
          obtain ⟨la, hlae⟩ : ∃ x, x = Gr.lget L a := ⟨_, rfl⟩
          rw [← hlae] at k2 hla
          rw [← HP.out.2.1] at k3
          have hS0 : Wb.drew.cell? ⟨P, 0, none⟩ = some (.int .i64 (a : Int)) ∧ Wb.drew.cell? ⟨P, 1, none⟩ = some (.int .i64 (b : Int)) ∧ Wb.drew.cell? ⟨g, o + a, none⟩ = some (.int .i64 (la : Int)) ∧ Wb.drew.cell? ⟨g, o + m, none⟩ = some (.int .i64 (lm : Int)) ∧ ∃ k, Wb.drew = Wb.drewN k := ⟨k0, k1, k2, k3, 1, rfl⟩
          obtain ⟨fr, hfr⟩ : ∃ fr, fr = Gr.cpre N es L m j := ⟨_, rfl⟩
          rw [← hfr]
          have HF := Lib.hid (And.intro hfr hlae)
          clear hP hfr hlae ca cb k2 k3
          have hnext : ∀ B1 B2 : Bool, ((b : Int) == (m : Int)) = B1 → ((la : Int) + 1 == (lm : Int)) = B2 → Gr.cpre N es L m (j + 1) = if B1 && B2 then min fr a else fr := fun B1 B2 h1 h2 => by
            rw [HJ.out.1, ← HF.out.1]
            unfold Gr.cstep
            dsimp only
            rw [← HF.out.2, ← HP.out.2.1]
            have e1 : (b = m) ↔ B1 = true := by rw [← h1, beq_iff_eq]; omega
            have e2 : (la + 1 = lm) ↔ B2 = true := by rw [← h2, beq_iff_eq]; omega
            cases B1 <;> cases B2 <;> simp [e1, e2]
          have HNx := Lib.hid hnext
          clear hnext
          have hwl : IntKind.i64.wrap ((la : Int) + 1) = (la : Int) + 1 := by rw [wrap_is]; unfold wrap64; omega
          rcases hq1 : ((b : Int) == (m : Int)) with _ | _
          · go_wp2_with fail
            refine wp_walk (by kernel_rfl) (by kernel_rfl) (fun _ _ => True) (fun w' => (w'.cell? ⟨P, 0, none⟩ = some (.int .i64 (a : Int)) ∧ w'.cell? ⟨P, 1, none⟩ = some (.int .i64 (b : Int)) ∧ w'.cell? ⟨g, o + a, none⟩ = some (.int .i64 (la : Int)) ∧ w'.cell? ⟨g, o + m, none⟩ = some (.int .i64 (lm : Int)) ∧ ∃ k, w' = Wb.drewN k)) hS0 ?_
            repeat (first | (refine settle_skip (fun _ => by rfl) ?_; (simp only [Act.put, List.setIfInBounds_toArray, List.set_cons_zero, List.set_cons_succ])) | (refine' settle_run (fun _ _ => trivial) (fun _ => by rfl) ?_ ?_; rotate_left; (focus (intro ρ w hS hF; (try dsimp only at hS); go_split_ands; go_simp; try with_reducible rfl)); (simp only [Act.put, List.setIfInBounds_toArray, List.set_cons_zero, List.set_cons_succ])))
            refine settle_nil ?_
            intro ρ w7 hS _
            obtain ⟨-, -, -, -, kd, rfl⟩ := hS
            have hbd := below_drewN hbb kd
            clear hS0 k0 k1
            dsimp only
            go_wp2_with fail
            go_roundw
            case rel => exact ⟨j + 1, by omega, by go_num, by rw [HNx.out false _ hq1 rfl]; simp, hbd⟩
            case measure => simp [intOf]; omega
          · rcases hq2 : ((la : Int) + 1 == (lm : Int)) with _ | _
            · go_wp2_with fail
              refine wp_walk (by kernel_rfl) (by kernel_rfl) (fun _ _ => True) (fun w' => (w'.cell? ⟨P, 0, none⟩ = some (.int .i64 (a : Int)) ∧ w'.cell? ⟨P, 1, none⟩ = some (.int .i64 (b : Int)) ∧ w'.cell? ⟨g, o + a, none⟩ = some (.int .i64 (la : Int)) ∧ w'.cell? ⟨g, o + m, none⟩ = some (.int .i64 (lm : Int)) ∧ ∃ k, w' = Wb.drewN k)) hS0 ?_
              repeat (first | (refine settle_skip (fun _ => by rfl) ?_; (simp only [Act.put, List.setIfInBounds_toArray, List.set_cons_zero, List.set_cons_succ])) | (refine' settle_run (fun _ _ => trivial) (fun _ => by rfl) ?_ ?_; rotate_left; (focus (intro ρ w hS hF; (try dsimp only at hS); go_split_ands; go_simp; try with_reducible rfl)); (simp only [Act.put, List.setIfInBounds_toArray, List.set_cons_zero, List.set_cons_succ])))
              refine settle_nil ?_
              intro ρ w7 hS _
              obtain ⟨-, -, -, -, kd, rfl⟩ := hS
              have hbd := below_drewN hbb kd
              clear hS0 k0 k1
              dsimp only
              go_wp2_with fail
              go_roundw
              case rel => exact ⟨j + 1, by omega, by go_num, by rw [HNx.out true false hq1 hq2]; simp, hbd⟩
              case measure => simp [intOf]; omega
            · go_wp2_with fail
              refine wp_walk (by kernel_rfl) (by kernel_rfl) (fun _ _ => True) (fun w' => (w'.cell? ⟨P, 0, none⟩ = some (.int .i64 (a : Int)) ∧ w'.cell? ⟨P, 1, none⟩ = some (.int .i64 (b : Int)) ∧ w'.cell? ⟨g, o + a, none⟩ = some (.int .i64 (la : Int)) ∧ w'.cell? ⟨g, o + m, none⟩ = some (.int .i64 (lm : Int)) ∧ ∃ k, w' = Wb.drewN k)) hS0 ?_
              repeat (first | (refine settle_skip (fun _ => by rfl) ?_; (simp only [Act.put, List.setIfInBounds_toArray, List.set_cons_zero, List.set_cons_succ])) | (refine' settle_run (fun _ _ => trivial) (fun _ => by rfl) ?_ ?_; rotate_left; (focus (intro ρ w hS hF; (try dsimp only at hS); go_split_ands; go_simp; try with_reducible rfl)); (simp only [Act.put, List.setIfInBounds_toArray, List.set_cons_zero, List.set_cons_succ])))
              refine settle_nil ?_
              intro ρ w7 hS _
              obtain ⟨k0', -, -, -, kd, rfl⟩ := hS
              have hbd := below_drewN hbb kd
              have hmin : ((min fr a : Nat) : Int) = min (fr : Int) (a : Int) := by omega
              clear hS0 k1 k0
              generalize Wb.drewN kd = w8 at k0' hbd ⊢
              dsimp only
              go_wp2_with fail
              go_roundw
              case rel => exact ⟨j + 1, by omega, by go_num, by rw [HNx.out true true hq1 hq2]; simpa using hmin.symm, hbd⟩
              case measure => simp [intOf]; omega
        · have hje : j = es.length := by omega
          subst hje
          have hcp := Gr.cpre_all N es L m
          rw [hcp]
          have hlm0 := of_decide_eq_true h0
          obtain ⟨hpc, hlme, hpl, hown⟩ := HP.out
          have hpv := Gr.cprev_is (n := m) hL (fun e he => (hes e he).1) (by omega)
          obtain ⟨m', hm'⟩ : ∃ m', m' = Gr.cprev N es L m := ⟨_, rfl⟩
          rw [← hm'] at hpv ⊢
          have hlm' : Gr.lget L m = Gr.lget L m' + 1 := by omega
          have hpc' : (pre ++ [m]) ++ Gr.cback N es L (Gr.lget L m') m' = Gr.cback N es L (Gr.lget L n0) n0 := by
            rw [← hpc, hlm', Gr.cback, ← hm', List.append_assoc]
            rfl
          have hpl' : ((pre ++ [m]) ++ [m']).length ≤ N + 1 := by
            have h1 := congrArg List.length hpc'
            rw [List.length_append, Gr.cback_length, Gr.cback_length] at h1
            have := hLm n0
            rw [List.length_append]
            simp only [List.length_singleton]
            omega
          obtain ⟨M, hM⟩ : ∃ M, M = (pre ++ [m]).length := ⟨_, rfl⟩
          rw [← hM] at hown hpl
          have hHM := Lib.hid (show M + 1 ≤ maxLen ∧ (M + 1) * 8 ≤ 140737488355328 by unfold maxLen; omega)
          have hsz := hbw.size
          have hown6 := own_keeps hown (Keeps.of_below hbi (fun _ => False)) (fun _ _ => id)
          have HE := Lib.hid (And.intro hpc' (And.intro hpl' (And.intro hpv (And.intro hlm' (And.intro hM hlme)))))
          clear hcp hpc hlme hpl hown hpv hlm' hpc' hpl' hM hm' HP
          go_wp2_with (first
            | (at_builtin; refine wp_push_at _ _ _ _ (by first | rfl | simp) _ _ _ _ _ _ Tryd.underlying26 info_int rfl (by decide) hown6 [.int .i64 (m' : Int)] rfl (by simp [Value.oneCell']) hHM.out.1 hHM.out.2 hsz rfl rfl rfl rfl ?_; intro v7 w7 hr7 hg7 hv7 hb7)
            | fail)
          have hb7' := hbw.trans hb7
          clear hown6 hg7 hv7 hb7
          go_roundw
          case rel =>
            refine ⟨m', pre ++ [m], rfl, HE.out.2.2.1.2.2, HE.out.2.1, ?_, HE.out.1, hb7'⟩
            rw [List.length_append, ← HE.out.2.2.2.2.1, ilist_app']
            exact hr7
          case measure => simp only [intOf, Int.toNat_natCast]; have := HE.out.2.2.2.1; omega
end Go.Proofs.YtfjmhmfkhgjnhaaDoor


namespace Go.Proofs.YtfjmhmfkhgjnhaaDoor
set_option linter.unusedVariables false
set_option linter.unusedSimpArgs false
set_option maxRecDepth 100000
open Go.RowKit

set_option maxHeartbeats 4000000 in
theorem chain_no (R : Int) (hR : R ≠ 0) (w : World) (A : Option Addr) (l c : Nat) (n : Int)
    (hs : ∀ w', Below w.heap.size w w' → Calls Tryd.prog 10 #[.agg #[.int .i64 n, .slice A l c]] w' fun e w'' => ∃ v, e = .returned (.tuple #[v, .int .i64 R]) ∧ Below w'.heap.size w' w'') :
    Calls Tryd.prog 11 #[.agg #[.int .i64 n, .slice A l c]] w fun e w' => e = .returned (.tuple #[.slice none 0 0, .int .i64 R]) ∧ Below w.heap.size w w' := by
  have x0 := Blk.new w 24 [.int .i64 n, .slice A l c]
  have hb0 : Below w.heap.size w (w.alloc (.cells #[.int .i64 n, .slice A l c] 24)) := below_alloc (Below.refl _ _) _
  go_enter Tryd.func11, Tryd.ntmps11
  go_upto_region 1 with (fail)
  generalize (w.alloc (.cells #[.int .i64 n, .slice A l c] 24)) = W0 at x0 hb0 ⊢
  have d0 : W0.cell? ⟨w.heap.size, 0, none⟩ = some (.int .i64 n) := (x0.cell 0).trans rfl
  have d1 : W0.cell? ⟨w.heap.size, 1, none⟩ = some (.slice A l c) := (x0.cell 1).trans rfl
  have g0 : (R != 0) = true := by simpa using hR
  have HR := Lib.hid hR
  clear hR
  go_wp2_with fail
  refine (hs W0 hb0).mono ?_
  rintro e w1 ⟨v, rfl, hb1⟩
  have hb01 := below_next hb1 hb0
  have HB := Lib.hid hb01
  clear d0 d1 x0 hs hb1 hb0 hb01
  go_wp2_with fail
  go_ret2
  exact ⟨rfl, HB.out⟩

theorem chain_any (n : Int) (es : List Gr.Er) (w : World) (A : Option Addr) (c : Nat) (hA : SlV w 2 (.slice A es.length c) es.length (ercs es)) (hle : es.length ≤ 1099511627776) (hT : Tab w) :
    Calls Tryd.prog 11 #[.agg #[.int .i64 n, .slice A es.length c]] w fun e w' => ∃ u L C, e = .returned (.tuple #[u, .int .i64 (Gr.wrong n es)]) ∧ (Gr.wrong n es ≠ 0 → C = []) ∧ (Gr.wrong n es = 0 → Gr.LvL n.toNat (Gr.nat es) L ∧ Gr.ChainSaid n.toNat (Gr.nat es) L C) ∧ w'.ownsRow w.heap.size 3 1 u C.length (ilist C) ∧ Below w.heap.size w w' := by
  have hbh := fun w' (hb : Below w.heap.size w w') => levels_any n es w' A c (hA.below hb) hle (hT.later hT.lt hb)
  by_cases h0 : Gr.wrong n es = 0
  · obtain ⟨N, rfl, hN, hes, hln, hcs, hful⟩ := Gr.wrong_none h0
    rw [Int.toNat_natCast] at hbh ⊢
    have := chain_yes N (Gr.nat es) w A c hN hes (by rw [hln, ← hcs]; exact hA) (by omega) (fun w' hb => by
      rw [hln]
      refine (hbh w' hb).mono ?_
      rintro e w'' ⟨v, L, rfl, hr, -, h2, h3⟩
      exact ⟨v, L, by rw [h0], (h2 h0).1, (h2 h0).2, hr, h3⟩)
    rw [hln] at this
    refine this.mono ?_
    rintro e w' ⟨u, L, C, rfl, h1, h2, h3, h4⟩
    exact ⟨u, L, C, by rw [h0], fun h => absurd h0 h, fun _ => ⟨h1, h2⟩, h3, h4⟩
  · refine (chain_no (Gr.wrong n es) h0 w A es.length c n fun w' hb => ?_).mono ?_
    · refine (hbh w' hb).mono ?_
      rintro e w'' ⟨v, L, rfl, -, -, -, h3⟩
      exact ⟨v, rfl, h3⟩
    · rintro e w' ⟨rfl, h2⟩
      exact ⟨_, [], [], rfl, fun _ => rfl, fun h => absurd h h0, World.ownsRow_nil _ _ _ _, h2⟩
end Go.Proofs.YtfjmhmfkhgjnhaaDoor


namespace Go.Proofs.YtfjmhmfkhgjnhaaDoor.Cn
set_option linter.unusedVariables false
set_option linter.unusedSimpArgs false
set_option maxRecDepth 100000

def sg (N : Nat) (f : Nat → Nat) : Nat := ((List.range N).map f).sum
theorem sg_zero (f : Nat → Nat) : sg 0 f = 0 := rfl
theorem sg_succ (N : Nat) (f : Nat → Nat) : sg (N + 1) f = sg N f + f N := by
  unfold sg
  rw [List.range_succ, List.map_append, List.sum_append]
  simp
theorem sg_congr : ∀ {N : Nat} {f g : Nat → Nat}, (∀ n, n < N → f n = g n) → sg N f = sg N g
  | 0, _, _, _ => rfl
  | N + 1, f, g, h => by rw [sg_succ, sg_succ, sg_congr (fun n hn => h n (by omega)), h N (by omega)]
theorem sg_le : ∀ {N : Nat} {f g : Nat → Nat}, (∀ n, n < N → f n ≤ g n) → sg N f ≤ sg N g
  | 0, _, _, _ => Nat.le_refl _
  | N + 1, f, g, h => by
    rw [sg_succ, sg_succ]
    exact Nat.add_le_add (sg_le (fun n hn => h n (by omega))) (h N (by omega))
theorem sg_const (N c : Nat) : sg N (fun _ => c) = N * c := by
  induction N with
  | zero => simp [sg]
  | succ N ih => rw [sg_succ, ih, Nat.add_mul, Nat.one_mul]
theorem sg_add (N : Nat) (f g : Nat → Nat) : sg N (fun n => f n + g n) = sg N f + sg N g := by
  induction N with
  | zero => rfl
  | succ N ih => rw [sg_succ, sg_succ, sg_succ, ih]; omega
theorem sg_mul (N c : Nat) (f : Nat → Nat) : sg N (fun n => c * f n) = c * sg N f := by
  induction N with
  | zero => simp [sg]
  | succ N ih => rw [sg_succ, sg_succ, ih, Nat.mul_add]
theorem sg_split (a : Nat) (f : Nat → Nat) : ∀ b, sg (a + b) f = sg a f + sg b (fun i => f (a + i))
  | 0 => by simp [sg_zero]
  | b + 1 => by rw [← Nat.add_assoc, sg_succ, sg_succ, sg_split a f b]; omega
theorem sg_swap (N M : Nat) (f : Nat → Nat → Nat) : sg N (fun n => sg M (f n)) = sg M (fun m => sg N (fun n => f n m)) := by
  induction N with
  | zero => simp only [sg_zero]; rw [sg_const, Nat.mul_zero]
  | succ N ih => rw [sg_succ, ih, ← sg_add]; exact sg_congr fun m _ => (sg_succ N _).symm
theorem sg_one {N k : Nat} (hk : k < N) (f : Nat → Nat) : sg N (fun n => if n = k then f n else 0) = f k := by
  induction N with
  | zero => omega
  | succ N ih =>
    rw [sg_succ]
    by_cases e : k = N
    · subst e
      rw [if_pos rfl, sg_congr (g := fun _ => 0) (fun n hn => if_neg (by omega)), sg_const]
      omega
    · rw [ih (by omega), if_neg (fun h => e h.symm), Nat.add_zero]
theorem sg_zero_iff {N : Nat} {f : Nat → Nat} : sg N f = 0 ↔ ∀ n, n < N → f n = 0 := by
  induction N with
  | zero => exact ⟨fun _ n h => by omega, fun _ => rfl⟩
  | succ N ih =>
    rw [sg_succ, Nat.add_eq_zero_iff, ih]
    constructor
    · rintro ⟨h1, h2⟩ n hn
      by_cases e : n = N
      · subst e; exact h2
      · exact h1 n (by omega)
    · exact fun h => ⟨fun n hn => h n (by omega), h N (by omega)⟩

/-! ### sets of numbers below N, as numbers -/
def bit (s n : Nat) : Bool := s.testBit n
theorem bit_ge {s n : Nat} (h : bit s n = true) : 2 ^ n ≤ s := Nat.ge_two_pow_of_testBit h
theorem bit_add {t n : Nat} (h : bit t n = false) (m : Nat) : bit (2 ^ n + t) m = (bit t m || decide (m = n)) := by
  unfold bit at h ⊢
  rcases Nat.lt_trichotomy m n with h1 | h1 | h1
  · rw [Nat.testBit_two_pow_add_gt h1]
    simp [Nat.ne_of_lt h1]
  · subst h1
    rw [Nat.testBit_two_pow_add_eq, h]
    simp
  · have hr : t % 2 ^ (n + 1) < 2 ^ n := by
      refine Nat.lt_pow_two_of_testBit _ fun i hi => ?_
      rw [Nat.testBit_mod_two_pow]
      by_cases e : i = n
      · subst e; rw [h]; simp
      · rw [show decide (i < n + 1) = false by simp; omega]; rfl
    have hdm := Nat.div_add_mod t (2 ^ (n + 1))
    have e2 : 2 ^ n + t = 2 ^ (n + 1) * (t / 2 ^ (n + 1)) + (2 ^ n + t % 2 ^ (n + 1)) := by omega
    have hp : 2 ^ (n + 1) = 2 ^ n + 2 ^ n := by rw [Nat.pow_succ]; omega
    rw [e2, Nat.testBit_two_pow_mul_add _ (by omega), if_neg (by omega)]
    conv => rhs; rw [← hdm]
    rw [Nat.testBit_two_pow_mul_add _ (by omega), if_neg (by omega)]
    simp [Nat.ne_of_gt h1]
theorem bit_off {s n m : Nat} (h : bit s n = true) : bit (s - 2 ^ n) m = (bit s m && decide (m ≠ n)) := by
  have hge := bit_ge h
  obtain ⟨t, ht⟩ : ∃ t, t = s - 2 ^ n := ⟨_, rfl⟩
  have hs : s = 2 ^ n + t := by omega
  rw [← ht]
  have htn : bit t n = false := by
    unfold bit at h ⊢
    rw [hs, Nat.testBit_two_pow_add_eq] at h
    simpa using h
  rw [hs, bit_add htn]
  by_cases e : m = n
  · subst e; simp [htn]
  · simp [e]
theorem bit_lt {N s n : Nat} (hs : s < 2 ^ N) (h : bit s n = true) : n < N := by
  refine Decidable.byContradiction fun hn => ?_
  unfold bit at h
  rw [Nat.testBit_lt_two_pow (Nat.lt_of_lt_of_le hs (Nat.pow_le_pow_right (by decide) (by omega)))] at h
  cases h
theorem off_lt {N s n : Nat} (hs : s < 2 ^ N) : s - 2 ^ n < 2 ^ N := Nat.lt_of_le_of_lt (Nat.sub_le _ _) hs
theorem bit_ext {s t : Nat} (h : ∀ n, bit s n = bit t n) : s = t := Nat.eq_of_testBit_eq h
theorem bit_zero (n : Nat) : bit 0 n = false := Nat.zero_testBit n

/-! ### how many -/
def pop (N s : Nat) : Nat := sg N fun n => if bit s n then 1 else 0
theorem pop_le (N s : Nat) : pop N s ≤ N := by
  have := sg_le (N := N) (f := fun n => if bit s n then 1 else 0) (g := fun _ => 1) (fun n _ => by split <;> omega)
  rw [sg_const, Nat.mul_one] at this
  exact this
theorem pop_off {N s n : Nat} (hn : n < N) (h : bit s n = true) : pop N (s - 2 ^ n) + 1 = pop N s := by
  have h1 := sg_one hn (fun _ => 1)
  have h2 : pop N s = pop N (s - 2 ^ n) + sg N (fun m => if m = n then 1 else 0) := by
    unfold pop
    rw [← sg_add]
    refine sg_congr fun m _ => ?_
    rw [bit_off h]
    by_cases e : m = n
    · subst e; simp [h]
    · simp [e]
  omega
theorem pop_zero {N s : Nat} (hs : s < 2 ^ N) : pop N s = 0 ↔ s = 0 := by
  unfold pop
  rw [sg_zero_iff]
  constructor
  · intro h
    refine bit_ext fun n => ?_
    rw [bit_zero]
    by_cases hn : n < N
    · have := h n hn
      by_cases hb : bit s n = true
      · rw [if_pos hb] at this; cases this
      · simpa using hb
    · by_cases hb : bit s n = true
      · exact absurd (bit_lt hs hb) hn
      · simpa using hb
  · rintro rfl n _
    rw [bit_zero]
    rfl

/-! ### orders -/
/-- ok n s: n may come next, where those of s are out -/
def W (N : Nat) (ok : Nat → Nat → Bool) : Nat → Nat → Nat
  | 0, _ => 1
  | f + 1, s => sg N fun n => if bit s n && ok n (s - 2 ^ n) then W N ok f (s - 2 ^ n) else 0
/-- in how many orders those of s may come -/
def ord (N : Nat) (ok : Nat → Nat → Bool) (s : Nat) : Nat := W N ok (pop N s) s
section
variable {N : Nat} {ok : Nat → Nat → Bool}
theorem ord_zero : ord N ok 0 = 1 := by
  have : pop N 0 = 0 := (pop_zero (Nat.two_pow_pos N)).2 rfl
  unfold ord
  rw [this]
  rfl
theorem ord_step {s : Nat} (hs : s < 2 ^ N) (h0 : s ≠ 0) : ord N ok s = sg N fun n => if bit s n && ok n (s - 2 ^ n) then ord N ok (s - 2 ^ n) else 0 := by
  obtain ⟨f, hf⟩ : ∃ f, pop N s = f + 1 := ⟨pop N s - 1, by have : pop N s ≠ 0 := fun e => h0 ((pop_zero hs).1 e); omega⟩
  unfold ord
  rw [hf]
  refine sg_congr fun n hn => ?_
  by_cases hb : bit s n = true
  · have := pop_off hn hb
    rw [show pop N (s - 2 ^ n) = f by omega]
  · simp [hb]
theorem W_le (f s : Nat) : W N ok f s ≤ N ^ f := by
  induction f generalizing s with
  | zero => exact Nat.le_refl _
  | succ f ih =>
    show sg N _ ≤ _
    rw [Nat.pow_succ, Nat.mul_comm]
    have := sg_le (N := N) (f := fun n => if bit s n && ok n (s - 2 ^ n) then W N ok f (s - 2 ^ n) else 0) (g := fun _ => N ^ f) (fun n _ => by
      split
      · exact ih _
      · exact Nat.zero_le _)
    rw [sg_const] at this
    exact this
theorem ord_bound {s : Nat} (hN : N ≤ 14) : ord N ok s ≤ 11112006825558016 := by
  refine Nat.le_trans (W_le _ _) ?_
  by_cases h0 : N = 0
  · subst h0
    have : pop 0 s = 0 := rfl
    rw [this]; decide
  · have h1 : N ^ pop N s ≤ N ^ N := Nat.pow_le_pow_right (by omega) (pop_le N s)
    have h2 : N ^ N ≤ 14 ^ N := Nat.pow_le_pow_left hN N
    have h3 : 14 ^ N ≤ 14 ^ 14 := Nat.pow_le_pow_right (by decide) hN
    exact Nat.le_trans h1 (Nat.le_trans h2 (Nat.le_trans h3 (by decide)))
end
end Go.Proofs.YtfjmhmfkhgjnhaaDoor.Cn


namespace Go.Proofs.YtfjmhmfkhgjnhaaDoor.Cn
set_option linter.unusedVariables false
set_option linter.unusedSimpArgs false
set_option maxRecDepth 100000
open Gr (Ed)

section
variable {N : Nat} {ok : Nat → Nat → Bool}
/-- what is told to t when all sets below s have told all, and s the first n -/
def P (N : Nat) (ok : Nat → Nat → Bool) (s n t : Nat) : Nat := (if t = 0 then 1 else 0) + sg N fun m => if bit t m && ok m (t - 2 ^ m) && (decide (t - 2 ^ m < s) || (decide (t - 2 ^ m = s) && decide (m < n))) then ord N ok (t - 2 ^ m) else 0
theorem P_start (t : Nat) : P N ok 0 0 t = if t = 0 then 1 else 0 := by
  unfold P
  rw [sg_congr (g := fun _ => 0) (fun m _ => by simp), sg_const]
  omega
theorem bit_pos {s n : Nat} (h : bit s n = true) : s - 2 ^ n < s := by
  have := bit_ge h
  have := Nat.two_pow_pos n
  omega
theorem P_all {s t n : Nat} (ht : t < 2 ^ N) (hts : t ≤ s) : P N ok s n t = ord N ok t := by
  unfold P
  by_cases h0 : t = 0
  · subst h0
    rw [if_pos rfl, ord_zero, sg_congr (g := fun _ => 0) (fun m _ => by simp [bit_zero]), sg_const]
    omega
  · rw [if_neg h0, ord_step ht h0, Nat.zero_add]
    refine sg_congr fun m _ => ?_
    by_cases hb : bit t m = true
    · have := bit_pos hb
      rw [show decide (t - 2 ^ m < s) = true by simp; omega]
      simp
    · simp [hb]
theorem P_next (s t : Nat) : P N ok s N t = P N ok (s + 1) 0 t := by
  unfold P
  congr 1
  refine sg_congr fun m hm => ?_
  have : (decide (t - 2 ^ m < s) || (decide (t - 2 ^ m = s) && decide (m < N))) = (decide (t - 2 ^ m < s + 1) || (decide (t - 2 ^ m = s + 1) && decide (m < 0))) := by
    rw [Bool.eq_iff_iff]
    simp
    omega
  rw [this]
theorem P_step {s n : Nat} (hn : n < N) (hb : bit s n = false) (hok : ok n s = true) (t : Nat) : P N ok s (n + 1) t = P N ok s n t + (if t = s + 2 ^ n then ord N ok s else 0) := by
  unfold P
  rw [Nat.add_assoc]
  congr 1
  have h1 := sg_one hn (fun _ => if t = s + 2 ^ n then ord N ok s else 0)
  rw [← h1, ← sg_add]
  refine sg_congr fun m _ => ?_
  by_cases e : m = n
  · subst e
    rw [if_pos rfl]
    by_cases ht : t = s + 2 ^ m
    · subst ht
      have hbt : bit (s + 2 ^ m) m = true := by rw [Nat.add_comm, bit_add hb]; simp
      rw [if_pos rfl, show s + 2 ^ m - 2 ^ m = s by omega, hbt, hok]
      simp
    · rw [if_neg ht, Nat.add_zero]
      by_cases hbt : bit t m = true
      · have hne : t - 2 ^ m ≠ s := fun e => ht (by have := bit_ge hbt; omega)
        simp [hne]
      · simp [hbt]
  · rw [if_neg e, Nat.add_zero]
    have : decide (m < n + 1) = decide (m < n) := by
      rw [decide_eq_decide]
      omega
    rw [this]
    rfl
theorem P_skip {s n : Nat} (h : bit s n = true ∨ ok n s = false ∨ ord N ok s = 0) (t : Nat) : P N ok s (n + 1) t = P N ok s n t := by
  unfold P
  congr 1
  refine sg_congr fun m _ => ?_
  by_cases e : m = n ∧ t - 2 ^ m = s ∧ bit t m = true
  · obtain ⟨rfl, h2, h3⟩ := e
    rw [h2, h3]
    rcases h with h | h | h
    · have := bit_off (m := m) h3
      rw [h2, h] at this
      simp at this
    · simp [h]
    · simp [h]
  · have : (bit t m && ok m (t - 2 ^ m) && (decide (t - 2 ^ m < s) || (decide (t - 2 ^ m = s) && decide (m < n + 1)))) = (bit t m && ok m (t - 2 ^ m) && (decide (t - 2 ^ m < s) || (decide (t - 2 ^ m = s) && decide (m < n)))) := by
      by_cases hb : bit t m = true
      · by_cases h2 : t - 2 ^ m = s
        · have hmn : m ≠ n := fun e' => e ⟨e', h2, hb⟩
          rw [show decide (m < n + 1) = decide (m < n) by rw [decide_eq_decide]; omega]
        · simp [h2]
      · simp [hb]
    rw [this]
theorem P_le {s n t : Nat} (ht : t < 2 ^ N) : P N ok s n t ≤ ord N ok t := by
  unfold P
  by_cases h0 : t = 0
  · subst h0
    rw [if_pos rfl, ord_zero, sg_congr (g := fun _ => 0) (fun m _ => by simp [bit_zero]), sg_const]
    omega
  · rw [if_neg h0, ord_step ht h0, Nat.zero_add]
    refine sg_le fun m _ => ?_
    by_cases h1 : (bit t m && ok m (t - 2 ^ m)) = true
    · rw [h1, Bool.true_and]
      split
      · rw [if_pos rfl]; exact Nat.le_refl _
      · exact Nat.zero_le _
    · rw [Bool.not_eq_true] at h1
      rw [h1, Bool.false_and]
      simp
end

/-! ### a graph's orders -/
def okE (es : List Ed) (n s : Nat) : Bool := es.all fun e => e.2 != n || bit s e.1
theorem okE_iff {es : List Ed} {n s : Nat} : okE es n s = true ↔ ∀ e ∈ es, e.2 = n → bit s e.1 = true := by
  unfold okE
  rw [List.all_eq_true]
  constructor
  · intro h e he en
    have := h e he
    rw [en] at this
    simpa using this
  · intro h e he
    by_cases en : e.2 = n
    · rw [h e he en]; simp
    · simp [en]
/-- those ahead of n -/
def ahead (es : List Ed) (n : Nat) : Nat := es.foldl (fun m e => if e.2 = n then m ||| 2 ^ e.1 else m) 0
theorem ahead_snoc (es : List Ed) (e : Ed) (n : Nat) : ahead (es ++ [e]) n = if e.2 = n then ahead es n ||| 2 ^ e.1 else ahead es n := by
  unfold ahead
  rw [List.foldl_append]
  rfl
theorem fold_or_bit (n x : Nat) : ∀ (es : List Ed) (m : Nat), bit (es.foldl (fun m e => if e.2 = n then m ||| 2 ^ e.1 else m) m) x = (bit m x || es.any fun e => e.2 == n && e.1 == x)
  | [], m => by simp
  | e :: es, m => by
    rw [List.foldl_cons, fold_or_bit n x es, List.any_cons]
    by_cases h : e.2 = n
    · rw [if_pos h, show (e.2 == n) = true by simpa using h, Bool.true_and, ← Bool.or_assoc]
      congr 1
      unfold bit
      rw [Nat.testBit_or, Nat.testBit_two_pow]
      congr 1
    · rw [if_neg h, show (e.2 == n) = false by simpa using h, Bool.false_and, Bool.false_or]
theorem ahead_bit (es : List Ed) (n x : Nat) : bit (ahead es n) x = es.any fun e => e.2 == n && e.1 == x := by
  unfold ahead
  rw [fold_or_bit, bit_zero, Bool.false_or]
theorem ahead_lt {N : Nat} {es : List Ed} (h : ∀ e ∈ es, e.1 < N) (n : Nat) : ahead es n < 2 ^ N := by
  refine Nat.lt_pow_two_of_testBit _ fun x hx => ?_
  have := ahead_bit es n x
  unfold bit at this
  rw [this]
  rw [List.any_eq_false]
  intro e he
  have := h e he
  simp
  intro _
  omega
/-- none of those ahead is missing -/
theorem okE_ahead (es : List Ed) (n s : Nat) : okE es n s = true ↔ ∀ x, bit (ahead es n) x = true → bit s x = true := by
  rw [okE_iff]
  constructor
  · intro h x hx
    rw [ahead_bit, List.any_eq_true] at hx
    obtain ⟨e, he, hex⟩ := hx
    simp at hex
    rw [← hex.2]
    exact h e he hex.1
  · intro h e he en
    refine h e.1 ?_
    rw [ahead_bit, List.any_eq_true]
    exact ⟨e, he, by simp [en]⟩
end Go.Proofs.YtfjmhmfkhgjnhaaDoor.Cn


namespace Go.Proofs.YtfjmhmfkhgjnhaaDoor.Cn
set_option linter.unusedVariables false
set_option linter.unusedSimpArgs false
set_option maxRecDepth 100000
open Go Go.RowKit

theorem ofInt_nat {a : Nat} (ha : a < 9223372036854775808) : (BitVec.ofInt 64 (a : Int)).toNat = a := by
  rw [BitVec.ofInt_natCast, BitVec.toNat_ofNat]; exact Nat.mod_eq_of_lt (by omega)
theorem bits_or_i64 (a b : Nat) (ha : a < 9223372036854775808) (hb : b < 9223372036854775808) : bits .or .i64 (a : Int) (b : Int) = ((a ||| b : Nat) : Int) := by
  have hx : a ||| b < 2 ^ 63 := Nat.or_lt_two_pow (by omega) (by omega)
  show IntKind.i64.wrap ((BitVec.ofInt 64 (a : Int) ||| BitVec.ofInt 64 (b : Int)).toNat : Int) = _
  rw [BitVec.toNat_or, ofInt_nat ha, ofInt_nat hb]
  exact IntWalk.i64_in _ (by omega)
theorem bits_and_i64 (a b : Nat) (ha : a < 9223372036854775808) (hb : b < 9223372036854775808) : bits .and .i64 (a : Int) (b : Int) = ((a &&& b : Nat) : Int) := by
  have hx : a &&& b < 2 ^ 63 := Nat.and_lt_two_pow _ (by omega)
  show IntKind.i64.wrap ((BitVec.ofInt 64 (a : Int) &&& BitVec.ofInt 64 (b : Int)).toNat : Int) = _
  rw [BitVec.toNat_and, ofInt_nat ha, ofInt_nat hb]
  exact IntWalk.i64_in _ (by omega)
/-- what is in the first alone -/
def lack (a b : Nat) : Nat := a &&& (18446744073709551615 - b)
theorem lack_lt {a b : Nat} (ha : a < 9223372036854775808) : lack a b < 9223372036854775808 := Nat.lt_of_le_of_lt Nat.and_le_left ha
theorem bits_andNot_i64 (a b : Nat) (ha : a < 9223372036854775808) (hb : b < 9223372036854775808) : bits .andNot .i64 (a : Int) (b : Int) = ((lack a b : Nat) : Int) := by
  have hx := lack_lt (b := b) ha
  show IntKind.i64.wrap ((BitVec.ofInt 64 (a : Int) &&& ~~~ BitVec.ofInt 64 (b : Int)).toNat : Int) = _
  rw [BitVec.toNat_and, BitVec.toNat_not, ofInt_nat ha, ofInt_nat hb]
  unfold lack at *
  rw [show 2 ^ 64 - 1 - b = 18446744073709551615 - b by omega]
  exact IntWalk.i64_in _ (by omega)
theorem lack_zero {a b : Nat} (ha : a < 9223372036854775808) (hb : b < 9223372036854775808) : lack a b = 0 ↔ ∀ x, bit a x = true → bit b x = true := by
  have key : ∀ x, x < 64 → bit (lack a b) x = (bit a x && !bit b x) := fun x hx => by
    unfold lack bit
    rw [Nat.testBit_and, show 18446744073709551615 - b = 2 ^ 64 - (b + 1) by omega, Nat.testBit_two_pow_sub_succ (show b < 2 ^ 64 by omega)]
    simp [hx]
  have h63 : (9223372036854775808 : Nat) = 2 ^ 63 := by decide
  constructor
  · intro h x hx
    have hx64 := bit_lt (N := 63) (by rw [← h63]; exact ha) hx
    have := key x (by omega)
    rw [h, bit_zero, hx, Bool.true_and] at this
    simpa using this.symm
  · intro h
    refine bit_ext fun x => ?_
    rw [bit_zero]
    by_cases hx : x < 64
    · rw [key x hx]
      by_cases hax : bit a x = true
      · rw [h x hax]; simp
      · simp [hax]
    · have hl := lack_lt (b := b) ha
      rcases e : bit (lack a b) x with _ | _
      · rfl
      · have := bit_lt (N := 63) (by rw [← h63]; exact hl) e
        omega
theorem bit_mod (s n : Nat) : s / 2 ^ n % 2 = if bit s n then 1 else 0 := by
  unfold bit
  rw [Nat.testBit_eq_decide_div_mod_eq]
  have := Nat.mod_lt (s / 2 ^ n) (show 0 < 2 by decide)
  by_cases h : s / 2 ^ n % 2 = 1
  · simp [h]
  · simp [h]; omega
theorem two_pow_small {n : Nat} (hn : n ≤ 14) : 2 ^ n ≤ 16384 := Nat.pow_le_pow_right (by decide) hn
theorem or_add {s n : Nat} (h : bit s n = false) : s ||| 2 ^ n = s + 2 ^ n := by
  refine bit_ext fun m => ?_
  rw [Nat.add_comm, bit_add h]
  unfold bit
  rw [Nat.testBit_or, Nat.testBit_two_pow]
  congr 1
  rw [decide_eq_decide]
  exact ⟨fun e => e.symm, fun e => e.symm⟩
end Go.Proofs.YtfjmhmfkhgjnhaaDoor.Cn


namespace Go.Proofs.YtfjmhmfkhgjnhaaDoor
set_option linter.unusedVariables false
set_option linter.unusedSimpArgs false
set_option maxRecDepth 100000
open Go.RowKit

theorem info_u64 : (Tryd.prog.info? 34).map (fun i => (i.zero, i.size, i.bytes)) = some (some (.int .u64 0), 1, 8) := by kernel_rfl
def aheads (N : Nat) (es : List Gr.Ed) : List Nat := (List.range N).map (Cn.ahead es)
theorem aheads_nil (N : Nat) : aheads N [] = List.replicate N 0 := by
  apply List.ext_getElem
  · simp [aheads]
  · intro i h h'; simp [aheads, Cn.ahead]
theorem aheads_snoc (N : Nat) (es : List Gr.Ed) (a b : Nat) : aheads N (es ++ [(a, b)]) = (aheads N es).set b (Cn.ahead es b ||| 2 ^ a) := by
  unfold aheads
  rw [Gr.map_set]
  refine List.map_congr_left fun m _ => ?_
  rw [Cn.ahead_snoc]
  by_cases h : b = m
  · subst h; simp
  · rw [if_neg h, if_neg (fun e => h e.symm)]
theorem ilist_set (L : List Nat) (i x : Nat) : ilist (L.set i x) = (ilist L).set i (.int .i64 (x : Int)) := by
  unfold ilist
  rw [List.map_set, ints_set]

/-- what the sets hold -/
def ways (N : Nat) (es : List Gr.Ed) (M s n : Nat) : List Nat := (List.range M).map (Cn.P N (Cn.okE es) s n)
theorem ways_get (N : Nat) (es : List Gr.Ed) {M s n t : Nat} (ht : t < M) : (ways N es M s n)[t]? = some (Cn.P N (Cn.okE es) s n t) := Gr.map_get _ _ _ ht
theorem ways_start (N : Nat) (es : List Gr.Ed) (M : Nat) : nats (ways N es M 0 0) = (List.replicate M (Value.int .u64 0)).set 0 (.int .u64 1) := by
  apply List.ext_getElem?
  intro i
  by_cases hi : i < M
  · rw [nats_get _ _ _ (ways_get N es hi), Cn.P_start]
    by_cases h0 : i = 0
    · subst h0
      rw [List.getElem?_set_self (by simpa using hi)]
      rfl
    · rw [List.getElem?_set_ne (fun e => h0 e.symm), List.getElem?_replicate, if_pos hi, if_neg h0]
      rfl
  · rw [List.getElem?_eq_none (by rw [nats_length]; unfold ways; simp; omega), List.getElem?_eq_none (by simp; omega)]
theorem ways_step {N : Nat} {es : List Gr.Ed} {M s n : Nat} (hn : n < N) (hb : Cn.bit s n = false) (hok : Cn.okE es n s = true) : ways N es M s (n + 1) = (ways N es M s n).set (s + 2 ^ n) (Cn.P N (Cn.okE es) s n (s + 2 ^ n) + Cn.ord N (Cn.okE es) s) := by
  unfold ways
  rw [Gr.map_set]
  refine List.map_congr_left fun t _ => ?_
  rw [Cn.P_step hn hb hok]
  by_cases e : t = s + 2 ^ n
  · rw [if_pos e, if_pos e, e]
  · rw [if_neg e, if_neg e, Nat.add_zero]
theorem ways_skip {N : Nat} {es : List Gr.Ed} {M s n : Nat} (h : Cn.bit s n = true ∨ Cn.okE es n s = false ∨ Cn.ord N (Cn.okE es) s = 0) : ways N es M s (n + 1) = ways N es M s n :=
  List.map_congr_left fun t _ => Cn.P_skip h t
theorem ways_next (N : Nat) (es : List Gr.Ed) (M s : Nat) : ways N es M s N = ways N es M (s + 1) 0 := List.map_congr_left fun t _ => Cn.P_next s t
theorem test_bit {s n : Nat} (hs : s < 9223372036854775808) : (bits .and .i64 ((s : Int) / 2 ^ n) 1 == 0) = !(Cn.bit s n) := by
  have h1 : (s : Int) / 2 ^ n = ((s / 2 ^ n : Nat) : Int) := by simp
  have h2 : s / 2 ^ n ≤ s := Nat.div_le_self _ _
  rw [h1, show (1 : Int) = ((1 : Nat) : Int) from rfl, Cn.bits_and_i64 _ 1 (by omega) (by omega), Nat.and_one_is_mod, Cn.bit_mod]
  cases Cn.bit s n <;> rfl
theorem test_ok {es : List Gr.Ed} {s n : Nat} (hs : s < 9223372036854775808) (ha : Cn.ahead es n < 9223372036854775808) : (bits .andNot .i64 ((Cn.ahead es n : Nat) : Int) (s : Int) == 0) = Cn.okE es n s := by
  rw [Cn.bits_andNot_i64 _ _ ha hs, Bool.eq_iff_iff, Cn.okE_ahead, ← Cn.lack_zero ha hs]
  simp only [beq_iff_eq]
  omega


set_option maxHeartbeats 4000000 in
theorem count_yes (N : Nat) (es : List Gr.Ed) (w : World) (A : Option Addr) (c : Nat) (hN : N ≤ 14) (hes : ∀ e ∈ es, e.1 < N ∧ e.2 < N) (hA : SlV w 2 (.slice A es.length c) es.length (edcs es)) (hle : es.length ≤ 1099511627776)
    (hwr : ∀ w', Below w.heap.size w w' → Calls Tryd.prog 29 #[.agg #[.int .i64 (N : Int), .slice A es.length c]] w' fun e w'' => e = .returned (.int .i64 0) ∧ Below w'.heap.size w' w'') :
    Calls Tryd.prog 15 #[.agg #[.int .i64 (N : Int), .slice A es.length c]] w fun e w' => e = .returned (.tuple #[.int .u64 ((Cn.ord N (Cn.okE es) (2 ^ N - 1) : Nat) : Int), .int .i64 0]) ∧ Below w.heap.size w w' := by
  have HES := Lib.hid hes
  obtain ⟨R, hR⟩ : ∃ R, R = Cn.ord N (Cn.okE es) (2 ^ N - 1) := ⟨_, rfl⟩
  rw [← hR]
  have HRR := Lib.hid hR
  clear hR
  have x0 := Blk.new w 24 [.int .i64 (N : Int), .slice A es.length c]
  have hb0 : Below w.heap.size w (w.alloc (.cells #[.int .i64 (N : Int), .slice A es.length c] 24)) := below_alloc (Below.refl _ _) _
  have hwr1 := hwr _ hb0
  clear hes hwr
  have n47 : 8 * N ≤ 281474976710656 := by omega
  have n63 : N ≤ 9223372036854775807 := by omega
  go_enter Tryd.func15, Tryd.ntmps15
  go_upto_region 1 with (fail)
  generalize (w.alloc (.cells #[.int .i64 (N : Int), .slice A es.length c] 24)) = V0 at x0 hb0 hwr1 ⊢
  have d0 : V0.cell? ⟨w.heap.size, 0, none⟩ = some (.int .i64 (N : Int)) := (x0.cell 0).trans rfl
  have d1 : V0.cell? ⟨w.heap.size, 1, none⟩ = some (.slice A es.length c) := (x0.cell 1).trans rfl
  go_wp2_with fail
  refine hwr1.mono ?_
  rintro _ w1 ⟨rfl, hb1⟩
  have x1 := x0.below hb1
  have hb01 := below_next hb1 hb0
  have c0 : w1.cell? ⟨w.heap.size, 0, none⟩ = some (.int .i64 (N : Int)) := (x1.cell 0).trans rfl
  have c1 : w1.cell? ⟨w.heap.size, 1, none⟩ = some (.slice A es.length c) := (x1.cell 1).trans rfl
  have hlt1 := x1.lt
  clear hwr1 x0 hb0 hb1 d0 d1
  have hg14 : decide (14 < N) = false := by simp; omega
  go_wp2_with (first | (at_make; refine wp_make _ 26 3 (.int .i64 0) 8 N Tryd.underlying26 info_int rfl (by omega) (by omega) n47 n63 rfl rfl rfl rfl ?_; intro w2 hown2 hb2 hs2; have x2 := x1.below hb2; have c20 : w2.cell? ⟨w.heap.size, 0, none⟩ = some (.int .i64 (N : Int)) := (x2.cell 0).trans rfl; have c21 : w2.cell? ⟨w.heap.size, 1, none⟩ = some (.slice A es.length c) := (x2.cell 1).trans rfl) | fail)
  obtain ⟨gA, hgA⟩ : ∃ g, g = w1.heap.size := ⟨_, rfl⟩
  rw [← hgA] at hown2 hlt1 ⊢
  have hown2' : w2.ownsRow gA 3 1 (.slice (some ⟨gA, 0, none⟩) N N) N (ilist (aheads N (es.take 0))) := by
    rw [List.take_zero, aheads_nil]
    have e : ilist (List.replicate N 0) = List.replicate N (.int .i64 0) := by simp [ilist, ints]
    rw [e]
    exact hown2
  have HG := Lib.hid (And.intro hgA (And.intro hb01 hlt1))
  have HX1 := Lib.hid x1
  have HO2 := Lib.hid (And.intro hown2' hb2)
  have hA1 := hA.below hb01
  clear hown2 hown2' c0 c1 x1 hb01 hlt1 hgA c20 x2 hA hb2 hs2
  go_loopw [26] (fun i wr => ∃ k : Nat, k ≤ es.length ∧ i = .int .i64 (k : Int) ∧ wr.ownsRow gA 3 1 (.slice (some ⟨gA, 0, none⟩) N N) N (ilist (aheads N (es.take k))) ∧ Below w1.heap.size w1 wr) (fun i _ => es.length - (intOf i).toNat)
  case atStart => exact ⟨0, Nat.zero_le _, rfl, HO2.out.1, HO2.out.2⟩
  case round =>
    clear HO2 c21
    obtain ⟨k, hk, rfl, hro, hb⟩ := hrel
    by_cases hlt : k < es.length
    · obtain ⟨⟨a, b⟩, hx⟩ : ∃ x, es[k]? = some x := ⟨_, List.getElem?_eq_getElem hlt⟩
      obtain ⟨haN, hbN⟩ := HES.out _ (List.mem_of_getElem? hx)
      have gx := flat_get edc 2 (fun _ => rfl) es k
      have g1 := gx 0 _ hx (by omega)
      have g2 := gx 1 _ hx (by omega)
      obtain ⟨A', c', he, -, -, -, hcc⟩ := hA1.below hb
      injection he with e1 e2 e3
      subst e1 e3
      obtain ⟨g, o, rfl, hgl, hcell⟩ := hcc.at_ (fun e => by rw [show List.flatMap edc es = edcs es from rfl, e] at g1; simp [edc] at g1)
      have d0 : wr.cell? ⟨g, o + k * 2, none⟩ = some (.int .i64 (a : Int)) := (hcell _ _ g1).trans rfl
      have d1 : wr.cell? ⟨g, o + k * 2 + 1, none⟩ = some (.int .i64 (b : Int)) := by rw [Nat.add_assoc]; exact hcell _ _ g2
      have hE := Blk.new wr 39 [.int .i64 (a : Int), .int .i64 (b : Int)]
      have hb5 := below_alloc (Below.refl wr.heap.size wr) (.cells #[.int .i64 (a : Int), .int .i64 (b : Int)] 39)
      have hro5 := own_keeps hro (Keeps.of_below hb5 (fun _ => False)) (fun _ _ => id)
      have hsn := aheads_snoc N (es.take k) a b
      rw [← Gr.take_snoc hx] at hsn
      have hlt2 := Cn.ahead_lt (N := N) (es := es.take k) (fun e he => (HES.out e (List.mem_of_mem_take he)).1) b
      obtain ⟨U, hU⟩ : ∃ U, U = Cn.ahead (es.take k) b := ⟨_, rfl⟩
      rw [← hU] at hsn hlt2
      have hget : (aheads N (es.take k))[b]? = some U := by rw [hU]; exact Gr.map_get _ _ _ hbN
      have c2 := own_cell hro5 (ilist_get hget)
      have HS := Lib.hid (And.intro hsn (And.intro (below_next hb5 hb) hget))
      obtain ⟨sE, hsE⟩ : ∃ s, s = wr.heap.size := ⟨_, rfl⟩
      have HSE := Lib.hid hsE
      clear hx gx g1 g2 hcc hcell e2 hA1 hb hro hb5 hsn hU hget hsE
      go_upto_region 10 with (fail)
      rw [← HSE.out] at hE ⊢
      generalize (wr.alloc (.cells #[.int .i64 (a : Int), .int .i64 (b : Int)] 39)) = W5 at hE hro5 c2 HS ⊢
      have b0 : W5.cell? ⟨sE, 0, none⟩ = some (.int .i64 (a : Int)) := (hE.cell 0).trans rfl
      have b1 : W5.cell? ⟨sE, 1, none⟩ = some (.int .i64 (b : Int)) := (hE.cell 1).trans rfl
      clear hE d0 d1
      have hp14 := Cn.two_pow_small (n := a) (by omega)
      have hUb := Nat.lt_of_lt_of_le hlt2 (Cn.two_pow_small hN)
      obtain ⟨pa, hpa⟩ : ∃ p, p = 2 ^ a := ⟨_, rfl⟩
      have hpi : ((2 : Int) ^ a) = (pa : Int) := by rw [hpa]; simp
      rw [← hpa] at hp14 HS
      have hpw : IntKind.i64.wrap (2 ^ a) = (pa : Int) := by rw [hpi]; exact IntWalk.i64_in _ (by omega)
      have hbo := Cn.bits_or_i64 U pa (by omega) (by omega)
      clear hpi hpa
      have HBO := Lib.hid (And.intro hpw hbo)
      clear hpw hbo hlt2
      (refine still_last (by kernel_rfl) (by kernel_rfl) ?_; simp only [List.length_cons, List.length_nil, Nat.reduceAdd, Nat.reduceSub, List.take_succ_cons, List.take_zero, List.drop_succ_cons, List.drop_zero]; repeat still_step; try refine wpStill_nil ?_)
      rw [HBO.out.1, HBO.out.2]
      refine wpl_set_row (show (W5.drewN 1).ownsRow gA 3 1 (.slice (some ⟨gA, 0, none⟩) N N) N (ilist (aheads N (es.take k))) from own_keeps hro5 ((Keeps.refl (fun _ => False) W5).drewN 1) (fun _ _ => id)) b (.int .i64 ((U ||| pa : Nat) : Int)) (by kernel_rfl) (by omega) (by rfl) (by rfl) (by rfl) (by rfl) (by rfl) (by rfl) ?_
      intro w6 hr6 hg6
      have hr6' : w6.ownsRow gA 3 1 (.slice (some ⟨gA, 0, none⟩) N N) N (ilist (aheads N (es.take (k + 1)))) := by
        rw [HS.out.1, ilist_set]
        exact hr6
      have hb6 := HS.out.2.1.trans (below_of_grown (show W5.grownBy w6 (some gA) from ⟨hg6.os, hg6.tape, hg6.output, hg6.size, hg6.block⟩) HS.out.2.1.size (by rw [HG.out.1]; exact Nat.le_refl _))
      have HF := Lib.hid (And.intro hr6' hb6)
      clear hr6 hg6 hr6' hb6 hro5 c2 b0 b1
      go_wp2_with fail
      go_roundw
      case rel => exact ⟨k + 1, by omega, by go_num, HF.out.1, HF.out.2⟩
      case measure => simp [intOf]; omega
    · obtain rfl : k = es.length := by omega
      rw [List.take_length] at hro
      have x3 := HX1.out.below hb
      have e0 : wr.cell? ⟨w.heap.size, 0, none⟩ = some (.int .i64 (N : Int)) := (x3.cell 0).trans rfl
      obtain ⟨M, hM⟩ : ∃ M, M = 2 ^ N := ⟨_, rfl⟩
      have hM14 : M ≤ 16384 := by rw [hM]; exact Cn.two_pow_small hN
      have hMw : IntKind.i64.wrap ((2 : Int) ^ N) = (M : Int) := by
        rw [show ((2 : Int) ^ N) = (M : Int) by rw [hM]; simp]
        exact IntWalk.i64_in _ (by omega)
      have hM0 : 0 < M := by rw [hM]; exact Nat.two_pow_pos N
      have HM := Lib.hid hM
      have m47 : 8 * M ≤ 281474976710656 := by omega
      have m63 : M ≤ 9223372036854775807 := by omega
      have hlz : gA < wr.heap.size := by
        by_cases h0 : 0 < N
        · exact (hro.lt gA rfl).2
        · exact (hro.lt gA rfl).2
      have HZ := Lib.hid (And.intro hro (And.intro hb hlz))
      clear hM hro hb hA1 hlt hk hlz
      obtain ⟨wz, rfl⟩ : ∃ wz : World, wz = wr := ⟨_, rfl⟩
      go_wp2_with (first | (at_make; refine wp_make _ 65 34 (.int .u64 0) 8 M Tryd.underlying65 info_u64 rfl (by omega) (by omega) m47 m63 rfl rfl rfl rfl ?_; intro w5 hown5 hb5 hs5; have hgl5 := (hown5.lt _ rfl).2) | (refine wpl_set_row hown5 0 (.int .u64 1) (by kernel_rfl) (by omega) (by rfl) (by rfl) (by rfl) (by rfl) (by rfl) (by rfl) ?_; intro w6 hr6 hg6) | fail)
      obtain ⟨gW, hgW⟩ : ∃ g, g = wz.heap.size := ⟨_, rfl⟩
      have hr6' : w6.ownsRow gW 34 1 (.slice (some ⟨gW, 0, none⟩) M M) M (nats (ways N es M 0 0)) := by
        rw [hgW]
        have e : nats (ways N es M 0 0) = (List.replicate M (.int .u64 0)).set 0 (.int .u64 1) := ways_start N es M
        rw [e]
        exact hr6
      have hk2 : ∀ w', Keeps (fun k => k = gW) w6 w' → (∀ n, n < N → w'.cell? ⟨gA, n, none⟩ = some (.int .i64 ((Cn.ahead es n : Nat) : Int))) ∧ w'.cell? ⟨w.heap.size, 0, none⟩ = some (.int .i64 (N : Int)) ∧ Below w.heap.size w w' := fun w' hk => by
        have h56 : Keeps (fun k => k = gW) w5 w6 := (Keeps.of_grown hg6).mono (fun i hi => by injection hi with hi; rw [hi, hgW])
        have hz6 := (Keeps.of_below hb5 (fun k => k = gW)).trans (h56.trans hk)
        have h1 := own_keeps HZ.out.1 hz6 (fun k hk e => by have h1 : gA = k := (by injection hk); have := HZ.out.2.2; omega)
        have h2 := x3.keeps hz6 (fun e => by have := x3.lt; omega)
        refine ⟨fun n hn => own_cell h1 (ilist_get (Gr.map_get _ _ _ hn)), (h2.cell 0).trans rfl, ?_⟩
        have h3 := (below_next HZ.out.2.1 HG.out.2.1)
        exact h3.trans ((hz6.below (B := w.heap.size) h3.size (fun i hi => by rw [hi, hgW]; exact h3.size)).mono (Nat.le_refl _))
      have HK2 := Lib.hid hk2
      have HR6 := Lib.hid hr6'
      rw [← hgW]
      clear hk2 hr6' hr6 hg6 hb5 hs5 hown5 hgl5 hgW x3 e0 m47 m63 hMw HZ HX1 HG
      go_loopw [49] (fun i wr => ∃ s : Nat, s ≤ M ∧ i = .int .i64 (s : Int) ∧ wr.ownsRow gW 34 1 (.slice (some ⟨gW, 0, none⟩) M M) M (nats (ways N es M s 0)) ∧ Keeps (fun k => k = gW) w6 wr) (fun i _ => M - (intOf i).toNat)
      case atStart => exact ⟨0, Nat.zero_le _, rfl, HR6.out, Keeps.refl _ _⟩
      case round =>
        clear HR6
        obtain ⟨s, hs, rfl, hro, hk⟩ := hrel
        by_cases hlt : s < M
        · obtain ⟨-, e0, -⟩ := HK2.out _ hk
          obtain ⟨K, hK⟩ : ∃ K, K = Cn.ord N (Cn.okE es) s := ⟨_, rfl⟩
          have hget : (ways N es M s 0)[s]? = some K := by rw [hK, ways_get N es hlt, Cn.P_all (by rw [← HM.out]; exact hlt) (Nat.le_refl _)]
          have c0 := own_cell hro (nats_get _ _ _ hget)
          have hKb : K ≤ 11112006825558016 := by rw [hK]; exact Cn.ord_bound hN
          have HK := Lib.hid (And.intro hK (And.intro hro hk))
          clear hK hget hro hk
          go_wp2_with fail
          clear c0 e0
          go_loopw [56] (fun i wr => ∃ n : Nat, n ≤ N ∧ i = .int .i64 (n : Int) ∧ wr.ownsRow gW 34 1 (.slice (some ⟨gW, 0, none⟩) M M) M (nats (ways N es M s n)) ∧ Keeps (fun k => k = gW) w6 wr) (fun i _ => N - (intOf i).toNat)
          case atStart => exact ⟨0, Nat.zero_le _, rfl, HK.out.2.1, HK.out.2.2⟩
          case round =>
            obtain ⟨n, hn, rfl, hro, hk⟩ := hrel
            by_cases hlt2 : n < N
            · obtain ⟨hca, -, -⟩ := HK2.out _ hk
              have c1 := hca n hlt2
              have hs63 : s < 9223372036854775808 := by omega
              have hU14 := Cn.ahead_lt (N := N) (es := es) (fun e he => (HES.out e he).1) n
              rw [← HM.out] at hU14
              have ht1 := test_bit (n := n) hs63
              have ht2 := test_ok (es := es) (n := n) hs63 (by omega)
              by_cases hK0 : K = 0
              · have hord : Cn.ord N (Cn.okE es) s = 0 := by rw [← HK.out.1]; exact hK0
                subst hK0
                clear ht1 ht2 c1
                have hwn := ways_skip (M := M) (s := s) (n := n) (N := N) (es := es) (.inr (.inr hord))
                rw [← hwn] at hro
                have HF := Lib.hid (And.intro hro hk)
                clear hro hk hwn hca
                go_wp2_with fail
                go_roundw
                case rel => exact ⟨n + 1, by omega, by go_num, HF.out.1, HF.out.2⟩
                case measure => simp [intOf]; omega
              · have hKp : decide (0 < K) = true := decide_eq_true (by omega)
                rcases hbt : Cn.bit s n with _ | _
                · rcases hok : Cn.okE es n s with _ | _
                  · rw [hbt, Bool.not_false] at ht1
                    rw [hok] at ht2
                    obtain ⟨U, hU⟩ : ∃ U, U = Cn.ahead es n := ⟨_, rfl⟩
                    rw [← hU] at c1 ht2
                    clear hU hU14
                    have hwn := ways_skip (M := M) (s := s) (n := n) (N := N) (es := es) (.inr (.inl hok))
                    rw [← hwn] at hro
                    have HF := Lib.hid (And.intro hro hk)
                    clear hro hk hwn hca
                    go_wp2_with fail
                    go_roundw
                    case rel => exact ⟨n + 1, by omega, by go_num, HF.out.1, HF.out.2⟩
                    case measure => simp [intOf]; omega
                  · rw [hbt, Bool.not_false] at ht1
                    rw [hok] at ht2
                    have hwn := ways_step (M := M) hlt2 hbt hok
                    have htM : s + 2 ^ n < M := by
                      rw [HM.out] at hlt ⊢
                      rw [← Cn.or_add hbt]
                      exact Nat.or_lt_two_pow hlt (Nat.pow_lt_pow_right (by decide) hlt2)
                    have hor := Cn.or_add hbt
                    have hget := ways_get N es (s := s) (n := n) htM
                    have hP := Cn.P_step (ok := Cn.okE es) hlt2 hbt hok (s + 2 ^ n)
                    rw [if_pos rfl] at hP
                    have hPle := Cn.P_le (N := N) (ok := Cn.okE es) (s := s) (n := n + 1) (t := s + 2 ^ n) (by rw [← HM.out]; exact htM)
                    have hob := Cn.ord_bound (ok := Cn.okE es) (s := s + 2 ^ n) hN
                    obtain ⟨V, hV⟩ : ∃ V, V = Cn.P N (Cn.okE es) s n (s + 2 ^ n) := ⟨_, rfl⟩
                    rw [← hV, ← HK.out.1] at hP hwn
                    rw [← hV] at hget
                    have hpn := Cn.two_pow_small (n := n) (by omega)
                    obtain ⟨pn, hpn'⟩ : ∃ p, p = 2 ^ n := ⟨_, rfl⟩
                    rw [← hpn'] at hwn htM hor hget hpn
                    have hVK : V + K ≤ 11112006825558016 := by omega
                    have hbo := Cn.bits_or_i64 s pn (by omega) (by omega)
                    rw [hor] at hbo
                    have hpw : IntKind.i64.wrap ((2 : Int) ^ n) = (pn : Int) := by
                      rw [show ((2 : Int) ^ n) = (pn : Int) by rw [hpn']; simp]
                      exact IntWalk.i64_in _ (by omega)
                    obtain ⟨U, hU⟩ : ∃ U, U = Cn.ahead es n := ⟨_, rfl⟩
                    rw [← hU] at c1 ht2
                    have c2 := own_cell hro (nats_get _ _ _ hget)
                    obtain ⟨t, ht⟩ : ∃ t, t = s + pn := ⟨_, rfl⟩
                    rw [← ht] at hbo c2 htM hwn
                    have HW := Lib.hid hwn
                    have f0 := row_frozen hro t
                    clear hU hU14 hV hP hPle hob hwn hget hpn' hor hpn hbt hok ht hca
                    go_wp2_with fail
                    have hr7 := row_set hro t (.int .u64 ((V : Int) + (K : Int)))
                    have hr7' : (wr.setCell ⟨gW, t, none⟩ (.int .u64 ((V : Int) + (K : Int)))).ownsRow gW 34 1 (.slice (some ⟨gW, 0, none⟩) M M) M (nats (ways N es M s (n + 1))) := by
                      rw [HW.out, show nats ((ways N es M s n).set t (V + K)) = (nats (ways N es M s n)).set t (.int .u64 ((V : Int) + (K : Int))) by simp [nats, List.map_set]]
                      exact hr7
                    have hk7 := hk.trans ((Keeps.of_grown (grown_setCell wr gW t (.int .u64 ((V : Int) + (K : Int))))).mono fun i hi => by injection hi)
                    have HF := Lib.hid (And.intro hr7' hk7)
                    clear hr7 hr7' hk7 hro hk c2
                    go_roundw
                    case rel => exact ⟨n + 1, by omega, by go_num, HF.out.1, HF.out.2⟩
                    case measure => simp [intOf]; omega
                · rw [hbt, Bool.not_true] at ht1
                  clear ht2 c1
                  have hwn := ways_skip (M := M) (s := s) (n := n) (N := N) (es := es) (.inl hbt)
                  rw [← hwn] at hro
                  have HF := Lib.hid (And.intro hro hk)
                  clear hro hk hwn hca
                  go_wp2_with fail
                  go_roundw
                  case rel => exact ⟨n + 1, by omega, by go_num, HF.out.1, HF.out.2⟩
                  case measure => simp [intOf]; omega
            · obtain rfl : N = n := by omega
              rw [ways_next] at hro
              have HF := Lib.hid (And.intro hro hk)
              clear hro hk
              obtain ⟨-, e0, -⟩ := HK2.out _ HF.out.2
              go_wp2_with fail
              go_roundw
              case rel => exact ⟨s + 1, by omega, by go_num, HF.out.1, HF.out.2⟩
              case measure => simp [intOf]; omega
        · obtain rfl : s = M := by omega
          have hget : (ways N es s s 0)[s - 1]? = some R := by
            rw [ways_get N es (by omega), Cn.P_all (by rw [← HM.out]; omega) (by omega), HRR.out, ← HM.out]
          have c0 := own_cell hro (nats_get _ _ _ hget)
          obtain ⟨M1, hM1⟩ : ∃ m, m = s - 1 := ⟨_, rfl⟩
          rw [← hM1] at c0
          have hM1' : (s : Int) - 1 = (M1 : Int) := by omega
          have hM1l : M1 < s := by omega
          have HF := Lib.hid (HK2.out _ hk).2.2
          clear hget hro hk hM1
          go_wp2_with fail
          go_ret2
          exact ⟨rfl, HF.out⟩
end Go.Proofs.YtfjmhmfkhgjnhaaDoor


namespace Go.Proofs.YtfjmhmfkhgjnhaaDoor
set_option linter.unusedVariables false
set_option linter.unusedSimpArgs false
set_option maxRecDepth 100000
open Go.RowKit

namespace Cn
def err (n : Int) (es : List Gr.Er) : Int := if Gr.wrong n es ≠ 0 then Gr.wrong n es else if 14 < n then 2 else 0
def res (n : Int) (es : List Gr.Er) : Nat := if err n es = 0 then ord n.toNat (okE (Gr.nat es)) (2 ^ n.toNat - 1) else 0
theorem err_zero {n : Int} {es : List Gr.Er} : err n es = 0 ↔ Gr.wrong n es = 0 ∧ n ≤ 14 := by
  unfold err
  by_cases h : Gr.wrong n es = 0
  · rw [if_neg (by simpa using h)]
    by_cases h2 : 14 < n
    · rw [if_pos h2]
      constructor
      · intro h; cases h
      · rintro ⟨-, a⟩; omega
    · rw [if_neg h2]
      exact ⟨fun _ => ⟨h, by omega⟩, fun _ => rfl⟩
  · rw [if_pos h]
    exact ⟨fun e => absurd e h, fun e => absurd e.1 h⟩
end Cn

set_option maxHeartbeats 4000000 in
theorem ocount_any (n : Int) (es : List Gr.Er) (w : World) (A : Option Addr) (c : Nat) (hA : SlV w 2 (.slice A es.length c) es.length (ercs es)) (hle : es.length ≤ 1099511627776) (hT : Tab w) :
    Calls Tryd.prog 15 #[.agg #[.int .i64 n, .slice A es.length c]] w fun e w' => e = .returned (.tuple #[.int .u64 ((Cn.res n es : Nat) : Int), .int .i64 (Cn.err n es)]) ∧ Below w.heap.size w w' := by
  have hwr : ∀ w', Below w.heap.size w w' → Calls Tryd.prog 29 #[.agg #[.int .i64 n, .slice A es.length c]] w' fun e w'' => e = .returned (.int .i64 (Gr.wrong n es)) ∧ Below w'.heap.size w' w'' := fun w' hb =>
    wrong_any n es w' A c (hA.below hb) hle (fun j hj => (hb.cell (p := ⟨0, j, none⟩) hT.lt).trans (hT j hj))
  by_cases he : Cn.err n es = 0
  · obtain ⟨h0, h14⟩ := Cn.err_zero.1 he
    obtain ⟨N, rfl, hN, hes, hln, hcs, -⟩ := Gr.wrong_none h0
    have := count_yes N (Gr.nat es) w A c (by omega) hes (by rw [hln, ← hcs]; exact hA) (by omega) (by rw [hln]; rw [h0] at hwr; exact hwr)
    rw [hln] at this
    unfold Cn.res
    rw [he, if_pos rfl, Int.toNat_natCast]
    exact this
  · have hres : Cn.res n es = 0 := by unfold Cn.res; rw [if_neg he]
    have x0 := Blk.new w 24 [.int .i64 n, .slice A es.length c]
    have hb0 : Below w.heap.size w (w.alloc (.cells #[.int .i64 n, .slice A es.length c] 24)) := below_alloc (Below.refl _ _) _
    have hwr1 := hwr _ hb0
    obtain ⟨E, hE⟩ : ∃ E, E = Cn.err n es := ⟨_, rfl⟩
    obtain ⟨R, hR⟩ : ∃ R, R = Gr.wrong n es := ⟨_, rfl⟩
    have hER : E = if R ≠ 0 then R else if 14 < n then 2 else 0 := by rw [hE, hR]; rfl
    rw [hres, ← hE]
    rw [← hR] at hwr1
    have he' : E ≠ 0 := by rw [hE]; exact he
    clear he hres hwr hE hR hA
    go_enter Tryd.func15, Tryd.ntmps15
    go_upto_region 1 with (fail)
    generalize (w.alloc (.cells #[.int .i64 n, .slice A es.length c] 24)) = V0 at x0 hb0 hwr1 ⊢
    have d0 : V0.cell? ⟨w.heap.size, 0, none⟩ = some (.int .i64 n) := (x0.cell 0).trans rfl
    have d1 : V0.cell? ⟨w.heap.size, 1, none⟩ = some (.slice A es.length c) := (x0.cell 1).trans rfl
    have HE := Lib.hid hER
    have HE' := Lib.hid he'
    clear hER he'
    go_wp2_with fail
    refine hwr1.mono ?_
    rintro _ W0 ⟨rfl, hbW⟩
    have x1 := x0.below hbW
    have c0 : W0.cell? ⟨w.heap.size, 0, none⟩ = some (.int .i64 n) := (x1.cell 0).trans rfl
    have HB := Lib.hid (below_next hbW hb0)
    clear hwr1 hb0 hbW x0 d0 d1 x1
    by_cases h0 : R = 0
    · subst h0
      have hE2 := HE.out
      rw [if_neg (by simp)] at hE2
      have hk : 14 < n := Decidable.byContradiction fun h => HE'.out (by rw [hE2, if_neg h])
      rw [if_pos hk] at hE2
      subst hE2
      clear HE
      have k2 : decide (14 < n) = true := decide_eq_true hk
      clear hk
      go_wp2_with fail
      go_ret2
      exact ⟨rfl, HB.out⟩
    · have g0 : (R != 0) = true := by simpa using h0
      have hE2 := HE.out
      rw [if_pos h0] at hE2
      subst hE2
      clear HE HE' h0 c0
      go_wp2_with fail
      go_ret2
      exact ⟨rfl, HB.out⟩
/-- of a graph that is right -/
theorem ocount_full (N : Nat) (es : List Gr.Ed) (w : World) (A : Option Addr) (c : Nat) (hN : N ≤ 14) (hes : ∀ e ∈ es, e.1 < N ∧ e.2 < N) (hful : (Gr.take N es).length = N) (hA : SlV w 2 (.slice A es.length c) es.length (edcs es)) (hle : es.length ≤ 1099511627776) (hT : Tab w) :
    Calls Tryd.prog 15 #[.agg #[.int .i64 (N : Int), .slice A es.length c]] w fun e w' => e = .returned (.tuple #[.int .u64 ((Cn.ord N (Cn.okE es) (2 ^ N - 1) : Nat) : Int), .int .i64 0]) ∧ Below w.heap.size w w' := by
  have := ocount_any (N : Int) (Gr.zed es) w A c (by rw [Gr.zed_length, ercs_zed]; exact hA) (by rw [Gr.zed_length]; exact hle) hT
  have he : Cn.err (N : Int) (Gr.zed es) = 0 := Cn.err_zero.2 ⟨Gr.wrong_zed (by omega) hes hful, by omega⟩
  unfold Cn.res at this
  rw [Gr.zed_length, he, if_pos rfl, Gr.nat_zed, Int.toNat_natCast] at this
  exact this
end Go.Proofs.YtfjmhmfkhgjnhaaDoor


namespace Go.Proofs.YtfjmhmfkhgjnhaaDoor
set_option linter.unusedVariables false
set_option linter.unusedSimpArgs false
set_option maxRecDepth 100000

namespace Gr
def aG : List Er := [(0, 2), (1, 2), (2, 3)]
theorem aG_nat : nat aG = [(0, 2), (1, 2), (2, 3)] := rfl
theorem aG_take : take 4 (nat aG) = [0, 1, 2, 3] := by decide +kernel
theorem aG_wrong : wrong 4 aG = 0 := by decide +kernel
theorem aG_full : (take 4 (nat aG)).length = 4 := by rw [aG_take]; rfl
theorem aG_lt : ∀ e ∈ nat aG, e.1 < 4 ∧ e.2 < 4 := by decide
theorem aG_beh : behW 4 (nat aG) = [[12], [12], [8], []] := by decide +kernel
theorem aG_nb : Mt.nbW [[12], [12], [8], []] = fun (n : Nat) => ([[2, 3], [2, 3], [3], []] : List (List Nat)).getD n [] := by
  have h12 : Bs.bl 12 = [2, 3] := by
    rw [Bs.bl_pos (by decide), show 12 &&& (12 - 1) = 8 by decide, Bs.bl_pos (by decide), show 8 &&& (8 - 1) = 0 by decide, Bs.bl_zero, show Lib.ctz 64 12 = 2 by decide +kernel, show Lib.ctz 64 8 = 3 by decide +kernel]
  have h8 : Bs.bl 8 = [3] := by
    rw [Bs.bl_pos (by decide), show 8 &&& (8 - 1) = 0 by decide, Bs.bl_zero, show Lib.ctz 64 8 = 3 by decide +kernel]
  have l12 : Bs.ls 0 [12] = [2, 3] := by rw [Bs.ls, Bs.ls, h12]; rfl
  have l8 : Bs.ls 0 [8] = [3] := by rw [Bs.ls, Bs.ls, h8]; rfl
  funext n
  rcases n with _ | _ | _ | _ | n
  · exact l12
  · exact l12
  · exact l8
  · rfl
  · rfl
theorem aG_pr : Mt.prW [[12], [12], [8], []] 4 4 = ([3, 2, -1, -1], [-1, -1, 1, 0]) := by
  unfold Mt.prW
  rw [aG_nb]
  decide +kernel
theorem aG_cov : (Mt.covG 4 aG).length = 2 := by
  unfold Mt.covG
  rw [aG_wrong, if_pos rfl, show (4 : Int).toNat = 4 from rfl, aG_beh, aG_pr]
  decide +kernel
theorem aG_wide : (Mt.wideG 4 aG).length = 2 := by
  unfold Mt.wideG
  rw [aG_wrong, if_pos rfl, show (4 : Int).toNat = 4 from rfl, aG_beh]
  have hf : ∀ i, Mt.ftW [[12], [12], [8], []] 4 i = Mt.vall Bs.bit Bs.put [] (fun (n : Nat) => ([[2, 3], [2, 3], [3], []] : List (List Nat)).getD n []) [3, 2, -1, -1] [-1, -1, 1, 0] 4 i := fun i => by
    unfold Mt.ftW
    rw [aG_nb, aG_pr]
  unfold Mt.wideW
  have hw : Mt.wideB [[12], [12], [8], []] 4 = fun y => Bs.bit (Mt.vall Bs.bit Bs.put [] (fun (n : Nat) => ([[2, 3], [2, 3], [3], []] : List (List Nat)).getD n []) [3, 2, -1, -1] [-1, -1, 1, 0] 4 4).1 y && !Bs.bit (Mt.vall Bs.bit Bs.put [] (fun (n : Nat) => ([[2, 3], [2, 3], [3], []] : List (List Nat)).getD n []) [3, 2, -1, -1] [-1, -1, 1, 0] 4 4).2 y := by
    funext y
    unfold Mt.wideB
    rw [hf]
  rw [hw]
  decide +kernel
theorem aG_lv {L : List Nat} (h : LvL 4 (nat aG) L) : L = [0, 0, 1, 2] := by
  obtain ⟨h1, h2, h3⟩ := h
  match L, h1 with
  | [a, b, c, d], _ =>
    have u1 := h2 (0, 2) (by decide)
    have u2 := h2 (1, 2) (by decide)
    have u3 := h2 (2, 3) (by decide)
    have d0 := h3 0
    have d1 := h3 1
    have d2 := h3 2
    have d3 := h3 3
    simp only [aG_nat, List.mem_cons, List.not_mem_nil, or_false, lget, List.getD_cons_zero, List.getD_cons_succ] at u1 u2 u3 d0 d1 d2 d3
    have a0 : a = 0 := by
      rcases Nat.eq_zero_or_pos a with h | h
      · exact h
      · obtain ⟨e, he, e2, -⟩ := d0 h
        rcases he with rfl | rfl | rfl <;> simp at e2
    have b0 : b = 0 := by
      rcases Nat.eq_zero_or_pos b with h | h
      · exact h
      · obtain ⟨e, he, e2, -⟩ := d1 h
        rcases he with rfl | rfl | rfl <;> simp at e2
    subst a0 b0
    have c1 : c = 1 := by
      obtain ⟨e, he, e2, e3⟩ := d2 (by omega)
      rcases he with rfl | rfl | rfl <;> simp at e2 e3 <;> omega
    subst c1
    have d2 : d = 2 := by
      obtain ⟨e, he, e2, e3⟩ := d3 (by omega)
      rcases he with rfl | rfl | rfl <;> simp at e2 e3 <;> omega
    subst d2
    rfl
theorem aG_hgt {L : List Nat} (h : LvL 4 (nat aG) L) : hgt L = 3 := by rw [aG_lv h]; rfl
theorem aG_chain {L C : List Nat} (h : LvL 4 (nat aG) L) (hc : ChainSaid 4 (nat aG) L C) : C = [0, 2, 3] := by
  have := aG_lv h
  subst this
  rcases hc with ⟨h, -⟩ | ⟨n0, h1, rfl⟩
  · cases h
  · rcases n0 with _ | _ | _ | _ | n0
    · cases h1
    · cases h1
    · cases h1
    · rfl
    · simp at h1
theorem aG_ap1 : ApL 4 (nat aG) [1, 0] := ⟨by decide, by decide, fun x hx y hy hw => by
  have h1 : x.toNat < 4 := by
    rcases List.mem_cons.1 hx with rfl | hx
    · decide
    · rcases List.mem_cons.1 hx with rfl | hx
      · decide
      · cases hx
  have := (behW_is aG_full (fun e he => (aG_lt e he).2) x.toNat h1 y.toNat).2 hw
  rw [aG_beh] at this
  revert this
  rcases List.mem_cons.1 hx with rfl | hx
  · rcases List.mem_cons.1 hy with rfl | hy
    · decide
    · rcases List.mem_cons.1 hy with rfl | hy
      · decide
      · cases hy
  · rcases List.mem_cons.1 hx with rfl | hx
    · rcases List.mem_cons.1 hy with rfl | hy
      · decide
      · rcases List.mem_cons.1 hy with rfl | hy
        · decide
        · cases hy
    · cases hx⟩
theorem aG_ap2 : ¬ ApL 4 (nat aG) [1, 3] := fun h => by
  refine h.way 1 (by decide) 3 (by decide) ?_
  refine (behW_is aG_full (fun e he => (aG_lt e he).2) 1 (by decide) 3).1 ?_
  rw [aG_beh]
  decide
end Gr
theorem aG_err : Cn.err 4 Gr.aG = 0 := Cn.err_zero.2 ⟨Gr.aG_wrong, by decide⟩
theorem aG_ord : Cn.res 4 Gr.aG = 2 := by
  unfold Cn.res
  rw [aG_err, if_pos rfl]
  decide +kernel
end Go.Proofs.YtfjmhmfkhgjnhaaDoor


namespace Go.Proofs.YtfjmhmfkhgjnhaaDoor
set_option linter.unusedVariables false
set_option linter.unusedSimpArgs false
set_option maxRecDepth 100000
open Go.RowKit

set_option maxRecDepth 20000 in
set_option maxHeartbeats 8000000 in
theorem alive3_any (w : World) (hT : Tab w) : Calls Tryd.prog 9 #[] w fun e w' => e = .returned (.bool true) ∧ Below w.heap.size w w' := by
  have hb0 : Below w.heap.size w ((w.alloc (.cells #[.int .i64 0, .int .i64 2, .int .i64 1, .int .i64 2, .int .i64 2, .int .i64 3] 39)).alloc (.cells #[.int .i64 4, .slice (some ⟨w.heap.size, 0, none⟩) 3 3] 24)) := below_alloc (below_alloc (Below.refl _ _) _) _
  have hA : SlV ((w.alloc (.cells #[.int .i64 0, .int .i64 2, .int .i64 1, .int .i64 2, .int .i64 2, .int .i64 3] 39)).alloc (.cells #[.int .i64 4, .slice (some ⟨w.heap.size, 0, none⟩) 3 3] 24)) 2 (.slice (some ⟨w.heap.size, 0, none⟩) 3 3) 3 (ercs Gr.aG) := (SlV.lit w (ercs Gr.aG) 39 2 3 rfl (by decide)).below (below_alloc (Below.refl _ _) _)
  have y0 := Blk.new (w.alloc (.cells #[.int .i64 0, .int .i64 2, .int .i64 1, .int .i64 2, .int .i64 2, .int .i64 3] 39)) 24 [.int .i64 4, .slice (some ⟨w.heap.size, 0, none⟩) 3 3]
  simp only [World.size_alloc] at y0
  obtain ⟨p, hp⟩ : ∃ p, p = w.heap.size := ⟨_, rfl⟩
  go_enter Tryd.func9, Tryd.ntmps9
  go_upto_region 2 with (fail)
  generalize ((w.alloc (.cells #[.int .i64 0, .int .i64 2, .int .i64 1, .int .i64 2, .int .i64 2, .int .i64 3] 39)).alloc (.cells #[.int .i64 4, .slice (some ⟨w.heap.size, 0, none⟩) 3 3] 24)) = W0 at hb0 hA y0 ⊢
  have hT0 := hT.later hT.lt hb0
  rw [← hp] at hA y0 ⊢
  have HP := Lib.hid (And.intro hp hb0)
  have hK : ∀ w', Below W0.heap.size W0 w' → w'.cell? ⟨p + 1, 0, none⟩ = some (.int .i64 4) ∧ w'.cell? ⟨p + 1, 1, none⟩ = some (.slice (some ⟨p, 0, none⟩) 3 3) ∧ SlV w' 2 (.slice (some ⟨p, 0, none⟩) 3 3) 3 (ercs Gr.aG) ∧ Tab w' := fun w' hb =>
    ⟨((y0.below hb).cell 0).trans rfl, ((y0.below hb).cell 1).trans rfl, hA.below hb, hT0.later hT0.lt hb⟩
  have HK := Lib.hid hK
  clear hT hK hA y0 hp hb0 hT0
  obtain ⟨c0, c1, a1, t1⟩ := HK.out W0 (Below.refl _ _)
  go_wp2_with fail
  refine (chain_any 4 Gr.aG W0 _ 3 a1 (by decide) t1).mono ?_
  rintro e w1 ⟨u1, L1, C, rfl, -, h1, r1, hb1⟩
  have hC : C = [0, 2, 3] := Gr.aG_chain (h1 Gr.aG_wrong).1 (h1 Gr.aG_wrong).2
  subst hC
  rw [Gr.aG_wrong]
  obtain ⟨A1, n1, rfl, -, -⟩ := own_slice r1
  have s1 := own_slV r1
  have HS1 := Lib.hid s1
  clear c0 c1 a1 t1 h1 r1 s1
  obtain ⟨c0, c1, a1, t1⟩ := HK.out w1 hb1
  go_wp2_with fail
  refine (cover_any 4 Gr.aG w1 _ 3 a1 (by decide) t1).mono ?_
  rintro e w2 ⟨u2, rfl, ⟨os, r2, -⟩, hb2⟩
  rw [Gr.aG_cov] at r2
  rw [Gr.aG_wrong]
  obtain ⟨A2, n2, rfl, -, -⟩ := own_slice r2
  have hb02 := hb1.trans (hb2.mono hb1.size)
  clear c0 c1 a1 t1 r2
  obtain ⟨c0, c1, a1, t1⟩ := HK.out w2 hb02
  go_wp2_with fail
  refine (wide_any 4 Gr.aG w2 _ 3 a1 (by decide) t1).mono ?_
  rintro e w3 ⟨u3, rfl, r3, hb3⟩
  rw [Gr.aG_wide] at r3
  rw [Gr.aG_wrong]
  obtain ⟨A3, n3, rfl, -, -⟩ := own_slice r3
  have hb03 := hb02.trans (hb3.mono hb02.size)
  have hb13 := hb2.trans (hb3.mono hb2.size)
  clear c0 c1 a1 t1 r3 hb02 hb2 hb3
  obtain ⟨c0, c1, a1, t1⟩ := HK.out w3 hb03
  go_wp2_with fail
  refine (ocount_any 4 Gr.aG w3 _ 3 a1 (by decide) t1).mono ?_
  rintro e w4 ⟨rfl, hb4⟩
  rw [aG_ord, aG_err]
  have hb04 := hb03.trans (hb4.mono hb03.size)
  have hb14 := hb13.trans (hb4.mono hb13.size)
  clear c0 c1 a1 t1 hb03 hb13 hb4
  obtain ⟨c0, c1, a1, t1⟩ := HK.out w4 hb04
  go_wp2_with fail
  refine (height_any 4 Gr.aG w4 _ 3 a1 (by decide) t1).mono ?_
  rintro e w5 ⟨h, rfl, -, h2, -, hb5⟩
  obtain ⟨L2, h3, h4⟩ := h2 Gr.aG_wrong
  rw [Gr.aG_hgt h3] at h4
  subst h4
  rw [Gr.aG_wrong]
  have hb05 := hb04.trans (hb5.mono hb04.size)
  have hb15 := hb14.trans (hb5.mono hb14.size)
  clear c0 c1 a1 t1 hb04 hb14 hb5 h3 h2
  have L6 : SlV (w5.alloc (.cells #[.int .i64 0, .int .i64 2, .int .i64 3] 3)) 1 (.slice (some ⟨w5.heap.size, 0, none⟩) 3 3) 3 (ilist [0, 2, 3]) := SlV.lit w5 (ilist [0, 2, 3]) 3 1 3 rfl (by decide)
  have hb6 : Below w5.heap.size w5 (w5.alloc (.cells #[.int .i64 0, .int .i64 2, .int .i64 3] 3)) := below_alloc (Below.refl _ _) _
  have s6 := (HS1.out.below hb15).below hb6
  clear HS1 hb1 hb15
  go_wp2_with fail
  refine (equal_i64 _ _ [0, 2, 3] [0, 2, 3] _ s6 L6).mono ?_
  rintro e w7 ⟨rfl, m, rfl⟩
  have hb7 := hb05.trans ((below_drewN hb6 m).mono hb05.size)
  generalize ((w5.alloc (.cells #[.int .i64 0, .int .i64 2, .int .i64 3] 3)).drewN m) = w7 at hb7 ⊢
  clear hb6 L6 s6 hb05
  obtain ⟨c0, c1, a1, t1⟩ := HK.out w7 hb7
  go_wp2_with fail
  have hb8 : Below w7.heap.size w7 (w7.alloc (.cells #[.int .i64 1, .int .i64 0] 3)) := below_alloc (Below.refl _ _) _
  have L8 : SlV (w7.alloc (.cells #[.int .i64 1, .int .i64 0] 3)) 1 (.slice (some ⟨w7.heap.size, 0, none⟩) 2 2) 2 (ints .i64 [1, 0]) := SlV.lit w7 (ints .i64 [1, 0]) 3 1 2 rfl (by decide)
  refine (apart_any 4 Gr.aG [1, 0] _ _ _ 3 2 (a1.below hb8) (by decide) (t1.later t1.lt hb8) L8).mono ?_
  rintro e w9 ⟨b1, rfl, hq1, hb9⟩
  have hb1t : b1 = true := hq1.2 ⟨Gr.aG_wrong, Gr.aG_ap1⟩
  subst hb1t
  have hb09 := hb7.trans ((below_next hb9 hb8).mono hb7.size)
  clear hb7 c0 c1 a1 t1 hb8 L8 hq1 hb9
  obtain ⟨c0, c1, a1, t1⟩ := HK.out w9 hb09
  go_wp2_with fail
  have hbA : Below w9.heap.size w9 (w9.alloc (.cells #[.int .i64 1, .int .i64 3] 3)) := below_alloc (Below.refl _ _) _
  have LA : SlV (w9.alloc (.cells #[.int .i64 1, .int .i64 3] 3)) 1 (.slice (some ⟨w9.heap.size, 0, none⟩) 2 2) 2 (ints .i64 [1, 3]) := SlV.lit w9 (ints .i64 [1, 3]) 3 1 2 rfl (by decide)
  refine (apart_any 4 Gr.aG [1, 3] _ _ _ 3 2 (a1.below hbA) (by decide) (t1.later t1.lt hbA) LA).mono ?_
  rintro e wB ⟨b2, rfl, hq2, hbB⟩
  have hb2f : b2 = false := by
    cases b2
    · rfl
    · exact absurd (hq2.1 rfl).2 Gr.aG_ap2
  subst hb2f
  have hfin := hb09.trans ((below_next hbB hbA).mono hb09.size)
  have HF := Lib.hid (below_next hfin HP.out.2)
  clear hb09 c0 c1 a1 t1 hbA LA hq2 hbB hfin
  go_wp2_with fail
  go_ret
  exact ⟨rfl, HF.out⟩
end Go.Proofs.YtfjmhmfkhgjnhaaDoor


namespace Go.Proofs.YtfjmhmfkhgjnhaaDoor
set_option linter.unusedVariables false
set_option linter.unusedSimpArgs false
set_option maxRecDepth 100000

namespace Cn
open Gr
theorem W_mono {N : Nat} {ok ok' : Nat → Nat → Bool} (h : ∀ n s, ok' n s = true → ok n s = true) : ∀ f s, W N ok' f s ≤ W N ok f s
  | 0, _ => Nat.le_refl _
  | f + 1, s => by
    refine sg_le fun n _ => ?_
    by_cases h1 : (bit s n && ok' n (s - 2 ^ n)) = true
    · have h2 : (bit s n && ok n (s - 2 ^ n)) = true := by
        rw [Bool.and_eq_true] at h1 ⊢
        exact ⟨h1.1, h _ _ h1.2⟩
      rw [if_pos h1, if_pos h2]
      exact W_mono h f _
    · rw [if_neg h1]
      exact Nat.zero_le _
theorem ord_more {N : Nat} {es es' : List Ed} (h : ∀ e ∈ es, e ∈ es') (s : Nat) : ord N (okE es') s ≤ ord N (okE es) s :=
  W_mono (fun n s h' => okE_iff.2 fun e he hen => okE_iff.1 h' e (h e he) hen) _ _
theorem ex_max (p : Nat → Bool) (r : Nat → Nat) : ∀ N, (∃ n, n < N ∧ p n = true) → ∃ n, n < N ∧ p n = true ∧ ∀ m, m < N → p m = true → r m ≤ r n
  | 0, h => by obtain ⟨n, h, -⟩ := h; omega
  | N + 1, h => by
    by_cases h' : ∃ n, n < N ∧ p n = true
    · obtain ⟨n, h1, h2, h3⟩ := ex_max p r N h'
      by_cases hN : p N = true ∧ r n < r N
      · refine ⟨N, by omega, hN.1, fun m hm hp => ?_⟩
        by_cases e : m = N
        · rw [e]; exact Nat.le_refl _
        · have := h3 m (by omega) hp
          omega
      · refine ⟨n, by omega, h2, fun m hm hp => ?_⟩
        by_cases e : m = N
        · subst e
          exact Nat.le_of_not_lt fun hlt => hN ⟨hp, hlt⟩
        · exact h3 m (by omega) hp
    · obtain ⟨n, h1, h2⟩ := h
      have : n = N := Decidable.byContradiction fun e => h' ⟨n, by omega, h2⟩
      subst this
      refine ⟨n, h1, h2, fun m hm hp => ?_⟩
      by_cases e : m = n
      · rw [e]; exact Nat.le_refl _
      · exact absurd ⟨m, by omega, hp⟩ h'
theorem ord_some {N : Nat} {es : List Ed} {r : Nat → Nat} (hr : ∀ e ∈ es, r e.1 < r e.2) : ∀ (k s : Nat), pop N s = k → s < 2 ^ N → (∀ e ∈ es, bit s e.2 = true → bit s e.1 = true) → 0 < ord N (okE es) s := by
  intro k
  induction k with
  | zero =>
    intro s hk hs _
    have := (pop_zero hs).1 hk
    subst this
    rw [ord_zero]
    decide
  | succ k ih =>
    intro s hk hs hc
    have h0 : s ≠ 0 := fun e => by
      have := (pop_zero hs).2 e
      omega
    have hex : ∃ n, n < N ∧ bit s n = true := by
      refine Decidable.byContradiction fun hno => h0 (bit_ext fun n => ?_)
      rw [bit_zero]
      rcases hb : bit s n with _ | _
      · rfl
      · exact absurd ⟨n, bit_lt hs hb, hb⟩ hno
    obtain ⟨n, hn, hb, hmax⟩ := ex_max (bit s) r N hex
    have hpo := pop_off hn hb
    have hok : okE es n (s - 2 ^ n) = true := okE_iff.2 fun e he hen => by
      have h1 := hc e he (by rw [hen]; exact hb)
      rw [bit_off hb, h1]
      have := hr e he
      rw [hen] at this
      simp
      intro e'
      rw [e'] at this
      omega
    have hi := ih (s - 2 ^ n) (by omega) (off_lt hs) (fun e he h2 => by
      rw [bit_off hb, Bool.and_eq_true] at h2 ⊢
      have h1 := hc e he h2.1
      refine ⟨h1, ?_⟩
      have h3 := hr e he
      have h4 := hmax e.2 (bit_lt hs h2.1) h2.1
      simp
      intro e'
      rw [e'] at h3
      omega)
    rw [ord_step hs h0]
    refine Nat.pos_of_ne_zero fun e => ?_
    have := sg_zero_iff.1 e n hn
    rw [hb, hok] at this
    simp at this
    omega
theorem ord_full {N : Nat} {es : List Ed} (hl : (take N es).length = N) (hes : ∀ e ∈ es, e.1 < N ∧ e.2 < N) : 0 < ord N (okE es) (2 ^ N - 1) := by
  obtain ⟨r, r1, -⟩ := Mt.rank hl
  have hp := Nat.two_pow_pos N
  refine ord_some (r := r) (fun e he => r1 e.1 e.2 (hes e he).2 (.one he)) _ _ rfl (by omega) fun e he _ => ?_
  unfold bit
  rw [Nat.testBit_two_pow_sub_one]
  exact decide_eq_true (hes e he).1
end Cn

namespace Gr
theorem lget_more {N : Nat} {es es' : List Ed} {L L' : List Nat} (h : LvL N es L) (h' : LvL N es' L') (hs : ∀ e ∈ es, e ∈ es') : ∀ k m, lget L m = k → k ≤ lget L' m
  | 0, _, _ => Nat.zero_le _
  | k + 1, m, hk => by
    obtain ⟨e, he, hem, hel⟩ := h.down m (by omega)
    have h1 := lget_more h h' hs k e.1 (by omega)
    have h2 := h'.up e (hs e he)
    rw [hem] at h2
    omega
theorem hgt_more {N : Nat} {es es' : List Ed} {L L' : List Nat} (h : LvL N es L) (h' : LvL N es' L') (hs : ∀ e ∈ es, e ∈ es') : hgt L ≤ hgt L' := by
  unfold hgt
  by_cases h0 : L = []
  · rw [if_pos h0]; exact Nat.zero_le _
  · have h0' : L' ≠ [] := fun e => h0 (List.eq_nil_of_length_eq_zero (by rw [h.len, ← h'.len, e]; rfl))
    rw [if_neg h0, if_neg h0']
    obtain ⟨-, -, h3⟩ := foldl_max L 0
    obtain ⟨-, g2, -⟩ := foldl_max L' 0
    rcases h3 with h3 | h3
    · omega
    · obtain ⟨i, hi⟩ := List.getElem?_of_mem h3
      have hil := (List.getElem?_eq_some_iff.1 hi).1
      rw [lget_some hil] at hi
      injection hi with hi
      have h4 := lget_more h h' hs _ i rfl
      have hil' : i < L'.length := by rw [h'.len, ← h.len]; exact hil
      have h5 := g2 _ (List.mem_of_getElem? (lget_some hil'))
      omega
theorem way_more {es es' : List Ed} (h : ∀ e ∈ es, e ∈ es') {a b : Nat} (hw : Way es a b) : Way es' a b := by
  induction hw with
  | one he => exact .one (h _ he)
  | on he _ ih => exact .on (h _ he) ih
theorem anti_less {N : Nat} {es es' : List Ed} (h : ∀ e ∈ es, e ∈ es') {A : List Nat} (ha : Anti N es' A) : Anti N es A := ⟨ha.nd, ha.lt, fun a hm b hb hw => ha.ap a hm b hb (way_more h hw)⟩
/-- a graph with fewer edges has no rounds either -/
theorem full_less {N : Nat} {es es' : List Ed} (h : ∀ e ∈ es, e ∈ es') (hl : (take N es').length = N) (hes : ∀ e ∈ es', e.1 < N ∧ e.2 < N) : (take N es).length = N := by
  have hg := good_take N es'
  have hg' := good_take N es
  have hst := take_stop N es
  have key : ∀ (i m : Nat), (take N es')[i]? = some m → m ∈ take N es := by
    intro i
    induction i using Nat.strongRecOn with
    | _ i ih =>
      intro m hm
      by_cases hc : m ∈ take N es
      · exact hc
      · exfalso
        have hmN := hg.lt m (List.mem_of_getElem? hm)
        have hr := nxt_none hst m hmN
        have : ¬ rdy es (take N es) m = true := by rw [hr]; simp
        rw [rdy_iff] at this
        apply this
        refine ⟨hc, fun e he em => ?_⟩
        have hw : Way es' e.1 e.2 := .one (h e he)
        rw [em] at hw
        obtain ⟨j, hj, hje⟩ := hg.up hw i hm
        exact ih j hj _ hje
  have hall : ∀ m, m < N → m ∈ take N es := fun m hm => by
    obtain ⟨i, hi⟩ := List.getElem?_of_mem (hg.full hl m hm)
    exact key i m hi
  have h1 := (List.nodup_range (n := N)).length_le_of_subset (l₂ := take N es) (fun m hm => hall m (List.mem_range.1 hm))
  have h2 := hg'.length
  rw [List.length_range] at h1
  omega
end Gr
end Go.Proofs.YtfjmhmfkhgjnhaaDoor


namespace Go.Proofs.YtfjmhmfkhgjnhaaDoor
set_option linter.unusedVariables false
set_option linter.unusedSimpArgs false
set_option maxRecDepth 100000
open Go

section
variable {P : Program} {ops : Array Oper} {Q : Exit → Act → World → Prop} {S S0 : World → Prop} {E Em : World → World → Prop} {mk fl : Nat → Bool}

/-- it outlives a mark -/
def Stays (Em : World → World → Prop) (F : Fact E) : Prop := ∀ v w w', F.holds v w → Em w w' → F.holds v w'
def SettleS (P : Program) (ops : Array Oper) (S S0 : World → Prop) (E Em : World → World → Prop) (mk fl : Nat → Bool) (Z : (Env → Act) → List (Tmp × Fact E) → Prop) : Nat → List Oper → (Env → Act) → List (Tmp × Fact E) → Prop
  | _, [], A, Fs => Z A Fs
  | k, o :: rest, A, Fs =>
    (∃ v, (∀ ρ w, S w → FactsOK (o.looksAt ops) ρ w (cond (fl k) [] Fs) → Pre mk fl S0 k w → StepTo P ops S (cond (mk k) Em E) o (A ρ) w (fun u _ => u = v)) ∧ SettleS P ops S S0 E Em mk fl Z (k + 1) rest (fun ρ => (A ρ).put o.dst v) (cond (mk k) [] Fs)) ∨
    (∃ d F, o.dst = some d ∧ (fl k = false ∨ Stays Em F) ∧ (∀ ρ w, S w → FactsOK (o.looksAt ops) ρ w (cond (fl k) [] Fs) → Pre mk fl S0 k w → StepTo P ops S (cond (mk k) Em E) o (A ρ) w F.holds) ∧ SettleS P ops S S0 E Em mk fl Z (k + 1) rest (fun ρ => (A ρ).put (some d) (ρ d)) ((d, F) :: cond (mk k) [] Fs))

structure PlanS (P : Program) (ops : Array Oper) (S S0 : World → Prop) (Em : World → World → Prop) (mk fl : Nat → Bool) (a : Act) (l : List (Oper × Kind E)) : Prop where
  dst : ∀ p ∈ l, (∃ F, p.2 = .fresh F) → ∃ d, p.1.dst = some d
  flt : ∀ (j : Nat) p (F : Fact E), l[j]? = some p → p.2 = .fresh F → fl j = false ∨ Stays Em F
  step : ∀ pre p post, l = pre ++ p :: post → ∀ ρ w, S w → FactsOK (p.1.looksAt ops) ρ w (cond (fl pre.length) [] (factsM mk 0 pre [])) → Pre mk fl S0 pre.length w → StepTo P ops S (cond (mk pre.length) Em E) p.1 (actOf a ρ pre) w p.2.rel

theorem planS_snoc {a : Act} {l : List (Oper × Kind E)} (h : PlanS P ops S S0 Em mk fl a l) {p : Oper × Kind E} (h1 : (∃ F, p.2 = .fresh F) → ∃ d, p.1.dst = some d) (h3 : ∀ F, p.2 = .fresh F → fl l.length = false ∨ Stays Em F)
    (h2 : ∀ ρ w, S w → FactsOK (p.1.looksAt ops) ρ w (cond (fl l.length) [] (factsM mk 0 l [])) → Pre mk fl S0 l.length w → StepTo P ops S (cond (mk l.length) Em E) p.1 (actOf a ρ l) w p.2.rel) : PlanS P ops S S0 Em mk fl a (l ++ [p]) := by
  refine ⟨fun q hq hf => ?_, fun j q F hq hf => ?_, fun pre q post he => ?_⟩
  · rcases List.mem_append.1 hq with hq | hq
    · exact h.dst q hq hf
    · rw [List.mem_singleton.1 hq] at hf ⊢
      exact h1 hf
  · rcases Nat.lt_or_ge j l.length with hj | hj
    · rw [List.getElem?_append_left hj] at hq
      exact h.flt j q F hq hf
    · rw [List.getElem?_append_right hj] at hq
      have hj' := (List.getElem?_eq_some_iff.1 hq).1
      simp only [List.length_singleton] at hj'
      have e : j = l.length := by omega
      subst e
      simp only [Nat.sub_self, List.getElem?_cons_zero, Option.some.injEq] at hq
      subst hq
      exact h3 F hf
  · rcases List.eq_nil_or_concat post with rfl | ⟨post', q', rfl⟩
    · have := List.append_inj' he rfl
      obtain ⟨e1, e2⟩ := this
      injection e2 with e2
      subst e1 e2
      exact h2
    · have e : pre ++ q :: (post' ++ [q']) = (pre ++ q :: post') ++ [q'] := by simp
      rw [List.concat_eq_append, e] at he
      exact h.step pre q post' (List.append_inj' he rfl).1

theorem settleS_plan {Z : (Env → Act) → List (Tmp × Fact E) → Prop} {a : Act} : ∀ (l : List Oper) (pre : List (Oper × Kind E)), PlanS P ops S S0 Em mk fl a pre → SettleS P ops S S0 E Em mk fl Z pre.length l (fun ρ => actOf a ρ pre) (factsM mk 0 pre []) →
    ∃ full : List (Oper × Kind E), PlanS P ops S S0 Em mk fl a full ∧ full.map (·.1) = pre.map (·.1) ++ l ∧ Z (fun ρ => actOf a ρ full) (factsM mk 0 full []) := by
  intro l
  induction l with
  | nil => exact fun pre hp h => ⟨pre, hp, by simp, h⟩
  | cons o rest ih =>
    intro pre hp h
    rcases h with ⟨v, h1, h2⟩ | ⟨d, F, hd, h3, h1, h2⟩
    · obtain ⟨full, q1, q2, q3⟩ := ih (pre ++ [(o, .fixed v)]) (planS_snoc (p := (o, .fixed v)) hp (fun ⟨F, h⟩ => by cases h) (fun F h => by cases h) h1) (by
        have e1 : (fun ρ => actOf a ρ (pre ++ [(o, (Kind.fixed v : Kind E))])) = fun ρ => (actOf a ρ pre).put o.dst v := by
          funext ρ; simp [actOf, Kind.val]
        have e2 : factsM mk 0 (pre ++ [(o, (Kind.fixed v : Kind E))]) [] = cond (mk pre.length) [] (factsM mk 0 pre []) := by rw [factsM_snoc, Nat.zero_add]; rfl
        rw [e1, e2, List.length_append]
        exact h2)
      exact ⟨full, q1, by rw [q2]; simp, q3⟩
    · obtain ⟨full, q1, q2, q3⟩ := ih (pre ++ [(o, .fresh F)]) (planS_snoc (p := (o, .fresh F)) hp (fun _ => ⟨d, hd⟩) (fun F' h => by injection h with h; subst h; exact h3) h1) (by
        have e1 : (fun ρ => actOf a ρ (pre ++ [(o, (Kind.fresh F : Kind E))])) = fun ρ => (actOf a ρ pre).put (some d) (ρ d) := by
          funext ρ; simp [actOf, Kind.val, hd]
        have e2 : factsM mk 0 (pre ++ [(o, (Kind.fresh F : Kind E))]) [] = (d, F) :: cond (mk pre.length) [] (factsM mk 0 pre []) := by rw [factsM_snoc, Nat.zero_add]; simp [addFact, hd]
        rw [e1, e2, List.length_append]
        exact h2)
      exact ⟨full, q1, by rw [q2]; simp, q3⟩

theorem any_order_ms {a0 : Act} {full : List (Oper × Kind E)} {n : Nat} (hn : n < ops.size) (hops : full.map (·.1) = ops.toList.take n) (hlin : LinearN ops n) (hsk : Region.sinkB .any ops n = true) (hch : Region.chainB .any ops n = true)
    (hsq : ∀ listed : Array Bool, listed.size = ops.size → (∀ i, i < n → listed.getD i false = true) → (∀ i, n ≤ i → listed.getD i false = false) → Region.seqB .any ops (ops.size - n) n listed = true) (hmk : MarkedN ops mk fl n) (hp : PlanS P ops S S0 Em mk fl a0 full) (hE0 : ∀ w w', S0 w → E w w' → S0 w')
    (hZ : ∀ ρ w, S w → (∀ t F, (t, F) ∈ factsM mk 0 full [] → F.holds (ρ t) w) → wpList P ops Q (ops.toList.drop n) (actOf a0 ρ full) w) :
    ∀ (fuel : Nat) (listed : Array Bool) (a : Act) (w : World) (ρ : Env), HeadInv .any ops n listed →
      (∃ todo : List Nat, todo.length ≤ fuel ∧ ∀ i, i < n → listed.getD i false = false → i ∈ todo) →
      Holds a0 full (fun i => listed.getD i false = true) ρ a → S w → ((∀ m, mk m = true → listed.getD m false = false) → S0 w) → (∀ (i : Nat) (p : Oper × Kind E) (F : Fact E) (d : Tmp), listed.getD i false = true → (∀ m, mk m = true → i < m → listed.getD m false = false) → full[i]? = some p → p.2 = .fresh F → p.1.dst = some d → F.holds (ρ d) w) →
      wpAny P .any ops Q (fuel + (ops.size - n)) listed a w := by
  have hget : ∀ (i : Nat) (p : Oper × Kind E), full[i]? = some p → ops[i]? = some p.1 := fun i p h => by
    have : (full.map (·.1))[i]? = some p.1 := by simp [h]
    rw [hops, List.getElem?_take] at this
    split at this
    · simpa using this
    · cases this
  have hlen : full.length = n := by
    have := congrArg List.length hops
    simp only [List.length_map, List.length_take, Array.length_toList] at this
    omega
  have hget' : ∀ (i : Nat) (o : Oper), i < n → ops[i]? = some o → ∃ p : Oper × Kind E, full[i]? = some p ∧ p.1 = o := fun i o hin h => by
    have hi : i < full.length := by rw [hlen]; exact hin
    have h1 := hget i _ (List.getElem?_eq_getElem hi)
    rw [h] at h1
    injection h1 with h1
    exact ⟨_, List.getElem?_eq_getElem hi, h1.symm⟩
  have hdist : ∀ (i j : Nat) (p q : Oper × Kind E) (d : Tmp), i < j → full[i]? = some p → full[j]? = some q → p.1.dst = some d → q.1.dst ≠ some d := fun i j p q d hij h1 h2 => hlin.dist i j _ _ d hij (by have := (List.getElem?_eq_some_iff.1 h2).1; omega) (hget i p h1) (hget j q h2)
  have hdist2 : ∀ (i j : Nat) (p q : Oper × Kind E) (d : Tmp), i ≠ j → full[i]? = some p → full[j]? = some q → p.1.dst = some d → q.1.dst ≠ some d := fun i j p q d hij h1 h2 hd hd' => by
    rcases Nat.lt_or_gt_of_ne hij with h | h
    · exact hdist i j p q d h h1 h2 hd hd'
    · exact hdist j i q p d h h2 h1 hd' hd
  -- all have come up
  have fin : ∀ (fuel : Nat) (listed : Array Bool) (a : Act) (w : World) (ρ : Env), HeadInv .any ops n listed → (∀ i, i < n → listed.getD i false = true) → Holds a0 full (fun i => listed.getD i false = true) ρ a → S w →
      (∀ (i : Nat) (p : Oper × Kind E) (F : Fact E) (d : Tmp), listed.getD i false = true → (∀ m, mk m = true → i < m → listed.getD m false = false) → full[i]? = some p → p.2 = .fresh F → p.1.dst = some d → F.holds (ρ d) w) → wpAny P .any ops Q (fuel + (ops.size - n)) listed a w := fun fuel listed a w ρ inv hall hH hS hF => by
    have h1 : Holds a0 full (fun i => i < full.length) ρ (actOf a0 ρ full) := by
      have := holds_prefix a0 full ρ hdist full.length (Nat.le_refl _)
      rwa [List.take_length] at this
    have h2 : Holds a0 full (fun i => i < full.length) ρ a :=
      ⟨hH.defers, hH.size, fun t ht => hH.far t fun i p hi hp => ht i p (List.getElem?_eq_some_iff.1 hp).1 hp, fun i p t hi => hH.near i p t (hall i (by omega))⟩
    rw [h2.unique h1]
    have hz := hZ ρ w hS fun t F hm => by
      rcases mem_factsM hm with ⟨h, -⟩ | ⟨i, p, h1, h2, h3, h4⟩
      · cases h
      · exact hF i p F t (hall i (by have := (List.getElem?_eq_some_iff.1 h1).1; omega)) (fun m hm him => absurd (hmk.lt m hm) (fun h => h4 m hm (by omega) (by omega))) h1 h2 h3
    have hdl : (ops.toList.drop n).length = ops.size - n := by simp
    have hs := hsq listed inv.size hall (fun i hi => by
      rcases Nat.lt_or_ge i ops.size with h | h
      · exact getD_both (inv.tail i hi h)
      · simp [Array.getD, inv.size, Nat.not_lt.2 h])
    have := wpAny_seq_more fuel (ops.toList.drop n) n listed (actOf a0 ρ full) w (fun j => by simp [List.getElem?_drop]) (by rw [hdl]; exact hs) hz
    rwa [hdl, Nat.add_comm] at this
  have none_left : ∀ listed : Array Bool, HeadInv .any ops n listed → Region.ready .any ops listed = [] → ∀ m i, i < m → i < n → listed.getD i false = true := by
    intro listed inv hr m
    induction m with
    | zero => intro i h; omega
    | succ m ih =>
      intro i hi hin
      cases hli : listed.getD i false with
      | true => rfl
      | false =>
        have hlt : i < ops.size := by omega
        have ho : ops[i]? = some ops[i] := Array.getElem?_eq_getElem hlt
        have hmem : i ∈ Region.ready .any ops listed := by
          rw [mem_ready]
          refine ⟨?_, _, ho, fun e he hb => ?_⟩
          · simp only [Array.getD, inv.size, hlt, dif_pos] at hli ⊢
            exact hli
          · have := hlin.back i _ hin ho e he hb
            exact ih e.on (by omega) (by omega)
        rw [hr] at hmem
        cases hmem
  have some_left : ∀ listed : Array Bool, (∀ i, i < n → listed.getD i false = true) ∨ ∃ i, i < n ∧ listed.getD i false = false := fun listed => by
    by_cases h : ∃ i, i < n ∧ listed.getD i false = false
    · exact .inr h
    · exact .inl fun i hi => by
        cases hl : listed.getD i false with
        | true => rfl
        | false => exact (h ⟨i, hi, hl⟩).elim
  intro fuel
  induction fuel with
  | zero =>
    intro listed a w ρ inv ⟨todo, htodo, hin⟩ hH hS hS0 hF
    have hall : ∀ i, i < n → listed.getD i false = true := fun i hi => by
      cases hli : listed.getD i false with
      | true => rfl
      | false =>
        have := hin i hi hli
        rw [List.eq_nil_of_length_eq_zero (Nat.le_zero.1 htodo)] at this
        cases this
    exact fin 0 listed a w ρ inv hall hH hS hF
  | succ fuel ih =>
    intro listed a w ρ inv ⟨todo, htodo, hin⟩ hH hS hS0 hF
    rcases some_left listed with hall | ⟨i0, hi0, hl0⟩
    · exact fin (fuel + 1) listed a w ρ inv hall hH hS hF
    have hsz := inv.size
    rw [show fuel + 1 + (ops.size - n) = (fuel + (ops.size - n)) + 1 by omega]
    refine ⟨fun hr => ?_, fun i hi => ?_⟩
    · have := none_left listed inv hr (i0 + 1) i0 (by omega) hi0
      rw [hl0] at this
      cases this
    have hilt : i < n := by
      rcases Nat.lt_or_ge i n with h | h
      · exact h
      · exact absurd hi (tail_waits hsk hch hn inv _ i0 rfl hi0 (getD_in (by omega) hl0) i h)
    obtain ⟨h0, o, ho, hall⟩ := mem_ready.1 hi
    have hlt := (Array.getElem?_eq_some_iff.1 ho).1
    have h0' : listed.getD i false = false := by
      simp only [Array.getD, hsz, hlt, dif_pos] at h0 ⊢
      exact h0
    obtain ⟨p, hpi, rfl⟩ := hget' i o hilt ho
    have hil : i < full.length := by omega
    have hpre : Holds a0 full (fun j => j < i) ρ (actOf a0 ρ (full.take i)) := holds_prefix a0 full ρ hdist i (by omega)
    have hsplit : full = full.take i ++ p :: full.drop (i + 1) := by
      have : full[i] = p := by have := List.getElem?_eq_getElem hil; rw [hpi] at this; injection this with this; exact this.symm
      rw [← this, List.getElem_cons_drop, List.take_append_drop]
    have hstep := hp.step _ p _ hsplit ρ w hS
    have conf : ∀ (j : Nat) (q : Oper × Kind E), full[j]? = some q → ∀ t, q.1.dst = some t → t ∈ p.1.looksAt ops → (listed.getD j false = true ↔ j < i) := by
      intro j q hq t hd hl
      have hoj := hget j q hq
      have hjn : j < n := by have := (List.getElem?_eq_some_iff.1 hq).1; omega
      rcases Nat.lt_trichotomy j i with h | h | h
      · refine ⟨fun _ => h, fun _ => ?_⟩
        rcases hlin.wait j i _ _ h hilt hoj ho with hap | ⟨e, he, hb, hon⟩
        · exact absurd hl ((Oper.apart_spec hap).1 t hd)
        · rw [← hon]; exact hall e he hb
      · subst h
        rw [hpi] at hq
        injection hq with hq
        subst hq
        exact absurd hl (hlin.self j _ t hilt ho hd)
      · refine ⟨fun hj => ?_, fun h' => by omega⟩
        exfalso
        rcases hlin.wait i j _ _ h hjn ho hoj with hap | ⟨e, he, hb, hon⟩
        · exact absurd hl ((Oper.apart_spec hap).2.2 t hd)
        · have := inv.closed j _ hoj hj e he hb
          rw [hon, h0'] at this
          cases this
    have hdown' : ∀ j o, listed.getD j false = true → ops[j]? = some o → ∀ e ∈ o.after, Region.binds .any e = true → listed.getD e.on false = true := fun j o hj ho e he hb => inv.closed j o ho hj e he hb
    have later : ∀ m, mk m = true → i < m → fl i = false → listed.getD m false = false := fun m hm him hfl => by
      cases hlm : listed.getD m false with
      | false => rfl
      | true =>
        have := reach_closed hdown' 6 m i (hmk.before m i hm him hfl) hlm
        rw [h0'] at this
        cases this
    have hfacts : FactsOK (p.1.looksAt ops) ρ w (cond (fl i) [] (factsM mk 0 (full.take i) [])) := factsOK_of _ fun t F hm hl => by
      rcases hfl : fl i with _ | _
      case true => rw [hfl] at hm; cases hm
      rw [hfl] at hm
      rcases mem_factsM hm with ⟨h, -⟩ | ⟨j, q, h1, h2, h3, h4⟩
      · cases h
      · have hji : j < i := by
          have := (List.getElem?_eq_some_iff.1 h1).1
          rw [List.length_take] at this
          omega
        have hq : full[j]? = some q := by
          rw [List.getElem?_take, if_pos hji] at h1
          exact h1
        refine hF j q F t ((conf j q hq t h3 (by simpa using hl)).2 hji) (fun m hm hjm => ?_) hq h2 h3
        rcases Nat.lt_trichotomy i m with h | h | h
        · exact later m hm h hfl
        · rw [← h]; exact h0'
        · exact absurd (h4 m hm (by omega) (by rw [List.length_take]; omega)) id
    have hli' : (full.take i).length = i := by rw [List.length_take]; omega
    have hst := hstep (by rw [hli']; exact hfacts) (by
      rw [hli']
      intro hnm
      rw [Bool.and_eq_true] at hnm
      refine hS0 fun m hm => ?_
      have hfl : fl i = false := by simpa using hnm.2
      rcases Nat.lt_trichotomy i m with h | h | h
      · exact later m hm h hfl
      · rw [← h]; exact h0'
      · have := List.all_eq_true.1 hnm.1 m (List.mem_range.2 h)
        rw [hm] at this
        cases this)
    have hag : ∀ t, t ∈ p.1.looksAt ops → a.tmps[t]? = (actOf a0 ρ (full.take i)).tmps[t]? := fun t ht =>
      hH.agree hpre t fun j q hq hd => conf j q hq t hd ht
    have hexec : execOp a.eval p.1 = execOp (actOf a0 ρ (full.take i)).eval p.1 := execOp_congr p.1 (fun cs b => hlin.sel i _ cs b ho) fun x hx => by
      cases x with
      | tmp t =>
        have := hag t (List.mem_append_left _ (List.mem_filterMap.2 ⟨.tmp t, by simpa using hx, rfl⟩))
        simp only [Act.eval, Array.getD_eq_getD_getElem?]
        rw [this]
      | _ => rfl
    have hwant : Region.wanted p.1 (yielded ops a.tmps) = Region.wanted p.1 (yielded ops (actOf a0 ρ (full.take i)).tmps) := by
      unfold Region.wanted
      cases hg : p.1.guard with
      | none => rfl
      | some gw =>
        obtain ⟨g, want⟩ := gw
        have : yielded ops a.tmps g = yielded ops (actOf a0 ρ (full.take i)).tmps g := by
          unfold yielded
          cases ht : (ops[g]?).bind (·.dst) with
          | none => rfl
          | some t =>
            have := hag t (List.mem_append_right _ (by simp [hg, ht]))
            simp only [Option.bind_some, this]
        simp only [this]
    have size_eq : (actOf a0 ρ (full.take i)).tmps.size = a.tmps.size := hpre.size.trans hH.size.symm
    -- the way on
    have go : ∀ v w', p.2.rel v w' → S w' → ((∀ m, mk m = true → (listed.setIfInBounds i true).getD m false = false) → S0 w') → (∀ (j : Nat) (q : Oper × Kind E) (F : Fact E) (d : Tmp), listed.getD j false = true → (∀ m, mk m = true → j < m → (listed.setIfInBounds i true).getD m false = false) → full[j]? = some q → q.2 = .fresh F → q.1.dst = some d → F.holds (ρ d) w') →
        wpAny P .any ops Q (fuel + (ops.size - n)) (listed.setIfInBounds i true) (a.put p.1.dst v) w' := by
      intro v w' hR hS' hS0' hF'
      have next : ∀ ρ' : Env, p.2.val ρ' p.1 = v → (∀ j q, j ≠ i → full[j]? = some q → q.2.val ρ' q.1 = q.2.val ρ q.1) → (∀ j q F d, j ≠ i → full[j]? = some q → q.2 = .fresh F → q.1.dst = some d → ρ' d = ρ d) → (∀ F d, p.2 = .fresh F → p.1.dst = some d → F.holds (ρ' d) w') →
          wpAny P .any ops Q (fuel + (ops.size - n)) (listed.setIfInBounds i true) (a.put p.1.dst v) w' := by
        intro ρ' hv hothers hd' hself
        have hset : ∀ j, (listed.setIfInBounds i true).getD j false = true ↔ j = i ∨ listed.getD j false = true := fun j => by
          by_cases hji : j = i
          · subst hji
            simp [Array.getD, hsz, hlt]
          · rw [getD_set_ne false (Ne.symm hji)]
            simp [hji]
        refine ih _ _ _ ρ' (inv.set hi hilt) ⟨todo.filter (· != i), ?_, fun j hj hjl => ?_⟩ ?_ hS' hS0' (fun j q F d hj hjm hq hf hd => ?_)
        · have : (todo.filter (· != i)).length < todo.length := by
            rw [List.length_filter_lt_length_iff_exists]
            exact ⟨i, hin i hilt h0', by simp⟩
          omega
        · have hne : j ≠ i := fun e => by
            have := (hset j).2 (.inl e)
            rw [this] at hjl
            cases hjl
          refine List.mem_filter.2 ⟨hin j hj ?_, by simpa using hne⟩
          rwa [getD_set_ne false (Ne.symm hne)] at hjl
        · have := hH.put (ρ' := ρ') hpi hset (fun j q hj hq d hd => hdist2 j i q p d (fun e => by rw [e, h0'] at hj; cases hj) hq hpi hd) (fun j q hj hq => hothers j q (fun e => by rw [e, h0'] at hj; cases hj) hq)
          rwa [hv] at this
        · rcases (hset j).1 hj with rfl | hj
          · rw [hpi] at hq
            injection hq with hq
            subst hq
            exact hself F d hf hd
          · have hne : j ≠ i := fun e => by rw [e, h0'] at hj; cases hj
            rw [hd' j q F d hne hq hf hd]
            exact hF' j q F d hj hjm hq hf hd
      cases hk : p.2 with
      | fixed v0 =>
        have hv : v = v0 := by rw [hk] at hR; exact hR
        exact next ρ (by rw [hk]; exact hv.symm) (fun _ _ _ _ => rfl) (fun _ _ _ _ _ _ _ _ => rfl) (fun F d hf => by rw [hk] at hf; cases hf)
      | fresh F =>
        obtain ⟨d, hd⟩ := hp.dst p (by rw [hsplit]; simp) ⟨F, hk⟩
        have hR' : F.holds v w' := by rw [hk] at hR; exact hR
        have hne : ∀ j q d', j ≠ i → full[j]? = some q → q.1.dst = some d' → d' ≠ d := fun j q d' hji hq hd' e => hdist2 j i q p d' hji hq hpi hd' (by rw [hd, e])
        refine next (fun t => if t = d then v else ρ t) (by rw [hk]; simp [Kind.val, hd]) (fun j q hji hq => ?_) (fun j q F' d' hji hq _ hd' => if_neg (hne j q d' hji hq hd')) (fun F' d' hf hd' => ?_)
        · cases hkq : q.2 with
          | fixed v0 => rfl
          | fresh F' =>
            obtain ⟨d', hd'⟩ := hp.dst q (List.mem_of_getElem? hq) ⟨F', hkq⟩
            simp only [Kind.val, hd']
            exact if_neg (hne j q d' hji hq hd')
        · rw [hk] at hf
          injection hf with hf
          rw [hd] at hd'
          injection hd' with hd'
          subst hf hd'
          simpa using hR'
    have hset' : ∀ j, (listed.setIfInBounds i true).getD j false = false → listed.getD j false = false := fun j hj => by
      by_cases hji : j = i
      · rw [hji]; exact h0'
      · rwa [getD_set_ne false (Ne.symm hji)] at hj
    have hlen_i : (full.take i).length = i := by rw [List.length_take]; omega
    have hseti : (listed.setIfInBounds i true).getD i false = true := by simp [Array.getD, hsz, hlt]
    rw [hlen_i] at hst
    unfold wpOp
    simp only [ho]
    unfold StepTo at hst
    rw [← hwant] at hst
    split
    · rename_i hw
      rw [if_pos hw] at hst
      refine .inl (wp_carry (R := fun v w' => p.2.rel v w' ∧ S w' ∧ (cond (mk i) Em E) w w') hexec size_eq (hst _ fun v w' h1 h2 h3 => ⟨v, rfl, h1, h2, h3⟩) fun v w' ⟨h1, h2, h3⟩ => go v w' h1 h2 (fun hno => ?_) fun j q F d hj hjm hq hf hd => ?_)
      · rcases hmi : mk i with _ | _
        · rw [hmi] at h3
          exact hE0 _ _ (hS0 fun m hm => hset' m (hno m hm)) h3
        · have := hno i hmi
          rw [hseti] at this
          cases this
      rcases hmi : mk i with _ | _
      · rw [hmi] at h3
        exact F.keep _ _ _ (hF j q F d hj (fun m hm h => hset' m (hjm m hm h)) hq hf hd) h3
      · rcases Nat.lt_trichotomy j i with h | h | h
        · exfalso
          have := hjm i hmi h
          rw [hseti] at this
          cases this
        · exfalso; rw [h, h0'] at hj; cases hj
        · rcases hp.flt j q F hq hf with hfl | hst'
          · exfalso
            have := reach_closed hdown' 6 j i (hmk.after i j hmi h (by have := (List.getElem?_eq_some_iff.1 hq).1; omega) hfl) hj
            rw [h0'] at this
            cases this
          · rw [hmi] at h3
            exact hst' _ _ _ (hF j q F d hj (fun m hm h => hset' m (hjm m hm h)) hq hf hd) h3
    · rename_i hw
      rw [if_neg hw] at hst
      exact go undef w hst hS (fun hno => hS0 fun m hm => hset' m (hno m hm)) fun j q F d hj hjm hq hf hd => hF j q F d hj (fun m hm h => hset' m (hjm m hm h)) hq hf hd

/-- the same, that nothing looks into -/
structure WalkS (P : Program) (ops : Array Oper) (S S0 : World → Prop) (E Em : World → World → Prop) (mk fl : Nat → Bool) (Z : (Env → Act) → List (Tmp × Fact E) → Prop) (k : Nat) (l : List Oper) (A : Env → Act) (Fs : List (Tmp × Fact E)) : Prop where
  out : SettleS P ops S S0 E Em mk fl Z k l A Fs

/-- THE RULE, with marks and a tail of n operations ahead of it -/
theorem wp_walk_ms {id : Nat} {a : Act} {w : World} {l : List Oper} (n : Nat) (mk fl : Nat → Bool) (ms : List Nat) (hms : ∀ m, mk m = true → m ∈ ms) (hm : P.follows .mixedOrders = true) (hB : tailB l.toArray n = true) (hmk : markNB l.toArray n mk fl ms = true) (E Em : World → World → Prop) (S S0 : World → Prop) (hS : S w.drew) (hS0 : S0 w.drew) (hE0 : ∀ w w', S0 w → E w w' → S0 w')
    (h : WalkS P l.toArray S S0 E Em mk fl (fun A Fs => ∀ ρ w', S w' → (∀ t F, (t, F) ∈ Fs → F.holds (ρ t) w') → wpList P l.toArray Q (l.drop n) (A ρ) w') 0 (l.take n) (fun _ => a) []) : (Code.region id l.toArray true).wp P Q a w := by
  simp only [tailB, Bool.and_eq_true, decide_eq_true_eq] at hB
  obtain ⟨⟨⟨⟨hn, hlin⟩, hs⟩, hc⟩, hq⟩ := hB
  obtain ⟨full, hp, he, hZ⟩ := settleS_plan (l.take n) [] ⟨(fun _ h => by cases h), (fun j p F h => by simp at h), (fun pre p post he => by simp at he)⟩ h.out
  have inv0 : HeadInv .any l.toArray n (Array.replicate l.toArray.size false) :=
    ⟨by simp, fun j oj _ hl => (by rw [getD_replicate_false] at hl; cases hl), fun t _ ht => getD_in (by simpa using ht) (getD_replicate_false _ _)⟩
  have := any_order_ms (P := P) (Q := Q) hn (by simpa using he) (linearN_of hlin) hs hc (fun listed hsz h1 h2 => by
    have hn' := hn
    rw [show listed = (Array.replicate n true) ++ (Array.replicate (l.toArray.size - n) false) from getD_ext (by simp only [Array.size_append, Array.size_replicate]; omega) fun i => by
      rw [Array.getD_eq_getD_getElem? (xs := _ ++ _), Array.getElem?_append]
      rcases Nat.lt_or_ge i n with h | h
      · rw [h1 i h]
        simp [h]
      · rw [h2 i h]
        simp only [Array.size_replicate, Nat.not_lt.2 h, if_false, Array.getElem?_replicate]
        split <;> rfl]
    exact hq) (markedN_of hms hmk) hp hE0 hZ n _ a w.drew (fun _ => undef) inv0 ⟨List.range n, by simp, fun i hi _ => List.mem_range.2 hi⟩ ⟨rfl, rfl, fun _ _ => rfl, fun i p t hi => ?_⟩ hS (fun _ => hS0) fun i p F d hi => ?_
  · refine wp_region_any hm ?_
    rwa [show n + (l.toArray.size - n) = l.toArray.size by omega] at this
  · exfalso; rw [getD_replicate_false] at hi; cases hi
  · exfalso; rw [getD_replicate_false] at hi; cases hi
variable {Z : (Env → Act) → List (Tmp × Fact E) → Prop} {o : Oper} {rest : List Oper} {A : Env → Act} {Fs : List (Tmp × Fact E)} {k : Nat}
theorem ssettle_nil (h : Z A Fs) : WalkS P ops S S0 E Em mk fl Z k [] A Fs := ⟨h⟩
theorem ssettle_skip (hmk : mk k = false) (hw : ∀ ρ, Region.wanted o (yielded ops (A ρ).tmps) = false) (h : WalkS P ops S S0 E Em mk fl Z (k + 1) rest (fun ρ => (A ρ).put o.dst undef) Fs) : WalkS P ops S S0 E Em mk fl Z k (o :: rest) A Fs :=
  ⟨.inl ⟨undef, fun ρ w _ _ _ => by unfold StepTo; rw [if_neg (by rw [hw]; simp)], by rw [hmk]; exact h.out⟩⟩
theorem ssettle_run {v : Value} (hmk : mk k = false) (hE : ∀ w, S w → E w w) (hw : ∀ ρ, Region.wanted o (yielded ops (A ρ).tmps) = true)
    (hr : ∀ ρ w, S w → FactsOK (o.looksAt ops) ρ w (cond (fl k) [] Fs) → Pre mk fl S0 k w → (execOp (A ρ).eval o).run P w = .ok (.value v) w) (h : WalkS P ops S S0 E Em mk fl Z (k + 1) rest (fun ρ => (A ρ).put o.dst v) Fs) : WalkS P ops S S0 E Em mk fl Z k (o :: rest) A Fs :=
  ⟨.inl ⟨v, fun ρ w hS hF hP => by
    unfold StepTo
    rw [if_pos (hw ρ), hmk]
    intro K hK
    unfold Oper.wp
    rw [hr ρ w hS hF hP]
    exact hK v w rfl hS (hE w hS), by rw [hmk]; exact h.out⟩⟩
theorem ssettle_step {v : Value} (hmk : mk k = false) (hw : ∀ ρ, Region.wanted o (yielded ops (A ρ).tmps) = true)
    (hc : ∀ ρ w, S w → FactsOK (o.looksAt ops) ρ w (cond (fl k) [] Fs) → Pre mk fl S0 k w → ∀ K : Act → World → Prop, (∀ w', S w' → E w w' → K ((A ρ).put o.dst v) w') → o.wp P (A ρ) w K (fun _ _ _ => False)) (h : WalkS P ops S S0 E Em mk fl Z (k + 1) rest (fun ρ => (A ρ).put o.dst v) Fs) : WalkS P ops S S0 E Em mk fl Z k (o :: rest) A Fs :=
  ⟨.inl ⟨v, fun ρ w hS hF hP => by
    unfold StepTo
    rw [if_pos (hw ρ), hmk]
    exact fun K hK => hc ρ w hS hF hP K fun w' h1 h2 => hK v w' rfl h1 h2, by rw [hmk]; exact h.out⟩⟩
theorem ssettle_known {d : Tmp} (F : Fact E) (hmk : mk k = false) (hfl : fl k = false) (hd : o.dst = some d) (hw : ∀ ρ, Region.wanted o (yielded ops (A ρ).tmps) = true)
    (hc : ∀ ρ w, S w → FactsOK (o.looksAt ops) ρ w (cond (fl k) [] Fs) → Pre mk fl S0 k w → ∀ K : Act → World → Prop, (∀ v w', F.holds v w' → S w' → E w w' → K ((A ρ).put o.dst v) w') → o.wp P (A ρ) w K (fun _ _ _ => False)) (h : WalkS P ops S S0 E Em mk fl Z (k + 1) rest (fun ρ => (A ρ).put (some d) (ρ d)) ((d, F) :: Fs)) : WalkS P ops S S0 E Em mk fl Z k (o :: rest) A Fs :=
  ⟨.inr ⟨d, F, hd, .inl hfl, fun ρ w hS hF hP => by
    unfold StepTo
    rw [if_pos (hw ρ), hmk]
    exact fun K hK => hc ρ w hS hF hP K hK, by rw [hmk]; exact h.out⟩⟩
/-- one that comes up at any time, and what is known of it outlives a mark -/
theorem ssettle_float {d : Tmp} (F : Fact E) (hst : Stays Em F) (hmk : mk k = false) (hd : o.dst = some d) (hw : ∀ ρ, Region.wanted o (yielded ops (A ρ).tmps) = true)
    (hc : ∀ ρ w, S w → FactsOK (o.looksAt ops) ρ w (cond (fl k) [] Fs) → Pre mk fl S0 k w → ∀ K : Act → World → Prop, (∀ v w', F.holds v w' → S w' → E w w' → K ((A ρ).put o.dst v) w') → o.wp P (A ρ) w K (fun _ _ _ => False)) (h : WalkS P ops S S0 E Em mk fl Z (k + 1) rest (fun ρ => (A ρ).put (some d) (ρ d)) ((d, F) :: Fs)) : WalkS P ops S S0 E Em mk fl Z k (o :: rest) A Fs :=
  ⟨.inr ⟨d, F, hd, .inr hst, fun ρ w hS hF hP => by
    unfold StepTo
    rw [if_pos (hw ρ), hmk]
    exact fun K hK => hc ρ w hS hF hP K hK, by rw [hmk]; exact h.out⟩⟩
/-- a mark: what was known is forgotten -/
theorem ssettle_mark {d : Tmp} (F : Fact E) (hmk : mk k = true) (hfl : fl k = false) (hd : o.dst = some d) (hw : ∀ ρ, Region.wanted o (yielded ops (A ρ).tmps) = true)
    (hc : ∀ ρ w, S w → FactsOK (o.looksAt ops) ρ w (cond (fl k) [] Fs) → Pre mk fl S0 k w → ∀ K : Act → World → Prop, (∀ v w', F.holds v w' → S w' → Em w w' → K ((A ρ).put o.dst v) w') → o.wp P (A ρ) w K (fun _ _ _ => False)) (h : WalkS P ops S S0 E Em mk fl Z (k + 1) rest (fun ρ => (A ρ).put (some d) (ρ d)) [(d, F)]) : WalkS P ops S S0 E Em mk fl Z k (o :: rest) A Fs :=
  ⟨.inr ⟨d, F, hd, .inl hfl, fun ρ w hS hF hP => by
    unfold StepTo
    rw [if_pos (hw ρ), hmk]
    exact fun K hK => hc ρ w hS hF hP K fun v w' h1 h2 h3 => hK v w' h1 h2 h3, by rw [hmk]; exact h.out⟩⟩
end
end Go.Proofs.YtfjmhmfkhgjnhaaDoor
