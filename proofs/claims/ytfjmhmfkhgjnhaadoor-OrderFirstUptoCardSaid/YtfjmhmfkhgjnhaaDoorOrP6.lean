/-
  An argument that is a graph, at a law's end.
-/
import Derived.Test.YtfjmhmfkhgjnhaaDoorOrP5
import Derived.Test.YtfjmhmfkhgjnhaaDoorOrP4
import Derived.Laws.EntriesVeiled
import Derived.Lib.AppendZeros
import Derived.Test.YtfjmhmfkhgjnhaaDoorOrP1
import Derived.Test.YtfjmhmfkhgjnhaaDoorRows
import Derived.Test.YtfjmhmfkhgjnhaaDoorCards
import Derived.Test.YtfjmhmfkhgjnhaaDoorTie
import Derived.WalkKit
import Derived.ProofKit
import Derived.OpenShut
import Derived.Deep.DeepHandedRow
import Derived.Lib.LaidTab
import Derived.Test.YtfjmhmfkhgjnhaaDoorOrP3

namespace Go.Proofs.YtfjmhmfkhgjnhaaDoor
set_option linter.unusedVariables false
set_option linter.unusedSimpArgs false
set_option maxRecDepth 100000
open Go.RowKit Go.Shelf

attribute [local go_sem] Oper.semAt_some

namespace Mt
def visW (B : List (List Nat)) (bk : List Int) (f n : Nat) (p : List Nat × List Nat) : List Nat × List Nat := vis Bs.bit Bs.put (nbW B) bk f n p
def vgoW (B : List (List Nat)) (bk : List Int) (f : Nat) (ks : List Nat) (p : List Nat × List Nat) : List Nat × List Nat := vgo Bs.bit Bs.put bk (vis Bs.bit Bs.put (nbW B) bk f) ks p
theorem visW_succ (B : List (List Nat)) (bk : List Int) (f n : Nat) (p : List Nat × List Nat) : visW B bk (f + 1) n p = vgoW B bk f (nbW B n) (Bs.put p.1 n, p.2) := rfl
theorem vgoW_snoc (B : List (List Nat)) (bk : List Int) (f : Nat) (a : List Nat) (k : Nat) (p : List Nat × List Nat) : vgoW B bk f (a ++ [k]) p = if Bs.bit (vgoW B bk f a p).2 k then vgoW B bk f a p else visW B bk f (bk.getD k (-1)).toNat ((vgoW B bk f a p).1, Bs.put (vgoW B bk f a p).2 k) := by
  unfold vgoW
  rw [vgo_app]
  rfl
theorem vis_sn {S : Type} {has : S → Nat → Bool} {add : S → Nat → S} {nb : Nat → List Nat} {bk : List Int} (hadd : ∀ s k x, has (add s k) x = (has s x || x == k)) : ∀ (f n : Nat) (p : S × S) (x : Nat), has p.2 x = true → has (vis has add nb bk f n p).2 x = true := by
  intro f
  induction f with
  | zero => intro n p x h; exact h
  | succ f ih =>
    intro n p
    show ∀ x, has p.2 x = true → has (vgo has add bk (vis has add nb bk f) (nb n) (add p.1 n, p.2)).2 x = true
    have key : ∀ (ks : List Nat) (q : S × S) (x : Nat), has q.2 x = true → has (vgo has add bk (vis has add nb bk f) ks q).2 x = true := by
      intro ks
      induction ks with
      | nil => intro q x h; exact h
      | cons k ks ihk =>
        intro q x h
        unfold vgo
        split
        · exact ihk q x h
        · exact ihk _ x (ih _ _ x (by show has (add q.2 k) x = true; rw [hadd, h]; rfl))
    exact key (nb n) (add p.1 n, p.2)
theorem vgoW_sn {B : List (List Nat)} {bk : List Int} {f : Nat} : ∀ (a : List Nat) (p : List Nat × List Nat) (x : Nat), Bs.bit p.2 x = true → Bs.bit (vgoW B bk f a p).2 x = true
  | [], p, x, h => h
  | k :: a, p, x, h => by
    have e : vgoW B bk f (k :: a) p = vgo Bs.bit Bs.put bk (vis Bs.bit Bs.put (nbW B) bk f) (k :: a) p := rfl
    rw [e]
    unfold vgo
    split
    · exact vgoW_sn a p x h
    · exact vgoW_sn a _ x (vis_sn (has := Bs.bit) (add := Bs.put) Bs.bit_put f _ _ x (by show Bs.bit (Bs.put p.2 k) x = true; rw [Bs.bit_put, h]; rfl))
end Mt

def visv (gF gB gT gV gP : Nat) : Value := .func (.func 44) #[] #[.pointer (some ⟨gF, 0, none⟩), .pointer (some ⟨gB, 0, none⟩), .pointer (some ⟨gT, 0, none⟩), .pointer (some ⟨gV, 0, none⟩), .pointer (some ⟨gP, 0, none⟩)]
/-- what the visit finds: the sets of those behind, itself, the matching -/
structure WdC (N : Nat) (w0 w1 : World) (gF gB gT gV gP gm gk : Nat) (A : Option Addr) (c : Nat) (bk : List Int) : Prop where
  bel : Below w0.heap.size w0 w1
  lo : w0.heap.size ≤ gF ∧ w0.heap.size ≤ gT
  lt : gF < w1.heap.size ∧ gT < w1.heap.size
  ne : gF ≠ gT ∧ gB ≠ gF ∧ gB ≠ gT ∧ gV ≠ gF ∧ gV ≠ gT ∧ gP ≠ gF ∧ gP ≠ gT ∧ gm ≠ gF ∧ gm ≠ gT ∧ gk ≠ gF ∧ gk ≠ gT
  cB : w1.cell? ⟨gB, 0, none⟩ = some (.slice A N c)
  cV : w1.cell? ⟨gV, 0, none⟩ = some (visv gF gB gT gV gP)
  cP : w1.cell? ⟨gP, 0, none⟩ = some (.pointer (some ⟨gm, 0, none⟩))
  cM : w1.cell? ⟨gm, 2, none⟩ = some (.slice (some ⟨gk, 0, none⟩) N N)
  bkr : Blk w1 gk 3 (ints .i64 bk)
  len : bk.length = N
structure WdR (N : Nat) (w1 W : World) (gF gT : Nat) (p : List Nat × List Nat) : Prop where
  kp : Keeps (MtK gF gT gT) w1 W
  fr : ∃ v, Blk W gF 78 [v] ∧ SlU W v p.1 ∧ New w1.heap.size v
  tw : ∃ v, Blk W gT 78 [v] ∧ SlU W v p.2 ∧ New w1.heap.size v
  g1 : Bs.Gs N p.1
  g2 : Bs.Gs N p.2
section
variable {N : Nat} {w0 w1 W W' : World} {gF gT : Nat} {p : List Nat × List Nat}
theorem WdR.below (h : WdR N w1 W gF gT p) (hb : Below W.heap.size W W') : WdR N w1 W' gF gT p := by
  obtain ⟨v, a1, a2, a3⟩ := h.fr
  obtain ⟨u, b1, b2, b3⟩ := h.tw
  exact ⟨h.kp.step (Keeps.of_below hb (fun _ => False)) (fun _ _ e => e.elim), ⟨v, a1.below hb, a2.below hb, a3⟩, ⟨u, b1.below hb, b2.below hb, b3⟩, h.g1, h.g2⟩
theorem WdR.kept {row : Option Nat} (h : WdR N w1 W gF gT p) (hg : W.grownBy W' row) (hr : ∀ r, row = some r → w1.heap.size ≤ r ∧ ∃ o : Obj, W.heap[r]? = some o ∧ o.isCells = false) : WdR N w1 W' gF gT p := by
  obtain ⟨v, a1, a2, a3⟩ := h.fr
  obtain ⟨u, b1, b2, b3⟩ := h.tw
  have hr' := fun r e => (hr r e).2
  exact ⟨h.kp.step (Keeps.of_grown hg) (fun i hi e => by have := (hr i e.symm).1; omega), ⟨v, blk_kept a1 hg hr', slU_kept a2 hg hr', a3⟩, ⟨u, blk_kept b1 hg hr', slU_kept b2 hg hr', b3⟩, h.g1, h.g2⟩
theorem slU_far {w5 w6 : World} {g : Nat} {v : Value} {s : List Nat} {lim : Nat} (h : SlU w5 v s) (hn : New lim v) (hg : w5.grownBy w6 (some g)) (hl : g < lim) : SlU w6 v s := by
  obtain ⟨⟨A', c', rfl, h1, h2, h3, b, o, h4, h5⟩, hw⟩ := h
  refine ⟨⟨A', c', rfl, h1, h2, h3, b, o, fun hne => ⟨(h4 hne).1, Nat.lt_of_lt_of_le (h4 hne).2 hg.size⟩, fun j u hu => ?_⟩, hw⟩
  have hne : nats s ≠ [] := fun e => by rw [e] at hu; simp at hu
  have hlim : lim ≤ b := hn ⟨b, o, none⟩ (by rw [(h4 hne).1]; rfl)
  exact (World.cell?_of_block (hg.block b (h4 hne).2 (fun e => by injection e with e; omega))).trans (h5 j u hu)
theorem WdR.tellF {w5 w6 : World} {u : Value} {s : List Nat} (hne : gF ≠ gT) (hl : gF < w1.heap.size) (h : WdR N w1 w5 gF gT p) (hu : SlU w5 u s) (hn : New w1.heap.size u) (hs : Bs.Gs N s) (hB : Blk w6 gF 78 [u]) (hg : w5.grownBy w6 (some gF)) : WdR N w1 w6 gF gT (s, p.2) := by
  obtain ⟨v, b1, b2, b3⟩ := h.tw
  exact ⟨h.kp.step (Keeps.of_grown hg) (fun i _ e => .inl (by injection e)), ⟨u, hB, slU_far hu hn hg hl, hn⟩, ⟨v, b1.grown hg (fun e => by injection e with e; exact hne e.symm), slU_far b2 b3 hg hl, b3⟩, hs, h.g2⟩
theorem WdR.tellT {w5 w6 : World} {u : Value} {s : List Nat} (hne : gF ≠ gT) (hl : gT < w1.heap.size) (h : WdR N w1 w5 gF gT p) (hu : SlU w5 u s) (hn : New w1.heap.size u) (hs : Bs.Gs N s) (hB : Blk w6 gT 78 [u]) (hg : w5.grownBy w6 (some gT)) : WdR N w1 w6 gF gT (p.1, s) := by
  obtain ⟨v, b1, b2, b3⟩ := h.fr
  exact ⟨h.kp.step (Keeps.of_grown hg) (fun i _ e => .inr (.inl (by injection e))), ⟨v, b1.grown hg (fun e => by injection e with e; exact hne e), slU_far b2 b3 hg hl, b3⟩, ⟨u, hB, slU_far hu hn hg hl, hn⟩, h.g1, hs⟩
end
def VisOK (N : Nat) (B : List (List Nat)) (w1 : World) (gF gB gT gV gP : Nat) (bk : List Int) (Z : Nat → Prop) (f : Nat) : Prop :=
  ∀ (n : Nat) (p : List Nat × List Nat) (W : World), n < N → Mt.unseen Bs.bit N p.2 < f → (∀ k ∈ Mt.nbW B n, Z k) → WdR N w1 W gF gT p →
    Calls Tryd.prog 44 #[.int .i64 (n : Int), .pointer (some ⟨gF, 0, none⟩), .pointer (some ⟨gB, 0, none⟩), .pointer (some ⟨gT, 0, none⟩), .pointer (some ⟨gV, 0, none⟩), .pointer (some ⟨gP, 0, none⟩)] W fun e W' => e = .returned (.tuple #[]) ∧ WdR N w1 W' gF gT (Mt.visW B bk f n p) ∧ Keeps (MtK gF gT gT) W W'

set_option maxRecDepth 100000 in
set_option maxHeartbeats 8000000 in
theorem vis_step (N : Nat) (hN : N ≤ 200) (B : List (List Nat)) (hBl : B.length = N) (hB : ∀ s ∈ B, Bs.Gs N s) (w0 w1 : World) (hT : Tab w0) (gF gB gT gV gP gm gk : Nat) (A : Option Addr) (c : Nat) (bk : List Int) (hC : WdC N w0 w1 gF gB gT gV gP gm gk A c bk) (hv : SlW w0 (.slice A N c) B) (Z : Nat → Prop) (hZ : Mt.Shut (Mt.nbW B) Z bk) (hbk : ∀ v ∈ bk, v < (N : Int)) (f : Nat)
    (ih : VisOK N B w1 gF gB gT gV gP bk Z f) : VisOK N B w1 gF gB gT gV gP bk Z (f + 1) := by
  intro n p w hn hu hnZ h
  obtain ⟨xs, hxs⟩ : ∃ s, B[n]? = some s := ⟨_, List.getElem?_eq_getElem (by omega)⟩
  have hxD : Mt.nbW B n = Bs.ls 0 xs := by unfold Mt.nbW; rw [List.getD_eq_getElem?_getD, hxs, Option.getD_some]
  have hgx := hB xs (List.mem_of_getElem? hxs)
  rw [Mt.visW_succ, hxD]
  rw [hxD] at hnZ
  obtain ⟨R, hR⟩ : ∃ R, R = Mt.vgoW B bk f (Bs.ls 0 xs) (Bs.put p.1 n, p.2) := ⟨_, rfl⟩
  rw [← hR]
  have HR := Lib.hid hR
  clear hR
  obtain ⟨vF, bF, sF, nF⟩ := id h.fr
  obtain ⟨AF, cF, rfl⟩ := slU_form sF
  have hgF := h.g1.length
  have dF : w.cell? ⟨gF, 0, none⟩ = some (.slice AF p.1.length cF) := (bF.cell 0).trans rfl
  have hlw := h.kp.size
  have hadd := put_new w _ p.1 n sF (by omega) (by omega)
  refine (callsIn_wide (n := 4)).1 ?_
  refine callsIn_of_wp_marks Tryd.func44 rfl trivial ?_ rfl
  simp only [Tryd.ntmps44, List.size_toArray, List.length_cons, List.length_nil, Nat.reduceAdd, Nat.reduceSub, Array.replicate_succ, Array.replicate_zero, List.push_toArray, List.append_toArray, List.nil_append, List.cons_append]
  refine wpIn_wide.2 ?_
  go_wp2_with fail
  refine hadd.mono ?_
  rintro e w2 ⟨u, rfl, ⟨hU, hUn⟩, hb2⟩
  have hUn' := hUn.mono hlw
  obtain ⟨Ua, Uc, rfl⟩ := slU_form hU
  have bF2 := bF.below hb2
  have M2 := h.below hb2
  clear dF hadd sF nF
  go_upto_region 1 with (refine wpl_set_blk bF2 0 _ (by kernel_rfl) (by simp) rfl rfl rfl rfl rfl rfl ?_; intro w3 hB3 hg3)
  have M3 := M2.tellF hC.ne.1 hC.lt.1 hU hUn' (h.g1.put hn) hB3 hg3
  have K3 : Keeps (MtK gF gT gT) w w3 := (Keeps.of_below hb2 (MtK gF gT gT)).step ((Keeps.of_grown hg3).mono (S' := fun i => i = gF) fun i hi => by injection hi) fun i _ e => .inl e
  clear M2 hU hUn hUn' bF2 hB3 hg3 hb2 bF
  -- the set to go through
  obtain ⟨os, hos, hsl⟩ := id hv
  obtain ⟨vn, hvn⟩ : ∃ v, os[n]? = some v := ⟨_, List.getElem?_eq_getElem (by obtain ⟨_, _, _, _, _, h3, _⟩ := hos; omega)⟩
  have sx0 := hsl n vn xs hvn hxs
  have hlo3 := hC.lo
  have hB03 : Below w0.heap.size w0 w3 := hC.bel.trans (M3.kp.below hC.bel.size (fun i hi => by unfold MtK at hi; omega))
  have sx := sx0.below hB03
  obtain ⟨aA, ac, rfl⟩ := slU_form sx
  obtain ⟨A1, c1, e1, -, -, hol, hoc⟩ := hos
  injection e1 with e1 e2 e3
  subst e1 e3
  clear e2
  obtain ⟨g, o, hAg, hgl, hcell⟩ := hoc.at_ (fun e => by rw [e] at hvn; simp at hvn)
  subst hAg
  have cn : w3.cell? ⟨g, o + n, none⟩ = some (.slice aA xs.length ac) := (hB03.cell (p := ⟨g, o + n, none⟩) hgl).trans (hcell n _ hvn)
  obtain ⟨-, nB1, nB2, nV1, nV2, nP1, nP2, nm1, nm2, nk1, nk2⟩ := hC.ne
  have notB : ¬ MtK gF gT gT gB := fun e => by unfold MtK at e; omega
  have cB3 : w3.cell? ⟨gB, 0, none⟩ = some (.slice (some ⟨g, o, none⟩) N c) := M3.kp.cell hC.cB notB
  have g1 : decide ((0 : Int) ≤ (n : Int)) = true := by simp
  have g2 : decide ((n : Int) < (N : Int)) = true := by simp; omega
  have g3 : (n : Int) < (N : Int) := by omega
  have HS := Lib.hid (And.intro sx (And.intro hgx (And.intro hu (And.intro h (And.intro hxs (And.intro sx0 (And.intro hB03 M3)))))))
  clear sx hgx hu h hxs hxD hsl hcell hoc hvn hol sx0 hB03 M3
  go_wp2_with fail
  refine ((callsIn_wide (n := 2)).1 (all_in _ _ _ _)).mono ?_
  rintro e w4 ⟨rfl, rfl⟩
  have bQ := Boxed.new w3 78 (.slice aA xs.length ac)
  have hbQ : Below w3.heap.size w3 (w3.alloc (.cells #[.slice aA xs.length ac] 78)) := below_alloc (Below.refl _ _) _
  have hzQ : (w3.alloc (.cells #[.slice aA xs.length ac] 78)).heap.size = w3.heap.size + 1 := by simp
  obtain ⟨QB, hQB⟩ : ∃ QB, QB = w3.heap.size := ⟨_, rfl⟩
  clear cn cB3
  go_wp2_with fail
  rw [← hQB] at bQ hzQ ⊢
  generalize (w3.alloc (.cells #[.slice aA xs.length ac] 78)) = W0 at bQ hbQ hzQ ⊢
  obtain ⟨sx, hgx, hu, h, hxs, sx0, hB03, M3⟩ := HS.out
  have M0 := M3.below hbQ
  have K0 : Keeps (MtK gF gT gT) w W0 := K3.step (Keeps.of_below hbQ (fun _ => False)) (fun _ _ e => e.elim)
  have hlt1 := hC.lt
  have hlQ : w1.heap.size ≤ QB := by rw [hQB]; exact M3.kp.size
  have hB00 : Below w0.heap.size w0 W0 := hB03.trans (hbQ.mono hB03.size)
  have hsl0 : ∀ (p : Addr), p.block < w0.heap.size → ∀ W1 wr, Below W0.heap.size W0 W1 → KpT W0.heap.size gF gT gT W1 wr → wr.cell? p = w0.cell? p := fun p hp W1 wr hb hk => by
    have h2 := hB00.size
    rw [hk.cell (by omega) (by unfold MtK; omega), hb.cell (by omega), hB00.cell hp]
  have hC0 : Cells w0 w0.heap.size aA (nats xs) := by
    obtain ⟨⟨A', c', e, -, -, -, h4⟩, -⟩ := sx0
    injection e with e1 e2 e3
    subst e1
    exact h4
  refine (wpIn_wide (n := 4)).1 ?_
  have stA := all_pre_stops 2 QB ac aA xs sx.2 (by have := hgx.length; omega) (KpT W0.heap.size gF gT gT) (KpT.refl _ _ _ _) (fun h k => h.trans k) W0
    (fun W1 wr hb hk => (hk.cell (a := ⟨QB, 0, none⟩) (by show QB < _; omega) (by unfold MtK; show ¬ (QB = gF ∨ QB = gT ∨ QB = gT); omega)).trans ((hb.cell (p := ⟨QB, 0, none⟩) (by show QB < _; omega)).trans bQ.cell))
    (fun W1 wr hb hk => ⟨w0.heap.size, hC0.keep (Nat.le_refl _) fun p hp => hsl0 p hp W1 wr hb hk⟩)
    (fun W1 wr hb hk j hj => (hsl0 ⟨0, j, none⟩ hT.lt W1 wr hb hk).trans (hT j hj))
  have HX := Lib.hid (And.intro sx (And.intro hgx (And.intro hu (And.intro h (And.intro hxs (And.intro hsl0 hC0))))))
  have hqQ : QB < W0.heap.size := by omega
  clear HS sx hgx hu h hxs hsl0 hC0 sx0 hB03 M3 K3 hbQ bQ hQB
  refine wpIn_rangeFunc_ownH rfl (by omega) (gf := 65) (lb := #[.pointer (some ⟨QB, 0, none⟩)]) rfl trivial (enters_of Tryd.func65 (by kernel_rfl) rfl)
    stA (fun h k => h.trans k) (kpT_b (Nat.le_refl _)) (Below.refl _ _) (fun _ => rfl)
    (fun (pre : List { x : Nat // x ∈ Bs.ls 0 xs }) W' => WdR N w1 W' gF gT (Mt.vgoW B bk f (pre.map (fun (z : { x : Nat // x ∈ Bs.ls 0 xs }) => z.1)) (Bs.put p.1 n, p.2)) ∧ Keeps (MtK gF gT gT) W0 W')
    (fun _ _ _ => False)
    (OwnFrom.and (fun (s : List { x : Nat // x ∈ Bs.ls 0 xs }) X Y row (hs : WdR N w1 X gF gT (Mt.vgoW B bk f (s.map (fun (z : { x : Nat // x ∈ Bs.ls 0 xs }) => z.1)) (Bs.put p.1 n, p.2))) hg hr => hs.kept hg (fun r e => ⟨by have := (hr r e).1; omega, (hr r e).2⟩)) (ownFrom_keeps (Nat.le_refl _)))
    (fun _ _ _ _ _ hs _ _ => hs)
    ⟨by rw [List.map_nil]; exact M0, Keeps.refl _ _⟩
    (fun x a' W' => a' = { tmps := #[.int .i64 (n : Int), .pointer (some ⟨gF, 0, none⟩), .pointer (some ⟨gB, 0, none⟩), .pointer (some ⟨gT, 0, none⟩), .pointer (some ⟨gV, 0, none⟩), .pointer (some ⟨gP, 0, none⟩), undef, .int .i64 (x.1 : Int), .slice AF p.1.length cF, .int .i64 (n : Int), .slice Ua (Bs.put p.1 n).length Uc, .slice (some ⟨g, o, none⟩) N c, .int .i64 (n : Int), .pointer (some ⟨g, o + n, none⟩), .slice aA xs.length ac, .func (.func 65) #[] #[.pointer (some ⟨QB, 0, none⟩)], .int .i64 (x.1 : Int), undef, undef, undef, undef, undef, undef, undef, undef, undef, undef, undef, undef, undef, undef, undef, undef], defers := [] })
    (fun x a' _ X Y row hs hg hr => hs)
    ?assign ?body ?done ?stop
  case assign =>
    rintro l pre x W' K hI hK
    gi_wp2
    exact hK _ _ (KeepsFrom.refl _ _) (KpT.refl _ _ _ _ _) hI rfl
  case body =>
    rintro l0 pre x a' W' hl ⟨r, hr⟩ ⟨hM, hk⟩ rfl hlt'
    obtain ⟨x, hxm⟩ := x
    dsimp only
    obtain ⟨sx, hgx, hu, h, hxs, hsl0, hC0⟩ := HX.out
    have hxN : x < N := hgx.lt x ((Bs.mem_list hgx.ws x).1 hxm)
    have hxZ : Z x := hnZ x hxm
    have hsn := Mt.vgoW_snoc B bk f (pre.map (·.1)) x (Bs.put p.1 n, p.2)
    have hmap : (pre ++ [(⟨x, hxm⟩ : { x : Nat // x ∈ Bs.ls 0 xs })]).map (·.1) = pre.map (·.1) ++ [x] := by simp
    rw [← hmap] at hsn
    clear hmap
    have hu1 : Mt.unseen Bs.bit N (Mt.vgoW B bk f (pre.map (·.1)) (Bs.put p.1 n, p.2)).2 < f + 1 := Nat.lt_of_le_of_lt (Mt.unseen_mono (Mt.vgoW_sn (pre.map (·.1)) (Bs.put p.1 n, p.2))) hu
    obtain ⟨q, hq⟩ : ∃ q, q = Mt.vgoW B bk f (pre.map (·.1)) (Bs.put p.1 n, p.2) := ⟨_, rfl⟩
    rw [← hq] at hM hsn hu1
    obtain ⟨vT, hvT, sT, nT⟩ := id hM.tw
    obtain ⟨AT, cT, rfl⟩ := slU_form sT
    have eT : W'.cell? ⟨gT, 0, none⟩ = some (.slice AT q.2.length cT) := (hvT.cell 0).trans rfl
    have hlW := hM.kp.size
    have HQ := Lib.hid (And.intro hsn (And.intro hu1 hq))
    clear sx hgx hu h hxs hsl0 hC0 hsn hu1 hq hr
    have hW0W := hk.size
    gi_wp2_with fail
    refine ⟨trivial, (CallsIn.inRound l0 (callsIn_wide.2 (set_has W' _ q.2 x sT (by omega)))).mono ?_⟩
    rintro e w2 ⟨rfl, rfl⟩
    rcases hb : Bs.bit q.2 x with _ | _
    · have hgl2 := hM.g2.length
      have hadd := put_new w2 _ q.2 x sT (by omega) (by omega)
      obtain ⟨hk0, hkZ⟩ := hZ x hxZ
      obtain ⟨y, hy⟩ := Int.eq_ofNat_of_zero_le hk0
      have hyN : y < N := by
        have hx1 : bk[x]? = some (bk.getD x (-1)) := by rw [List.getD_eq_getElem?_getD, List.getElem?_eq_getElem (by have := hC.len; omega)]; rfl
        have := hbk _ (List.mem_of_getElem? hx1)
        omega
      rw [hy, Int.toNat_natCast] at hkZ
      gi_wp2_with fail
      refine ⟨trivial, (CallsIn.inRound l0 (callsIn_wide.2 hadd)).mono ?_⟩
      rintro e w5 ⟨u, rfl, ⟨hU, hUn⟩, hb5⟩
      have hUn' := hUn.mono hlW
      obtain ⟨Va, Vc, rfl⟩ := slU_form hU
      have bT5 : Boxed w5 gT 78 (.slice AT q.2.length cT) := hvT.below hb5
      have M5 := hM.below hb5
      have eT5 := bT5.cell
      have zT5 := bT5.frozen
      have hB6 := bT5.set (.slice Va (Bs.put q.2 x).length Vc)
      have hg6 := grown_setCell w5 gT 0 (.slice Va (Bs.put q.2 x).length Vc)
      clear hadd sT nT eT
      gi_wp2_with fail
      generalize (w5.setCell ⟨gT, 0, none⟩ (.slice Va (Bs.put q.2 x).length Vc)) = w6 at hB6 hg6 ⊢
      have M6 := M5.tellT hC.ne.1 hC.lt.2 hU hUn' (hM.g2.put hxN) hB6 hg6
      have K6 : Keeps (MtK gF gT gT) w2 w6 := (Keeps.of_below hb5 (MtK gF gT gT)).step ((Keeps.of_grown hg6).mono (S' := fun i => i = gT) fun i hi => by injection hi) fun i _ e => .inr (.inl e)
      have nW : ∀ i, i ≠ gF → i ≠ gT → ¬ MtK gF gT gT i := fun i h1 h2 h3 => by unfold MtK at h3; omega
      have eV := M6.kp.cell hC.cV (nW _ nV1 nV2)
      have eP := M6.kp.cell hC.cP (nW _ nP1 nP2)
      have eM := M6.kp.cell hC.cM (nW _ nm1 nm2)
      have eK : w6.cell? ⟨gk, x, none⟩ = some (.int .i64 (y : Int)) := ((hC.bkr.keeps M6.kp (nW _ nk1 nk2)).cell x).trans (by rw [ints_at (by have := hC.len; omega), hy])
      have f2 : decide ((0 : Int) ≤ (x : Int)) = true := by simp
      have f3 : decide ((x : Int) < (N : Int)) = true := by simp; omega
      have f5 : (x : Int) < (N : Int) := by omega
      have hun : Mt.unseen Bs.bit N (Bs.put q.2 x) < f := by
        have h1 : Mt.unseen Bs.bit N (Bs.put q.2 x) < Mt.unseen Bs.bit N q.2 := Mt.unseen_add Bs.bit_put hxN hb
        have h2 := HQ.out.2.1
        omega
      have gC := fun w' (hbw : Below w6.heap.size w6 w') => ih y (q.1, Bs.put q.2 x) w' hyN hun hkZ (M6.below hbw)
      unfold visv at eV
      have hS0 : w6.drew.cell? ⟨gV, 0, none⟩ = some (.func (.func 44) #[] #[.pointer (some ⟨gF, 0, none⟩), .pointer (some ⟨gB, 0, none⟩), .pointer (some ⟨gT, 0, none⟩), .pointer (some ⟨gV, 0, none⟩), .pointer (some ⟨gP, 0, none⟩)]) ∧ w6.drew.cell? ⟨gP, 0, none⟩ = some (.pointer (some ⟨gm, 0, none⟩)) ∧ w6.drew.cell? ⟨gm, 2, none⟩ = some (.slice (some ⟨gk, 0, none⟩) N N) ∧ w6.drew.cell? ⟨gk, x, none⟩ = some (.int .i64 (y : Int)) ∧ ∃ k, w6.drew = w6.drewN k := ⟨eV, eP, eM, eK, 1, rfl⟩
      clear eV eP eM eK hun hU hUn hUn' hB6 hg6 bT5 M5 eT5 zT5 hb5 hk0
      (try go_wp2_with fail)
      (try gi_wp2_with fail)
      change Code.wpIn (Fence.wide.inRound l0) _ _ _ _ _ _
      refine wpIn_walk_last (by kernel_rfl) (by kernel_rfl) (by rintro ⟨_, _, h⟩; exact h) (fun _ _ => True) (fun w' => (w'.cell? ⟨gV, 0, none⟩ = some (.func (.func 44) #[] #[.pointer (some ⟨gF, 0, none⟩), .pointer (some ⟨gB, 0, none⟩), .pointer (some ⟨gT, 0, none⟩), .pointer (some ⟨gV, 0, none⟩), .pointer (some ⟨gP, 0, none⟩)]) ∧ w'.cell? ⟨gP, 0, none⟩ = some (.pointer (some ⟨gm, 0, none⟩)) ∧ w'.cell? ⟨gm, 2, none⟩ = some (.slice (some ⟨gk, 0, none⟩) N N) ∧ w'.cell? ⟨gk, x, none⟩ = some (.int .i64 (y : Int)) ∧ ∃ k, w' = w6.drewN k)) hS0 ?_
      simp only [List.length_cons, List.length_nil, Nat.reduceAdd, Nat.reduceSub, List.take_succ_cons, List.take_zero, List.drop_succ_cons, List.drop_zero]
      repeat (first | (refine settle_skip (fun _ => by rfl) ?_; (simp only [Act.put, List.setIfInBounds_toArray, List.set_cons_zero, List.set_cons_succ])) | (refine' settle_run (fun _ _ => trivial) (fun _ => by rfl) ?_ ?_; rotate_left; (focus (intro ρ w hS hF; (try dsimp only at hS); go_split_ands; go_simp; try with_reducible rfl)); (simp only [Act.put, List.setIfInBounds_toArray, List.set_cons_zero, List.set_cons_succ])))
      refine settle_nil ?_
      intro ρ w7 hS _
      obtain ⟨-, -, -, -, kd, rfl⟩ := hS
      have gC7 := gC _ (below_drewN (Below.refl _ _) kd)
      have K7 : Keeps (MtK gF gT gT) w2 (w6.drewN kd) := K6.drewN kd
      generalize w6.drewN kd = w7 at gC7 K7 ⊢
      clear M6 K6 hS0 gC
      dsimp only
      go_wp2_with fail
      refine gC7.mono ?_
      rintro e w8 ⟨rfl, M8, K8⟩
      have K28 := K7.trans K8
      have HE := Lib.hid (And.intro M8 (And.intro K28 hy))
      clear gC7 K7 K8 M8 K28 hy
      go_wp2_with fail
      (try gi_wp2_with fail)
      obtain ⟨M8, K28, hy⟩ := HE.out
      obtain ⟨hgo, -, hq⟩ := HQ.out
      rw [if_neg (by rw [hb]; exact Bool.false_ne_true), hy, Int.toNat_natCast] at hgo
      refine ⟨keepsFrom_of K28 (by omega) (by omega) (by omega), kpT_of_keeps K28 hW0W, ?_, hk.trans K28⟩
      show WdR N w1 _ gF gT (Mt.vgoW B bk f ((pre ++ [(⟨x, hxm⟩ : { x : Nat // x ∈ Bs.ls 0 xs })]).map (·.1)) (Bs.put p.1 n, p.2))
      rw [hgo]
      exact M8
    · gi_wp2_with fail
      obtain ⟨hgo, -, hq⟩ := HQ.out
      rw [if_pos hb] at hgo
      refine ⟨KeepsFrom.refl _ _, KpT.refl _ _ _ _ _, ?_, hk⟩
      show WdR N w1 _ gF gT (Mt.vgoW B bk f ((pre ++ [(⟨x, hxm⟩ : { x : Nat // x ∈ Bs.ls 0 xs })]).map (·.1)) (Bs.put p.1 n, p.2))
      rw [hgo]
      exact hM
  case done =>
    rintro D ys W' hD hys ⟨hM, hk⟩ hK
    have hgo : Mt.vgoW B bk f (ys.map (·.1)) (Bs.put p.1 n, p.2) = R := by rw [hys, HR.out]
    rw [hgo] at hM
    have k0 : Keeps (MtK gF gT gT) w W' := K0.trans hk
    have HE := Lib.hid (And.intro hM k0)
    clear hM hk hgo hys k0
    go_wp2
    obtain ⟨hM, hk⟩ := HE.out
    refine ⟨by simp, .inl ⟨_, _, rfl, run_takeDeferred hK, ?_⟩⟩
    have hg2 := grownBy_putObj' W' D (.deferred none)
    have M2 := hM.kept hg2 (fun r e => by cases e; exact ⟨by omega, _, hK, rfl⟩)
    refine ⟨.tuple #[], by simp [results, Tryd.results44, go_sem], rfl, M2, ?_⟩
    exact hk.step (Keeps.of_grown hg2) (fun i hi e => by injection e with e; have := K0.size; omega)
  case stop =>
    rintro D cc pre W' hD _ hF hK
    exact hF.elim

theorem vis_any (N : Nat) (hN : N ≤ 200) (B : List (List Nat)) (hBl : B.length = N) (hB : ∀ s ∈ B, Bs.Gs N s) (w0 w1 : World) (hT : Tab w0) (gF gB gT gV gP gm gk : Nat) (A : Option Addr) (c : Nat) (bk : List Int) (hC : WdC N w0 w1 gF gB gT gV gP gm gk A c bk) (hv : SlW w0 (.slice A N c) B) (Z : Nat → Prop) (hZ : Mt.Shut (Mt.nbW B) Z bk) (hbk : ∀ v ∈ bk, v < (N : Int)) : ∀ f, VisOK N B w1 gF gB gT gV gP bk Z f
  | 0 => fun n p w _ h _ _ => absurd h (Nat.not_lt_zero _)
  | f + 1 => vis_step N hN B hBl hB w0 w1 hT gF gB gT gV gP gm gk A c bk hC hv Z hZ hbk f (vis_any N hN B hBl hB w0 w1 hT gF gB gT gV gP gm gk A c bk hC hv Z hZ hbk f)
end Go.Proofs.YtfjmhmfkhgjnhaaDoor


namespace Go.Proofs.YtfjmhmfkhgjnhaaDoor
set_option linter.unusedVariables false
set_option linter.unusedSimpArgs false
set_option maxRecDepth 100000
open Go.RowKit Go.Shelf

namespace Mt
def ftW (B : List (List Nat)) (N i : Nat) : List Nat × List Nat := vall Bs.bit Bs.put [] (nbW B) (prW B N N).1 (prW B N N).2 N i
def wideB (B : List (List Nat)) (N : Nat) (y : Nat) : Bool := Bs.bit (ftW B N N).1 y && !Bs.bit (ftW B N N).2 y
def wideW (B : List (List Nat)) (N : Nat) : List Nat := (List.range N).filter (wideB B N)
end Mt

theorem filter_succ (p : Nat → Bool) (j : Nat) : (List.range (j + 1)).filter p = (List.range j).filter p ++ (if p j then [j] else []) := by
  rw [List.range_succ, List.filter_append]
  cases h : p j <;> simp [h]
theorem ilist_app (a b : List Nat) : ilist (a ++ b) = ilist a ++ ilist b := by simp [ilist, ints]
theorem three_allocs_wd (w : World) (c0 c1 c2 : List Value) (t0 t1 t2 : TypeId) : Blk (((w.alloc (.cells c0.toArray t0)).alloc (.cells c1.toArray t1)).alloc (.cells c2.toArray t2)) w.heap.size t0 c0 ∧ Blk (((w.alloc (.cells c0.toArray t0)).alloc (.cells c1.toArray t1)).alloc (.cells c2.toArray t2)) (w.heap.size + 1) t1 c1 ∧
    Blk (((w.alloc (.cells c0.toArray t0)).alloc (.cells c1.toArray t1)).alloc (.cells c2.toArray t2)) (w.heap.size + 1 + 1) t2 c2 ∧ (((w.alloc (.cells c0.toArray t0)).alloc (.cells c1.toArray t1)).alloc (.cells c2.toArray t2)).heap.size = w.heap.size + 1 + 1 + 1 ∧ Below w.heap.size w (((w.alloc (.cells c0.toArray t0)).alloc (.cells c1.toArray t1)).alloc (.cells c2.toArray t2)) := by
  have h0 := Blk.new w t0 c0
  have h1 := Blk.new (w.alloc (.cells c0.toArray t0)) t1 c1
  have h2 := Blk.new ((w.alloc (.cells c0.toArray t0)).alloc (.cells c1.toArray t1)) t2 c2
  simp only [World.size_alloc] at h1 h2
  exact ⟨(h0.alloc _).alloc _, h1.alloc _, h2, by simp, below_alloc (below_alloc (below_alloc (Below.refl _ _) _) _) _⟩

set_option maxRecDepth 100000 in
set_option maxHeartbeats 8000000 in
theorem wide_yes (N : Nat) (B : List (List Nat)) (w : World) (A : Option Addr) (l c : Nat) (hN : N ≤ 200) (hBl : B.length = N) (hB : ∀ s ∈ B, Bs.Gs N s) (hT : Tab w)
    (hbeh : ∀ w', Below w.heap.size w w' → Calls Tryd.prog 35 #[.agg #[.int .i64 (N : Int), .slice A l c]] w' fun e w'' => ∃ v, e = .returned (.tuple #[v, .int .i64 0]) ∧ SlW w'' v B ∧ Below w'.heap.size w' w'') :
    Calls Tryd.prog 20 #[.agg #[.int .i64 (N : Int), .slice A l c]] w fun e w' => ∃ u, e = .returned (.tuple #[u, .int .i64 0]) ∧ w'.ownsRow w.heap.size 3 1 u (Mt.wideW B N).length (ilist (Mt.wideW B N)) ∧ Below w.heap.size w w' := by
  have x0 := Blk.new w 24 [.int .i64 (N : Int), .slice A l c]
  have hb0 : Below w.heap.size w (w.alloc (.cells #[.int .i64 (N : Int), .slice A l c] 24)) := below_alloc (Below.refl _ _) _
  obtain ⟨q, hq⟩ : ∃ q, q = w.heap.size := ⟨_, rfl⟩
  have hlA := Below.size hb0
  go_enter Tryd.func20, Tryd.ntmps20
  go_upto_region 1 with (fail)
  generalize (w.alloc (.cells #[.int .i64 (N : Int), .slice A l c] 24)) = W0 at x0 hb0 hlA ⊢
  rw [← hq] at x0 ⊢
  have HQ := Lib.hid hq
  clear hq
  have d0 : W0.cell? ⟨q, 0, none⟩ = some (.int .i64 (N : Int)) := (x0.cell 0).trans rfl
  have d1 : W0.cell? ⟨q, 1, none⟩ = some (.slice A l c) := (x0.cell 1).trans rfl
  go_wp2_with fail
  refine (hbeh W0 hb0).mono ?_
  rintro e w1 ⟨v, rfl, hv, hb1⟩
  have x1 := x0.below hb1
  have hb01 := below_next hb1 hb0
  obtain ⟨A', c', rfl⟩ : ∃ A' c', v = .slice A' N c' := by
    obtain ⟨os, ⟨A', c', e, -⟩, -⟩ := hv
    rw [hBl] at e
    exact ⟨_, _, e⟩
  have d2 := Blk.new w1 61 [.slice none 0 0]
  obtain ⟨gB, hgB⟩ : ∃ g, g = w1.heap.size := ⟨_, rfl⟩
  have HG := Lib.hid hgB
  clear d0 d1 x0 hbeh hb1 hb0 hlA
  go_upto_region 4 with (first | (refine wpl_set_blk d2 0 (.slice A' N c') (by kernel_rfl) (by simp) rfl rfl rfl rfl rfl rfl ?_; intro w2 hB2 hg2) | fail)
  have hb12 : Below w1.heap.size w1 w2 := (below_alloc (Below.refl _ _) _).trans (below_of_grown hg2 (by simp) (Nat.le_refl _))
  rw [← hgB] at hB2 ⊢
  clear hgB d2 hg2
  have hv2 := hv.below hb12
  have hb02 := below_next hb12 hb01
  have x2 := x1.below hb12
  have hT2 := hT.later hT.lt hb02
  have c4 : w2.cell? ⟨gB, 0, none⟩ = some (.slice A' N c') := (hB2.cell 0).trans rfl
  clear hb01 hb12 hv x1
  go_wp2_with fail
  refine (match_any N hN B hBl hB w2 hT2 A' c' hv2).mono ?_
  rintro e w3 ⟨gm, ga, gk, rfl, M3, hlo3, hb3⟩
  have d3 := Blk.new w3 76 [.pointer none]
  have HP := Lib.hid (And.intro hb02 (And.intro x2 (And.intro hB2 (And.intro M3 (And.intro hlo3 hb3)))))
  obtain ⟨gP, hgP⟩ : ∃ g, g = w3.heap.size := ⟨_, rfl⟩
  clear hb02 x2 hB2 M3 hlo3 hb3 c4
  go_upto_region 5 with (first | (refine wpl_set_blk d3 0 (.pointer (some ⟨gm, 0, none⟩)) (by kernel_rfl) (by simp) rfl rfl rfl rfl rfl rfl ?_; intro w4 hB4 hg4) | fail)
  rw [← hgP] at hB4 ⊢
  have hb34 : Below w3.heap.size w3 w4 := (below_alloc (Below.refl _ _) _).trans (below_of_grown hg4 (by simp) (Nat.le_refl _))
  have hgP' := hB4.lt
  have HP4 := Lib.hid (And.intro hB4 (And.intro hb34 hgP))
  clear hB4 hg4 hb34 hgP d3
  obtain ⟨f1, f2, f3, hz4, hb4⟩ := three_allocs_wd w4 [.slice none 0 0] [.slice none 0 0] [.nilFunc] 78 78 79
  obtain ⟨gF, hgF⟩ : ∃ g, g = w4.heap.size := ⟨_, rfl⟩
  have HF := Lib.hid hgF
  go_upto_region 7 with (fail)
  rw [← hgF] at f1 f2 f3 hz4 hb4 ⊢
  clear hgF
  generalize (((w4.alloc (.cells #[.slice none 0 0] 78)).alloc (.cells #[.slice none 0 0] 78)).alloc (.cells #[.nilFunc] 79)) = w4' at f1 f2 f3 hz4 hb4 ⊢
  go_upto_region 8 with (first | (refine wpl_set_blk f3 0 (visv gF gB (gF + 1) (gF + 1 + 1) gP) (by kernel_rfl) (by simp) (by rfl) (by rfl) (by rfl) (by rfl) (by rfl) (by rfl) ?_; intro w5 hB5 hg5) | fail)
  obtain ⟨hb02, x2, hB2, M3, hlo3, hb3⟩ := HP.out
  obtain ⟨hB4, hb34, hgP⟩ := HP4.out
  have hgF := HF.out
  have hb45 : Below w4.heap.size w4 w5 := by
    rw [← hgF]
    exact hb4.trans (below_of_grown hg5 (by omega) (by omega))
  have hb35 := below_self hb34 hb45
  have hb25 := below_self hb3 hb35
  have s2 := hb02.size
  have s3 := hb3.size
  have s4 := hb34.size
  have s5 := hg5.size
  have lB := hB2.lt
  have lP := hB4.lt
  have lm := M3.m.lt
  have lk := M3.bk.lt
  have hbest := Mt.prW_best hB (Nat.le_refl N)
  have hC : WdC N w2 w5 gF gB (gF + 1) (gF + 1 + 1) gP gm gk A' c' (Mt.prW B N N).2 :=
    ⟨hb25, ⟨by omega, by omega⟩, ⟨by omega, by omega⟩, ⟨by omega, by omega, by omega, by omega, by omega, by omega, by omega, by omega, by omega, by omega, by omega⟩,
      (hb25.cell (p := ⟨gB, 0, none⟩) lB).trans ((hB2.cell 0).trans rfl), (hB5.cell 0).trans rfl, (hb45.cell (p := ⟨gP, 0, none⟩) lP).trans ((hB4.cell 0).trans rfl), (hb35.cell (p := ⟨gm, 2, none⟩) lm).trans ((M3.m.cell 2).trans rfl), M3.bk.below hb35, hbest.val.lenB⟩
  have hA5 : Blk w5 ga 3 (ints .i64 (Mt.prW B N N).1) := M3.ah.below hb35
  have cM1 : w5.cell? ⟨gm, 1, none⟩ = some (.slice (some ⟨ga, 0, none⟩) N N) := (hb35.cell (p := ⟨gm, 1, none⟩) lm).trans ((M3.m.cell 1).trans rfl)
  have nga : ga ≠ gF ∧ ga ≠ gF + 1 := ⟨by have := M3.ah.lt; omega, by have := M3.ah.lt; omega⟩
  have hR5 : WdR N w5 w5 gF (gF + 1) (Mt.ftW B N 0) :=
    ⟨Keeps.refl _ _, ⟨_, f1.grown hg5 (fun e => by injection e; omega), SlU.nil _, New.nil _ _ _⟩, ⟨_, f2.grown hg5 (fun e => by injection e; omega), SlU.nil _, New.nil _ _ _⟩, Bs.Gs.nil N, Bs.Gs.nil N⟩
  have hbw5 := below_self hb02 hb25
  have x5 := x2.below hb25
  have hqlt : q ≠ gF ∧ q ≠ gF + 1 := ⟨by have := x2.lt; omega, by have := x2.lt; omega⟩
  have hvis := fun (Z : Nat → Prop) (hZ : Mt.Shut (Mt.nbW B) Z (Mt.prW B N N).2) => vis_any N hN B hBl hB w2 w5 hT2 gF gB (gF + 1) (gF + 1 + 1) gP gm gk A' c' (Mt.prW B N N).2 hC hv2 Z hZ (fun v hv => ((Mt.val_up hbest.val).2 v hv).2) (N + 1)
  have c0 : w5.cell? ⟨q, 0, none⟩ = some (.int .i64 (N : Int)) := (x5.cell 0).trans rfl
  have hgFw : w.heap.size ≤ gF := by omega
  have HV := Lib.hid (And.intro hvis (And.intro hbest (And.intro hbw5 hgFw)))
  clear hb02 x2 hB2 M3 hlo3 hb3 hB4 hb34 hgP hgF hb45 hb35 hb25 s2 s3 s4 lB lP lm lk f1 f2 f3 hz4 hb4 hB5 hg5 HP HP4 HF hvis hbest hbw5 hv2 hT2 hgP'
  go_wp2_with fail
  go_loopw [26] (fun i wr => ∃ k : Nat, k ≤ N ∧ i = .int .i64 (k : Int) ∧ WdR N w5 wr gF (gF + 1) (Mt.ftW B N k)) (fun i _ => N - (intOf i).toNat)
  case atStart => exact ⟨0, Nat.zero_le _, rfl, hR5⟩
  case round =>
    clear hR5 c0
    obtain ⟨k, hk, rfl, hR⟩ := hrel
    have nW : ∀ i, i ≠ gF → i ≠ gF + 1 → ¬ MtK gF (gF + 1) (gF + 1) i := fun i h1 h2 h3 => by unfold MtK at h3; omega
    obtain ⟨-, nB1, nB2, nV1, nV2, nP1, nP2, nm1, nm2, nk1, nk2⟩ := hC.ne
    by_cases hlt : k < N
    · obtain ⟨hvis, hbest, hbw5, hgFw⟩ := HV.out
      have eP := hR.kp.cell hC.cP (nW _ nP1 nP2)
      have eM := hR.kp.cell cM1 (nW _ nm1 nm2)
      have eV := hR.kp.cell hC.cV (nW _ nV1 nV2)
      unfold visv at eV
      have eA : wr.cell? ⟨ga, k, none⟩ = some (.int .i64 ((Mt.prW B N N).1.getD k (-1))) := ((hA5.keeps hR.kp (nW _ nga.1 nga.2)).cell k).trans (ints_at (by have := hbest.val.lenA; omega))
      have hstep : Mt.ftW B N (k + 1) = if (Mt.prW B N N).1.getD k (-1) < 0 ∧ Bs.bit (Mt.ftW B N k).1 k = false then Mt.visW B (Mt.prW B N N).2 (N + 1) k (Mt.ftW B N k) else Mt.ftW B N k := rfl
      obtain ⟨k0, hk0⟩ : ∃ k0, k0 = (Mt.prW B N N).1.getD k (-1) := ⟨_, rfl⟩
      have hlow := Mt.neg_of hbest.val.lowA k
      have hsh := hbest.shut k hlt
      rw [← hk0] at eA hstep hlow hsh
      obtain ⟨p, hp⟩ : ∃ p, p = Mt.ftW B N k := ⟨_, rfl⟩
      rw [← hp] at hstep hR
      have f1 : decide ((0 : Int) ≤ (k : Int)) = true := by simp
      have f2 : decide ((k : Int) < (N : Int)) = true := by simp; omega
      have f3 : (k : Int) < (N : Int) := by omega
      have HK := Lib.hid (And.intro hvis (And.intro hbest (And.intro hstep (And.intro hlow hsh))))
      clear hvis hbest hbw5 hgFw hstep hlow hsh hk0 hp
      rcases hneg : decide (k0 < 0) with _ | _
      · go_wp2_with fail
        go_roundw
        case rel =>
          refine ⟨k + 1, by omega, by go_num, ?_⟩
          rw [HK.out.2.2.1, if_neg (fun h => by have := of_decide_eq_false hneg; exact this h.1)]
          exact hR
        case measure => simp [intOf]; omega
      · obtain ⟨vF, hvF, sF, nF⟩ := id hR.fr
        obtain ⟨AF, cF, rfl⟩ := slU_form sF
        have eF : wr.cell? ⟨gF, 0, none⟩ = some (.slice AF p.1.length cF) := (hvF.cell 0).trans rfl
        have gH := set_has wr _ p.1 k sF (by omega)
        clear hvF sF nF
        go_wp2_with fail
        refine gH.mono ?_
        rintro e w6 ⟨rfl, rfl⟩
        rcases hbit : Bs.bit p.1 k with _ | _
        · have hk1 := HK.out.2.2.2.1.resolve_right (fun ⟨m, hm⟩ => by have := of_decide_eq_true hneg; omega)
          obtain ⟨Z, hZ, hkZ⟩ := HK.out.2.2.2.2 hk1
          have gC := HK.out.1 Z hZ k p w6 hlt (Nat.lt_succ_of_le (Mt.unseen_le _)) hkZ hR
          clear gH eP eM eA eF
          go_wp2_with fail
          refine gC.mono ?_
          rintro e w7 ⟨rfl, hR7, -⟩
          clear gC eV
          go_wp2_with fail
          go_roundw
          case rel =>
            refine ⟨k + 1, by omega, by go_num, ?_⟩
            rw [HK.out.2.2.1, if_pos ⟨of_decide_eq_true hneg, hbit⟩]
            exact hR7
          case measure => simp [intOf]; omega
        · clear gH eP eM eA eF eV
          go_wp2_with fail
          go_roundw
          case rel =>
            refine ⟨k + 1, by omega, by go_num, ?_⟩
            rw [HK.out.2.2.1, if_neg (fun h => by rw [hbit] at h; cases h.2)]
            exact hR
          case measure => simp [intOf]; omega
    · obtain rfl : k = N := by omega
      obtain ⟨W6, rfl⟩ : ∃ W6, W6 = wr := ⟨_, rfl⟩
      have cq : W6.cell? ⟨q, 0, none⟩ = some (.int .i64 (k : Int)) := ((x5.keeps hR.kp (nW _ hqlt.1 hqlt.2)).cell 0).trans rfl
      have hbW6 : Below w.heap.size w W6 := HV.out.2.2.1.trans (hR.kp.below HV.out.2.2.1.size (fun i hi => by unfold MtK at hi; have := HV.out.2.2.2; omega))
      clear HV
      go_wp2_with fail
      go_loopw [11, 49] (fun out i wr => ∃ j : Nat, j ≤ k ∧ i = .int .i64 (j : Int) ∧ Below W6.heap.size W6 wr ∧ wr.ownsRow W6.heap.size 3 1 out ((List.range j).filter (Mt.wideB B k)).length (ilist ((List.range j).filter (Mt.wideB B k)))) (fun _ i _ => k - (intOf i).toNat)
      case atStart => exact ⟨0, Nat.zero_le _, rfl, Below.refl _ _, World.ownsRow_nil _ _ _ _⟩
      case round =>
        clear cq
        obtain ⟨j, hj, rfl, hb, hown⟩ := hrel
        by_cases hltj : j < k
        · have hRj := hR.below hb
          obtain ⟨vF, hvF, sF, nF⟩ := id hRj.fr
          obtain ⟨AF, cF, rfl⟩ := slU_form sF
          obtain ⟨vT, hvT, sT, nT⟩ := id hRj.tw
          obtain ⟨AT, cT, rfl⟩ := slU_form sT
          have eF : wr.cell? ⟨gF, 0, none⟩ = some (.slice AF (Mt.ftW B k k).1.length cF) := (hvF.cell 0).trans rfl
          have eT : wr.cell? ⟨gF + 1, 0, none⟩ = some (.slice AT (Mt.ftW B k k).2.length cT) := (hvT.cell 0).trans rfl
          have gH := set_has wr _ (Mt.ftW B k k).1 j sF (by omega)
          have gI := set_has wr _ (Mt.ftW B k k).2 j sT (by omega)
          have hwb : Mt.wideB B k j = (Bs.bit (Mt.ftW B k k).1 j && !Bs.bit (Mt.ftW B k k).2 j) := rfl
          have hrs : (List.range (j + 1)).filter (Mt.wideB B k) = (List.range j).filter (Mt.wideB B k) ++ (if Mt.wideB B k j then [j] else []) := filter_succ _ j
          have hfl : ((List.range j).filter (Mt.wideB B k)).length ≤ j := Nat.le_trans (List.length_filter_le _ _) (by simp)
          obtain ⟨ft, hft⟩ : ∃ ft, ft = Mt.ftW B k k := ⟨_, rfl⟩
          rw [← hft] at eF eT gH gI hwb
          have HJ := Lib.hid (And.intro hwb (And.intro hrs hfl))
          clear hvF sF nF hvT sT nT hRj hwb hrs hfl hft
          go_wp2_with fail
          refine gH.mono ?_
          rintro e w7 ⟨rfl, rfl⟩
          rcases hbF : Bs.bit ft.1 j with _ | _
          · clear gH gI eF eT
            go_wp2_with fail
            go_roundw
            case rel =>
              refine ⟨j + 1, by omega, by go_num, hb, ?_⟩
              rw [HJ.out.2.1, HJ.out.1, hbF]
              simpa using hown
            case measure => simp [intOf]; omega
          · clear gH eF
            go_wp2_with fail
            refine gI.mono ?_
            rintro e w8 ⟨rfl, rfl⟩
            rcases hbT : Bs.bit ft.2 j with _ | _
            · obtain ⟨M, hM⟩ : ∃ M, M = ((List.range j).filter (Mt.wideB B k)).length := ⟨_, rfl⟩
              have hfl := HJ.out.2.2
              rw [← hM] at hown hfl
              have hHM := Lib.hid (show M + 1 ≤ maxLen ∧ (M + 1) * 8 ≤ 140737488355328 by unfold maxLen; omega)
              have hsz := hb.size
              have HM := Lib.hid hM
              clear hM hfl gI eT
              go_wp2_with (first
                | (at_builtin; refine wp_push_at _ _ _ _ (by first | rfl | simp) _ _ _ _ _ _ Tryd.underlying26 info_int rfl (by decide) hown [.int .i64 (j : Int)] rfl (by simp [Value.oneCell']) hHM.out.1 hHM.out.2 hsz rfl rfl rfl rfl ?_; intro v7 w7 hr7 hg7 hv7 hb7)
                | fail)
              have hb7' := hb.trans hb7
              clear hown hg7 hv7 hb7
              go_roundw
              case rel =>
                refine ⟨j + 1, by omega, by go_num, hb7', ?_⟩
                rw [HJ.out.2.1, HJ.out.1, hbF, hbT]
                simp only [Bool.not_false, Bool.and_self, if_true]
                rw [List.length_append, ← HM.out, ilist_app]
                exact hr7
              case measure => simp [intOf]; omega
            · clear gI eT
              go_wp2_with fail
              go_roundw
              case rel =>
                refine ⟨j + 1, by omega, by go_num, hb, ?_⟩
                rw [HJ.out.2.1, HJ.out.1, hbF, hbT]
                simpa using hown
              case measure => simp [intOf]; omega
        · obtain rfl : j = k := by omega
          have hfin : wr.ownsRow w.heap.size 3 1 u11 (Mt.wideW B j).length (ilist (Mt.wideW B j)) := own_base hown hbW6.size
          have hbf := hbW6.trans (hb.mono hbW6.size)
          have HE := Lib.hid (And.intro hfin hbf)
          clear hfin hbf hown hb
          go_wp2_with fail
          go_ret2
          exact ⟨_, rfl, HE.out⟩
end Go.Proofs.YtfjmhmfkhgjnhaaDoor


namespace Go.Proofs.YtfjmhmfkhgjnhaaDoor
set_option linter.unusedVariables false
set_option linter.unusedSimpArgs false
set_option maxRecDepth 100000
open Go.RowKit Go.Shelf

namespace Mt
/-- as many as may be, none of which is behind another one; of a graph that is not right: none -/
def wideG (n : Int) (es : List Gr.Er) : List Nat := if Gr.wrong n es = 0 then wideW (Gr.behW n.toNat (Gr.nat es)) n.toNat else []
end Mt

set_option maxHeartbeats 4000000 in
theorem wide_no (R : Int) (hR : R ≠ 0) (w : World) (A : Option Addr) (l c : Nat) (n : Int)
    (hs : ∀ w', Below w.heap.size w w' → Calls Tryd.prog 35 #[.agg #[.int .i64 n, .slice A l c]] w' fun e w'' => ∃ v, e = .returned (.tuple #[v, .int .i64 R]) ∧ v = .slice none 0 0 ∧ Below w'.heap.size w' w'') :
    Calls Tryd.prog 20 #[.agg #[.int .i64 n, .slice A l c]] w fun e w' => e = .returned (.tuple #[.slice none 0 0, .int .i64 R]) ∧ Below w.heap.size w w' := by
  have x0 := Blk.new w 24 [.int .i64 n, .slice A l c]
  have hb0 : Below w.heap.size w (w.alloc (.cells #[.int .i64 n, .slice A l c] 24)) := below_alloc (Below.refl _ _) _
  go_enter Tryd.func20, Tryd.ntmps20
  go_upto_region 1 with (fail)
  generalize (w.alloc (.cells #[.int .i64 n, .slice A l c] 24)) = W0 at x0 hb0 ⊢
  have d0 : W0.cell? ⟨w.heap.size, 0, none⟩ = some (.int .i64 n) := (x0.cell 0).trans rfl
  have d1 : W0.cell? ⟨w.heap.size, 1, none⟩ = some (.slice A l c) := (x0.cell 1).trans rfl
  have g0 : (R != 0) = true := by simpa using hR
  have HR := Lib.hid hR
  clear hR
  go_wp2_with fail
  refine (hs W0 hb0).mono ?_
  rintro e w1 ⟨v, rfl, rfl, hb1⟩
  have hb01 := below_next hb1 hb0
  have d2 := Blk.new w1 61 [.slice none 0 0]
  have HB := Lib.hid hb01
  clear d0 d1 x0 hs hb1 hb0 hb01
  go_wp2_with (first | (refine wpl_set_blk d2 0 (.slice none 0 0) (by kernel_rfl) (by simp) rfl rfl rfl rfl rfl rfl ?_; intro w2 hB2 hg2) | fail)
  have hb2 : Below w.heap.size w w2 := below_next ((below_alloc (Below.refl _ _) _).trans (below_of_grown hg2 (by simp) (Nat.le_refl _))) HB.out
  go_ret2
  exact ⟨rfl, hb2⟩

theorem wide_any (n : Int) (es : List Gr.Er) (w : World) (A : Option Addr) (c : Nat) (hA : SlV w 2 (.slice A es.length c) es.length (ercs es)) (hle : es.length ≤ 1099511627776) (hT : Tab w) :
    Calls Tryd.prog 20 #[.agg #[.int .i64 n, .slice A es.length c]] w fun e w' => ∃ u, e = .returned (.tuple #[u, .int .i64 (Gr.wrong n es)]) ∧ w'.ownsRow w.heap.size 3 1 u (Mt.wideG n es).length (ilist (Mt.wideG n es)) ∧ Below w.heap.size w w' := by
  have hbh := fun w' (hb : Below w.heap.size w w') => behind_any n es w' A c (hA.below hb) hle (hT.later hT.lt hb)
  by_cases h0 : Gr.wrong n es = 0
  · obtain ⟨hok, N, rfl, hN, hes, hln, hl⟩ := Gr.wrong_zero h0
    have := wide_yes N (Gr.behW N (Gr.nat es)) w A es.length c hN (Gr.behW_length N (Gr.nat es)) (Gr.behW_gs (fun e he => (hes e he).2)) hT (fun w' hb => by
      refine (hbh w' hb).mono ?_
      rintro e w'' ⟨v, rfl, -, h2, h3⟩
      have h2 := h2 h0
      rw [Int.toNat_natCast] at h2
      exact ⟨v, by rw [h0], h2, h3⟩)
    refine this.mono ?_
    rintro e w' ⟨u, rfl, h1, h2⟩
    unfold Mt.wideG
    rw [if_pos h0, Int.toNat_natCast]
    exact ⟨u, by rw [h0], h1, h2⟩
  · refine (wide_no (Gr.wrong n es) h0 w A es.length c n fun w' hb => ?_).mono ?_
    · refine (hbh w' hb).mono ?_
      rintro e w'' ⟨v, rfl, h1, -, h3⟩
      exact ⟨v, rfl, h1 h0, h3⟩
    · rintro e w' ⟨rfl, h2⟩
      unfold Mt.wideG
      rw [if_neg h0]
      exact ⟨_, rfl, World.ownsRow_nil _ _ _ _, h2⟩
end Go.Proofs.YtfjmhmfkhgjnhaaDoor


namespace Go.Proofs.YtfjmhmfkhgjnhaaDoor
set_option linter.unusedVariables false
set_option linter.unusedSimpArgs false
set_option maxRecDepth 100000

namespace Gr
theorem Way.tail {es : List Ed} {a c : Nat} (h : Way es a c) : ∃ b, (b, c) ∈ es ∧ (b = a ∨ Way es a b) := by
  induction h with
  | one h => exact ⟨_, h, .inl rfl⟩
  | on h k ih =>
    obtain ⟨b, h1, h2⟩ := ih
    rcases h2 with rfl | h2
    · exact ⟨_, h1, .inr (.one h)⟩
    · exact ⟨_, h1, .inr (.on h h2)⟩
/-- none is behind another one -/
structure Anti (N : Nat) (es : List Ed) (A : List Nat) : Prop where
  nd : A.Nodup
  lt : ∀ a ∈ A, a < N
  ap : ∀ a ∈ A, ∀ b ∈ A, ¬ Way es a b
theorem Good.down {N : Nat} {es : List Ed} {D : List Nat} (h : Good N es D) {a b : Nat} (hw : Way es a b) (hb : b ∈ D) : a ∈ D := by
  obtain ⟨j, hj⟩ := List.getElem?_of_mem hb
  obtain ⟨i, -, hi⟩ := h.up hw j hj
  exact List.mem_of_getElem? hi
theorem anti_rdy {N : Nat} {es : List Ed} {D : List Nat} (h : Good N es D) : Anti N es ((List.range N).filter (rdy es D)) := by
  refine ⟨List.nodup_range.filter _, fun a ha => List.mem_range.1 (List.mem_filter.1 ha).1, fun a ha b hb hw => ?_⟩
  obtain ⟨ha1, -⟩ := rdy_iff.1 (List.mem_filter.1 ha).2
  obtain ⟨hb1, hb2⟩ := rdy_iff.1 (List.mem_filter.1 hb).2
  obtain ⟨c, hc, hac⟩ := hw.tail
  have hcD : c ∈ D := hb2 (c, b) hc rfl
  rcases hac with rfl | hac
  · exact ha1 hcD
  · exact ha1 (h.down hac hcD)
theorem now_all {N w : Nat} {es : List Ed} {D : List Nat} (h : Good N es D) (hw : ∀ A, Anti N es A → A.length ≤ w) : now N es w D = (List.range N).filter (rdy es D) := by
  unfold now
  exact List.take_of_length_le (hw _ (anti_rdy h))
theorem round_low {N w : Nat} {es : List Ed} {lv : Nat → Nat} (up : ∀ e ∈ es, lv e.1 < lv e.2) (hw : ∀ A, Anti N es A → A.length ≤ w) : ∀ (k : Nat) (a : List Nat) (m : Nat), (all N es w)[k]? = some a → m ∈ a → k ≤ lv m := by
  intro k
  induction k with
  | zero => intro a m _ _; exact Nat.zero_le _
  | succ k ih =>
    intro a m ha hm
    obtain ⟨b, hb⟩ : ∃ b, (all N es w)[k]? = some b := ⟨_, List.getElem?_eq_getElem (by have := (List.getElem?_eq_some_iff.1 ha).1; omega)⟩
    have ea := (rounds_at N [] (k + 1) a ha).1
    have eb := (rounds_at N [] k b hb).1
    rw [List.nil_append] at ea eb
    have gD : Good N es ((all N es w).take k).flatten := by
      have := good_rounds (w := w) N [] (Good.nil N es) k
      rwa [List.nil_append] at this
    have hD : ((all N es w).take (k + 1)).flatten = ((all N es w).take k).flatten ++ b := by
      obtain ⟨h', rfl⟩ := List.getElem?_eq_some_iff.1 hb
      rw [List.take_succ_eq_append_getElem h', List.flatten_append]
      simp
    have ea : a = now N es w ((all N es w).take (k + 1)).flatten := ea
    have eb : b = now N es w ((all N es w).take k).flatten := eb
    rw [ea] at hm
    obtain ⟨hmN, hmr⟩ := now_mem hm
    rw [hD] at hmr
    obtain ⟨h1, h2⟩ := rdy_iff.1 hmr
    have hmb : m ∉ b := fun h => h1 (List.mem_append_right _ h)
    have hnr : ¬ rdy es ((all N es w).take k).flatten m = true := fun hr => by
      refine hmb ?_
      rw [eb, now_all gD hw]
      exact List.mem_filter.2 ⟨List.mem_range.2 hmN, hr⟩
    have hex : ∃ e ∈ es, e.2 = m ∧ e.1 ∉ ((all N es w).take k).flatten := by
      refine Decidable.byContradiction fun hno => hnr (rdy_iff.2 ⟨fun h => h1 (List.mem_append_left _ h), fun e he hem => ?_⟩)
      exact Decidable.byContradiction fun hn => hno ⟨e, he, hem, hn⟩
    obtain ⟨e, he, rfl, hen⟩ := hex
    have heb : e.1 ∈ b := (List.mem_append.1 (h2 e he rfl)).resolve_left hen
    have := ih b e.1 hb heb
    have := up e he
    omega
/-- as many rounds as the longest chain has -/
theorem rounds_wide {N w h : Nat} {es : List Ed} {lv : Nat → Nat} (hL : Lv N es lv h) (hT : (take N es).length = N) (hw0 : 0 < w) (hes : ∀ e ∈ es, e.1 < N) (hN : 0 < N) (hh : ∃ m, m < N ∧ lv m + 1 = h) (hw : ∀ A, Anti N es A → A.length ≤ w) : (all N es w).length = h := by
  refine Nat.le_antisymm ?_ (rounds_high hw0 hT hL.down hes hh)
  rcases Nat.eq_zero_or_pos (all N es w).length with h0 | h0
  · omega
  · obtain ⟨a, ha⟩ : ∃ a, (all N es w)[(all N es w).length - 1]? = some a := ⟨_, List.getElem?_eq_getElem (by omega)⟩
    have hne := (rounds_at N [] _ a ha).2
    obtain ⟨m, hm⟩ := List.exists_mem_of_ne_nil a hne
    have h1 := round_low hL.up hw _ a m ha hm
    have h2 : m < N := by
      have ea := (rounds_at N [] _ a ha).1
      rw [ea] at hm
      exact (now_mem hm).1
    have := hL.top m h2
    omega
end Gr

namespace Mt
/-- where a node comes when they are sorted -/
theorem rank {N : Nat} {es : List Gr.Ed} (hl : (Gr.take N es).length = N) : ∃ r : Nat → Nat, (∀ a b, b < N → Gr.Way es a b → r a < r b) ∧ ∀ x, x < N → r x < N := by
  have hg := Gr.good_take N es
  have hm : ∀ x, x < N → ∃ i, (Gr.take N es)[i]? = some x := fun x hx => List.getElem?_of_mem (hg.full hl x hx)
  refine ⟨fun x => (Gr.take N es).idxOf x, fun a b hb hw => ?_, fun x hx => ?_⟩
  · have hbm := hg.full hl b hb
    have hbi : (Gr.take N es)[(Gr.take N es).idxOf b]? = some b := by
      rw [List.getElem?_eq_getElem (List.idxOf_lt_length_of_mem hbm)]
      simp
    obtain ⟨i, hi, ha⟩ := hg.up hw _ hbi
    have ham : a ∈ Gr.take N es := List.mem_of_getElem? ha
    have hai : (Gr.take N es)[(Gr.take N es).idxOf a]? = some a := by
      rw [List.getElem?_eq_getElem (List.idxOf_lt_length_of_mem ham)]
      simp
    have := hg.inj hai ha
    show (Gr.take N es).idxOf a < (Gr.take N es).idxOf b
    omega
  · have := List.idxOf_lt_length_of_mem (hg.full hl x hx)
    show (Gr.take N es).idxOf x < N
    omega
section
variable {N : Nat} {es : List Gr.Ed}
theorem nbW_way (hl : (Gr.take N es).length = N) (hes : ∀ e ∈ es, e.1 < N ∧ e.2 < N) (a b : Nat) : b ∈ nbW (Gr.behW N es) a ↔ a < N ∧ Gr.Way es a b := by
  have hes' : ∀ e ∈ es, e.2 < N := fun e he => (hes e he).2
  by_cases ha : a < N
  · have hs : ∃ s, (Gr.behW N es)[a]? = some s := ⟨_, List.getElem?_eq_getElem (by rw [Gr.behW_length]; exact ha)⟩
    obtain ⟨s, hs⟩ := hs
    have hg := Gr.behW_gs hes' s (List.mem_of_getElem? hs)
    have := Gr.behW_is hl hes' a ha b
    unfold nbW
    rw [List.getD_eq_getElem?_getD, hs, Option.getD_some] at this ⊢
    rw [Bs.mem_list hg.ws, this]
    exact ⟨fun h => ⟨ha, h⟩, fun h => h.2⟩
  · constructor
    · intro h
      unfold nbW at h
      rw [List.getD_eq_getElem?_getD, List.getElem?_eq_none (by rw [Gr.behW_length]; omega)] at h
      simp [Bs.ls] at h
    · exact fun h => absurd h.1 ha
/-- none of Wide's is behind another one; and none apart are more -/
theorem wide_is (hl : (Gr.take N es).length = N) (hes : ∀ e ∈ es, e.1 < N ∧ e.2 < N) : Gr.Anti N es (wideW (Gr.behW N es) N) ∧ ∀ A, Gr.Anti N es A → A.length ≤ (wideW (Gr.behW N es) N).length := by
  have hes' : ∀ e ∈ es, e.2 < N := fun e he => (hes e he).2
  have hB := Gr.behW_gs (N := N) hes'
  have hbest := prW_best hB (Nat.le_refl N)
  have hR : Rch Bs.bit (nbW (Gr.behW N es)) N (prW (Gr.behW N es) N N).1 (prW (Gr.behW N es) N N).2 N (ftW (Gr.behW N es) N N) := vall_is Bs.bit_put Bs.bit_nil (nbW_lt hB) hbest N (Nat.le_refl N)
  obtain ⟨r, hr, hrN⟩ := rank hl
  refine ⟨⟨List.nodup_range.filter _, fun a ha => List.mem_range.1 (List.mem_filter.1 ha).1, fun a ha b hb hw => ?_⟩, fun A hA => ?_⟩
  · obtain ⟨ha1, ha2⟩ := List.mem_filter.1 ha
    obtain ⟨hb1, hb2⟩ := List.mem_filter.1 hb
    unfold wideB at ha2 hb2
    rw [Bool.and_eq_true] at ha2 hb2
    exact hR.apart ha2.1 (by simpa using hb2.2) ((nbW_way hl hes a b).2 ⟨List.mem_range.1 ha1, hw⟩)
  · have h1 := apart_le hbest.val r (fun x k hk => by obtain ⟨h1, h2⟩ := (nbW_way hl hes x k).1 hk; exact hr x k (nbW_lt hB x k hk) h2) hrN
      (fun x y z hy hz => by
        obtain ⟨h1, h2⟩ := (nbW_way hl hes x y).1 hy
        obtain ⟨h3, h4⟩ := (nbW_way hl hes y z).1 hz
        exact (nbW_way hl hes x z).2 ⟨h1, h2.trans h4⟩) hA.nd hA.lt (fun a ha b hb hm => hA.ap a ha b hb ((nbW_way hl hes a b).1 hm).2)
    have h2 := ends_le hbest.val (hR.reach hbest.val)
    refine Nat.le_trans h1 (Nat.le_trans h2 (Nat.le_of_eq ?_))
    unfold wideW
    congr 1
    refine List.filter_congr fun y _ => ?_
    unfold wideB
    cases Bs.bit (ftW (Gr.behW N es) N N).1 y <;> cases Bs.bit (ftW (Gr.behW N es) N N).2 y <;> rfl
end
end Mt
end Go.Proofs.YtfjmhmfkhgjnhaaDoor


namespace Go.Proofs.YtfjmhmfkhgjnhaaDoor.Gr
set_option linter.unusedVariables false
set_option linter.unusedSimpArgs false
set_option maxRecDepth 100000

theorem now_one (N : Nat) (es : List Ed) (D : List Nat) : now N es 1 D = (nxt N es D).toList := by
  unfold now nxt
  rw [List.take_one, List.head?_filter]
theorem rounds_one {N : Nat} {es : List Ed} : ∀ (f : Nat) (D : List Nat), D ++ (rounds N es 1 f D).flatten = run N es f D
  | 0, D => by simp [rounds, run]
  | f + 1, D => by
    have e1 : rounds N es 1 (f + 1) D = if now N es 1 D = [] then [] else now N es 1 D :: rounds N es 1 f (D ++ now N es 1 D) := by rw [rounds]
    have e3 := now_one N es D
    rw [e1]
    cases hn : nxt N es D with
    | none =>
      rw [hn] at e3
      rw [if_pos (by rw [e3]; rfl), run_end hn]
      simp
    | some n =>
      rw [hn] at e3
      rw [run_more hn, e3]
      rw [if_neg (by simp), List.flatten_cons, ← List.append_assoc]
      exact rounds_one f (D ++ [n])
theorem all_one (N : Nat) (es : List Ed) : (all N es 1).flatten = take N es := by
  have := rounds_one (N := N) (es := es) N []
  rwa [List.nil_append] at this
end Go.Proofs.YtfjmhmfkhgjnhaaDoor.Gr


namespace Go.Proofs.YtfjmhmfkhgjnhaaDoor
set_option linter.unusedVariables false
set_option linter.unusedSimpArgs false
set_option maxRecDepth 100000
open Go.RowKit

theorem info_int3 : (Tryd.prog.info? 3).map (fun i => (i.zero, i.size, i.bytes)) = some (some (.int .i64 0), 1, 8) := by kernel_rfl
theorem info_parts1 {P : Program} {t : TypeId} {z : Value} {s b : Nat} (h : (P.info? t).map (fun i => (i.zero, i.size, i.bytes)) = some (some z, s, b)) : ∃ i, P.info? t = some i ∧ i.zero = some z ∧ i.size = s ∧ i.bytes = b := by
  obtain ⟨i, hi, he⟩ := Option.map_eq_some_iff.1 h
  injection he with h1 h2
  injection h2 with h2 h3
  exact ⟨i, hi, h1, h2, h3⟩

theorem grow_ints (n : Nat) (w : World) (hn : n ≤ 137438953472) :
    Calls Tryd.prog 55 #[.slice none 0 0, .int .i64 n] w fun e w' => ∃ v, e = .returned v ∧ w'.ownsRow w.heap.size 3 1 v 0 [] ∧ Below w.heap.size w w' := by
  rcases Nat.eq_zero_or_pos n with rfl | hpos
  · go_enter Tryd.func55, Tryd.ntmps55
    go_wp2
    go_ret
    exact ⟨_, rfl, World.ownsRow_nil _ _ _ _, Below.refl _ _⟩
  · obtain ⟨i, hi, hz0, hz1, hz2⟩ := info_parts1 info_int3
    have hcap := grownCap_ge w n 0 3
    have hcm := grownCap_le_maxLen w n 0 3 (by unfold maxLen; omega)
    have hr := fun ty kq => Lib.run_append_nil_zeros (P := Tryd.prog) w 26 3 ty 3 i _ kq .i64 Tryd.underlying26 Tryd.underlying3 hi hz0 n hpos (by omega) (by omega) (by rw [hz2]; omega)
    obtain ⟨cap, hc⟩ : ∃ cap, cap = grownCap w n 0 3 := ⟨_, rfl⟩
    rw [← hc] at hcap hcm hr
    have hcz : (Builtin.zeroCells (Value.int IntKind.i64 0).cells n ++ Builtin.zeroCells (Value.int IntKind.i64 0).cells (cap - n)).size = cap * 1 := by
      simp only [Array.size_append, size_zeroCells, Value.cells, List.size_toArray, List.length_cons, List.length_nil]
      omega
    generalize (Builtin.zeroCells (Value.int IntKind.i64 0).cells n ++ Builtin.zeroCells (Value.int IntKind.i64 0).cells (cap - n)) = cur at hr hcz
    have hcm' := hcm
    unfold maxLen at hcm
    have hend : (w.drew.alloc (.cells cur 3)).ownsRow w.heap.size 3 1 (.slice (some ⟨w.heap.size, 0, none⟩) 0 cap) 0 [] ∧ Below w.heap.size w (w.drew.alloc (.cells cur 3)) :=
      ⟨⟨rfl, .inr ⟨w.heap.size, cap, cur, rfl, Nat.le_refl _, heap_alloc_new w.drew _, Nat.zero_le _, hcm', hcz, by simp⟩⟩, below_alloc (below_drew (Below.refl _ _)) _⟩
    have HR := Lib.hid hr
    have HE := Lib.hid hend
    clear hr hend hc hcz hz0 hz1 hz2 hi hcm'
    go_enter Tryd.func55, Tryd.ntmps55
    go_wp2_with (at_builtin; refine Lib.wpList_append_run _ rfl _ _ _ _ rfl _ _ rfl rfl _ _ (HR.out _ _) ?_)
    go_ret
    exact ⟨_, rfl, HE.out.1, HE.out.2⟩

theorem flat_take_le (ls : List (List Nat)) (k : Nat) : (ls.take k).flatten.length ≤ ls.flatten.length := by
  conv => rhs; rw [← List.take_append_drop k ls, List.flatten_append, List.length_append]
  omega
/-- how many the first k hold -/
def flen (ls : List (List Nat)) (k : Nat) : Nat := (ls.take k).flatten.length
theorem flat_snoc {ls : List (List Nat)} {k : Nat} {a : List Nat} (h : ls[k]? = some a) : (ls.take (k + 1)).flatten = (ls.take k).flatten ++ a := by
  rw [Gr.take_snoc h, List.flatten_append, List.flatten_singleton]

theorem flen_le (ls : List (List Nat)) (k : Nat) : flen ls k ≤ ls.flatten.length := flat_take_le ls k
theorem flen_snoc {ls : List (List Nat)} {k : Nat} {a : List Nat} (h : ls[k]? = some a) : flen ls (k + 1) = flen ls k + a.length := by
  unfold flen
  rw [flat_snoc h, List.length_append]
theorem flen_all (ls : List (List Nat)) : flen ls ls.length = ls.flatten.length := by unfold flen; rw [List.take_length]

set_option maxHeartbeats 2000000 in
theorem concat_ints (os : List Value) (ls : List (List Nat)) (v : Value) (w : World) (h : SlV w 1 v os.length os) (hp : Gy.Rs w os ls) (hsz : ls.flatten.length ≤ 1099511627) :
    Calls Tryd.prog 27 #[v] w fun e w' => ∃ u, e = .returned u ∧ w'.ownsRow w.heap.size 3 1 u ls.flatten.length (ilist ls.flatten) ∧ Below w.heap.size w w' := by
  obtain ⟨A, c, rfl, hle, hm, hlen, hc⟩ := h
  unfold maxLen at hm
  have hone : ∀ k, k < os.length → ∃ (A' : Option Addr) (c' : Nat) (a : List Nat), os[k]? = some (.slice A' a.length c') ∧ ls[k]? = some a ∧ a.length ≤ c' ∧ c' ≤ maxLen ∧ SlN w (.slice A' a.length c') a := fun k hk => by
    obtain ⟨a, ha⟩ : ∃ a, ls[k]? = some a := ⟨_, List.getElem?_eq_getElem (by rw [← hp.1]; exact hk)⟩
    obtain ⟨u, hu, hs⟩ := hp.get ha
    obtain ⟨A', c', rfl, h1, h2⟩ := hs.form
    exact ⟨A', c', a, hu, ha, h1, h2, hs⟩
  have HL := Lib.hid hp.1
  have HO := Lib.hid (And.intro hone hsz)
  clear hone hsz hp hlen
  go_enter Tryd.func27, Tryd.ntmps27
  go_wp2
  go_loop [3, 11] (fun s i => ∃ k : Nat, k ≤ os.length ∧ i = .int .i64 k ∧ s = .int .i64 (flen ls k : Nat)) (fun s i => os.length - (intOf i).toNat)
  case atStart => exact ⟨0, Nat.zero_le _, rfl, rfl⟩
  case round =>
    obtain ⟨k, hk, rfl, rfl⟩ := hrel
    have hb := flen_le ls k
    have hb2 := HO.out.2
    by_cases hlt : k < os.length
    · obtain ⟨A', c', a, hu, hpk, hle', hm', -⟩ := HO.out.1 k hlt
      obtain ⟨b, o, rfl, hbb, hcc⟩ := hc.at_ (fun e => by rw [e] at hu; simp at hu)
      have c1 := hcc _ _ hu
      have hln := flen_snoc hpk
      have hb3 := flen_le ls (k + 1)
      rw [hln] at hb3
      have HN := Lib.hid hln
      obtain ⟨l, hl⟩ : ∃ l, l = flen ls k := ⟨_, rfl⟩
      rw [← hl] at hb hb3 ⊢
      have HK := Lib.hid hl
      clear hc hcc hu hpk hln hl
      go_wp2
      go_round
      case rel => exact ⟨k + 1, by omega, by go_num, by rw [HN.out, ← HK.out]; go_num⟩
      case measure => simp [intOf]; omega
    · have HK := Lib.hid (show k = ls.length by have := HL.out; omega)
      clear hb
      go_wp2_with fail
      refine (grow_ints _ _ (by rw [HK.out, flen_all]; omega)).mono ?_
      rintro e w1 ⟨v1, rfl, hown1, hb1⟩
      go_wp2_with fail
      go_loopw [6, 27] (fun s i wr => ∃ k : Nat, k ≤ os.length ∧ i = .int .i64 k ∧ wr.ownsRow w.heap.size 3 1 s (flen ls k) (ilist (ls.take k).flatten) ∧ Below w.heap.size w wr) (fun s i _ => os.length - (intOf i).toNat)
      case atStart => exact ⟨0, Nat.zero_le _, rfl, hown1, hb1⟩
      case round =>
        clear hb1 hown1
        obtain ⟨k, hk, rfl, hown, hbw⟩ := hrel
        have hb := flen_le ls k
        by_cases hlt : k < os.length
        · obtain ⟨A', c', a, hu, hpk, hle', hm', hpr⟩ := HO.out.1 k hlt
          obtain ⟨b, o, rfl, hbb, hcc⟩ := hc.at_ (fun e => by rw [e] at hu; simp at hu)
          have c1 := (hbw.cell (p := ⟨b, o + k, none⟩) hbb).trans (hcc _ _ hu)
          have hln : (ls.take (k + 1)).flatten = (ls.take k).flatten ++ a := flat_snoc hpk
          have hfl := flen_snoc hpk
          have hb3 := flen_le ls (k + 1)
          rw [hfl] at hb3
          obtain ⟨A'', c'', he, -, -, hil, hcd⟩ := hpr.below hbw
          injection he with e1 e2 e3
          subst e1
          have HN := Lib.hid (And.intro hln hfl)
          have n63 : flen ls k + a.length ≤ maxLen := by unfold maxLen; omega
          have n47 : (flen ls k + a.length) * 8 ≤ 140737488355328 := by omega
          have hle0 := hbw.size
          have hone : ∀ u ∈ ilist a, u.oneCell' = true := ints_one1 .i64 _
          clear hc hcc hu hpk hln hfl e2 e3
          go_wp2_with (at_builtin; refine wp_append wr _ _ _ _ _ _ _ _ Tryd.underlying26 info_int3 rfl (by decide) hown hcd hil hone n63 n47 hle0 rfl rfl rfl rfl ?_; intro v' w4 hown4 _ _ hb4)
          have hbw4 := hbw.trans hb4
          clear hown hcd hb4 hbw hpr
          go_roundw
          case rel => exact ⟨k + 1, by omega, by go_num, by rw [HN.out.1, HN.out.2]; simpa [ilist, ints] using hown4, hbw4⟩
          case measure => simp [intOf]; omega
        · have HK2 := Lib.hid (show k = ls.length by have := HL.out; omega)
          clear hc
          go_wp2
          go_ret
          exact ⟨_, rfl, by rw [HK2.out, List.take_length, flen_all] at hown; exact hown, hbw⟩
end Go.Proofs.YtfjmhmfkhgjnhaaDoor


namespace Go.Proofs.YtfjmhmfkhgjnhaaDoor
set_option linter.unusedVariables false
set_option linter.unusedSimpArgs false
set_option maxRecDepth 100000
open Go.ChangeShapes Go.WideShapes Go.ChangeAt Go.RowKit Go.Deep

/-- every field is an int of one cell, and they lie one behind the other -/
def intFields (P : Program) (fs : Array Field) : Bool :=
  (List.range fs.size).all fun j => match fs[j]? with
    | some f => f.offset == j && P.cellsOf f.type == 1 && (match P.underlying f.type with | some (.int .i64) => true | _ => false)
    | none => false

theorem intFields_at {P : Program} {fs : Array Field} (h : intFields P fs = true) {j : Nat} (hj : j < fs.size) : ∃ f, fs[j]? = some f ∧ f.offset = j ∧ P.cellsOf f.type = 1 ∧ P.underlying f.type = some (.int .i64) := by
  have := List.all_eq_true.1 h j (by simpa using hj)
  rw [Array.getElem?_eq_getElem hj] at this
  simp only [Bool.and_eq_true, beq_iff_eq] at this
  refine ⟨fs[j], Array.getElem?_eq_getElem hj, this.1.1, this.1.2, ?_⟩
  have h3 := this.2
  split at h3
  · assumption
  · cases h3

def irow (r : List Int) : List Value := ints .i64 r

section
variable {H : Type} {enc : TypeId × Value → H} {P : Program} {w : World}

/-- one struct's cells are integers -/
theorem struct_ints {e : TypeId} {fs : Array Field} {n fuel : Nat} {cs : List Value} {x : DataW H × List MemPlace} (he : P.underlying e = some (.struct fs)) (hn : fs.size = n) (hC : P.cellsOf e = n) (hf : intFields P fs = true)
    (h : DataW.trod enc P w 0 (fun _ => true) true fuel e cs = some x) : ∃ r : List Int, r.length = n ∧ cs = irow r ∧ Wfs .i64 r := by
  obtain ⟨xs, m, _, _, hl, hxl, hfs⟩ := DataW.trod_struct he h
  rw [hC] at hl
  have each : ∀ j, j < n → ∃ k : Int, cs[j]? = some (.int .i64 k) ∧ (Lit.int .i64 k).wf = true := by
    intro j hj
    obtain ⟨f, hfj, ho, hc, hu⟩ := intFields_at hf (j := j) (by omega)
    have h1 := hfs j f hfj
    rw [ho, hc] at h1
    have hxj : xs[j]? = some xs[j] := List.getElem?_eq_getElem (by omega)
    rw [hxj] at h1
    obtain ⟨k, hk, _, hw⟩ := DataW.trod_int hu h1
    refine ⟨k, ?_, hw⟩
    have := congrArg (fun l => l[0]?) hk
    simp only [List.getElem?_cons_zero] at this
    rw [← this, List.getElem?_take, if_pos (by decide), List.getElem?_drop, Nat.add_zero]
  refine ⟨(List.range n).map fun j => intOf (cs.getD j undef), by simp, ?_, ?_⟩
  · apply List.ext_getElem?
    intro j
    by_cases hj : j < n
    · obtain ⟨k, hk, _⟩ := each j hj
      rw [hk]
      simp [irow, ints, hj, hk, List.getD, intOf]
    · rw [List.getElem?_eq_none (by omega), List.getElem?_eq_none (by simp [irow, ints]; omega)]
  · intro y hy
    obtain ⟨j, hj, rfl⟩ := List.mem_map.1 hy
    obtain ⟨k, hk, hw⟩ := each j (by simpa using hj)
    simp only [List.getD, hk, Option.getD_some, intOf]
    exact hw

/-- an argument that is a slice of structs of n integers -/
theorem open_rows {t e : TypeId} {fs : Array Field} {n : Nat} {v : Value} {d : DataW H} {ps : List MemPlace} (ht : P.underlying t = some (.slice e)) (he : P.underlying e = some (.struct fs)) (hn : fs.size = n) (hn0 : 0 < n) (hC : P.cellsOf e = n) (hf : intFields P fs = true)
    (hv : ∃ a len cap, v = .slice a len cap) (h : DataW.Trod enc P w 0 (fun _ => true) true t v d ps) (hlt : ∀ x ∈ ps, x.block < w.heap.size) :
    ∃ rs : List (List Int), (∀ r ∈ rs, r.length = n ∧ Wfs .i64 r) ∧ SlV w n v rs.length (rs.flatMap irow) ∧ ((d = .nil ∧ rs = []) ∨ ∃ (el sp : List (DataW H)), d = .slice el sp ∧ el.length = rs.length) := by
  obtain ⟨a0, len, cap, rfl⟩ := hv
  obtain ⟨fuel, hfu⟩ := h
  rcases open_slice ht hfu with ⟨hcs, hx⟩ | ⟨a, len', cap', m, k, D, Pl, hcs, _, hl, hm, hmm, hx, hi⟩
  · simp [Value.cells] at hcs
    obtain ⟨rfl, rfl, rfl⟩ := hcs
    simp only [Prod.mk.injEq] at hx
    exact ⟨[], by simp, SlV.nil _ _, .inl ⟨hx.1, rfl⟩⟩
  · simp [Value.cells] at hcs
    obtain ⟨rfl, rfl, rfl⟩ := hcs
    simp only [Prod.mk.injEq] at hx
    simp only [if_true] at hmm
    rw [hC] at hi hx
    have each : ∀ i, i < len → ∃ r : List Int, (r.length = n ∧ Wfs .i64 r) ∧ w.cells? 0 (a.add (i * n)) n = some (irow r) := by
      intro i hil
      obtain ⟨cs', hc, htr⟩ := hi i (by omega)
      obtain ⟨r, hr, hcr, hw⟩ := struct_ints he hn hC hf htr
      exact ⟨r, ⟨hr, hw⟩, by rw [hc, hcr]⟩
    obtain ⟨f, hff⟩ := choose_lt each
    have hlen : ∀ r ∈ (List.range len).map f, r.length = n ∧ Wfs .i64 r := by
      intro r hr
      obtain ⟨i, hi', rfl⟩ := List.mem_map.1 hr
      exact (hff i (by simpa using hi')).1
    have hflat : (((List.range len).map f).flatMap irow).length = len * n := by
      have : ∀ l : List (List Int), (∀ r ∈ l, r.length = n) → (l.flatMap irow).length = l.length * n := by
        intro l
        induction l with
        | nil => simp
        | cons r l ih =>
          intro hl'
          rw [List.flatMap_cons, List.length_append, ih (fun x hx => hl' x (by simp [hx])), List.length_cons, Nat.add_mul]
          have := hl' r (by simp)
          simp [irow, ints, this]
          omega
      rw [this _ fun r hr => (hlen r hr).1]
      simp
    refine ⟨(List.range len).map f, hlen, ⟨some a, cap, by simp, by simpa using hl, hm, by simpa using hflat, ?_⟩, .inr ⟨_, _, hx.1, by simp⟩⟩
    by_cases h0 : len = 0
    · subst h0
      exact Cells.nil _ _ _
    · obtain ⟨b, off, spot⟩ := a
      have hcell : ∀ i, i < len → ∀ j u, (irow (f i))[j]? = some u → w.cell? ((⟨b, off, spot⟩ : Addr).add (i * n + j)) = some u := by
        intro i hil j u hu
        have hj : j < n := by
          have := (List.getElem?_eq_some_iff.1 hu).1
          have h1 := (hff i hil).1.1
          simp [irow, ints, h1] at this
          exact this
        obtain ⟨_, _, hat⟩ := World.cells?_some (hff i hil).2
        have := hat j hj
        rw [Go.Deep.add_add] at this
        rw [this, hu]
      have hspot : spot = none := by
        have hr := (hff 0 (by omega)).1.1
        have hex : ∃ u, (irow (f 0))[0]? = some u := ⟨_, List.getElem?_eq_getElem (by simp [irow, ints]; omega)⟩
        obtain ⟨u, hu⟩ := hex
        have := hcell 0 (by omega) 0 u hu
        simpa [Addr.add] using World.cell?_spot this
      subst hspot
      refine ⟨b, off, fun _ => ⟨rfl, hlt (.cell b off) (by
        rw [hx.2]
        refine List.mem_append_left _ (MemPlace.mem_row.2 ⟨0, ?_, by simp⟩)
        exact Nat.mul_pos (by omega) hn0)⟩, fun j u hu => ?_⟩
      have hjl : j < len * n := by
        have := (List.getElem?_eq_some_iff.1 hu).1
        omega
      have hq : j / n < len := Nat.div_lt_of_lt_mul (by rw [Nat.mul_comm]; exact hjl)
      have hr : j % n < n := Nat.mod_lt _ hn0
      have hj : j = j / n * n + j % n := by have := Nat.div_add_mod j n; rw [Nat.mul_comm] at this; omega
      have hget : ((List.range len).map f)[j / n]? = some (f (j / n)) := by simp [hq]
      have key : ∀ (l : List (List Int)), (∀ r ∈ l, r.length = n) → ∀ (q s : Nat) (r : List Int), l[q]? = some r → s < n → (l.flatMap irow)[q * n + s]? = (irow r)[s]? := by
        intro l
        induction l with
        | nil => intro _ q s r h'; simp at h'
        | cons r0 l ih =>
          intro hl' q s r h' hs
          have h00 : (irow r0).length = n := by simp [irow, ints, hl' r0 (by simp)]
          rw [List.flatMap_cons]
          rcases q with _ | q
          · simp at h'
            subst h'
            rw [Nat.zero_mul, Nat.zero_add, List.getElem?_append_left (by omega)]
          · have e : (q + 1) * n + s = (irow r0).length + (q * n + s) := by rw [h00, Nat.add_mul]; omega
            rw [e, List.getElem?_append_right (by omega), Nat.add_sub_cancel_left]
            exact ih (fun x hx => hl' x (by simp [hx])) q s r (by simpa using h') hs
      rw [hj, key _ (fun r hr => (hlen r hr).1) _ _ _ hget hr] at hu
      have := hcell _ hq _ _ hu
      rw [← hj, Addr.add_lit] at this
      exact this
end
end Go.Proofs.YtfjmhmfkhgjnhaaDoor


namespace Go.Proofs.YtfjmhmfkhgjnhaaDoor
set_option linter.unusedVariables false
set_option linter.unusedSimpArgs false
set_option maxRecDepth 100000
open Go.ChangeShapes Go.WideShapes Go.ChangeAt Go.RowKit

theorem own : ownKnob Tryd.prog.godebug = none := by kernel_rfl
theorem laidOut : laidOutB Tryd.prog = true := by kernel_rfl

/-- the form's own reach, of a slice that was opened -/
theorem reach_rows {H : Type} {ts : List TypeId} {ds : List (DataW H)} {n by_ : Nat} {d : DataW H} {t e : TypeId} (hsz : (DataW.weightsEach Tryd.prog ts ds).all (· ≤ reachBytes) = true) {j : Nat} (ht : ts[j]? = some t) (hd : ds[j]? = some d)
    (hu : Tryd.prog.underlying t = some (.slice e)) (hb : Tryd.prog.bytesOf e = by_) (h : (d = .nil ∧ n = 0) ∨ ∃ (el sp : List (DataW H)), d = .slice el sp ∧ el.length = n) : n * by_ ≤ 140737488351232 := by
  rcases h with ⟨_, rfl⟩ | ⟨el, sp, rfl, rfl⟩
  · simp
  · have := sized_slice hsz ht hd hu
    rw [hb] at this
    have h2 : el.length * by_ ≤ (el.length + sp.length) * by_ := Nat.mul_le_mul_right _ (by omega)
    simp only [reachBytes] at this
    omega
end Go.Proofs.YtfjmhmfkhgjnhaaDoor


namespace Go.Proofs.YtfjmhmfkhgjnhaaDoor
set_option linter.unusedVariables false
set_option linter.unusedSimpArgs false
set_option maxRecDepth 100000
open Go.ChangeShapes Go.WideShapes Go.ChangeAt Go.RowKit
set_option linter.unusedVariables false

theorem gTab : Tryd.prog.globalNamed "math/bits.deBruijn64tab" = some 0 := by kernel_rfl
theorem gTabType : (Tryd.prog.globals[0]?).map (·.type) = some 134 := by kernel_rfl
theorem cellsTab : Tryd.prog.cellsOf 134 = 64 := by kernel_rfl
theorem cellsByte : Tryd.prog.cellsOf 5 = 1 := by kernel_rfl
def tabInts : List Int := Lib.deBruijn64tab.map fun (x : Nat) => (x : Int)
theorem tab_is {W : World} (h : Lib.TabIs Tryd.prog W "math/bits.deBruijn64tab" .u8 tabInts) : Tab W := fun j hj => by
  have := h.cell gTab j (by unfold tabInts; rw [List.length_map]; exact hj)
  rw [this]
  unfold tabInts
  simp [List.getD, hj]
noncomputable def laidWorld (os : Os) : World :=
  { World.holding Tryd.prog os ⟨#[], #[], []⟩ with heap := (World.holding Tryd.prog os ⟨#[], #[], []⟩).heap.modify 0 fun
      | .cells _ t frozen => .cells (tabInts.map fun z => Value.int .u8 z).toArray t frozen
      | o => o }

end Go.Proofs.YtfjmhmfkhgjnhaaDoor


namespace Go.Proofs.YtfjmhmfkhgjnhaaDoor
set_option linter.unusedVariables false
set_option linter.unusedSimpArgs false
set_option maxRecDepth 100000
open Go.ChangeShapes Go.WideShapes Go.ChangeAt Go.RowKit Go.Deep

section
variable {H : Type} {enc : TypeId × Value → H} {P : Program} {w : World}

theorem open_items {α : Type} (f : α → List Value) (n : Nat) (hf : ∀ a, (f a).length = n) (hn0 : 0 < n) (good : α → Prop) {t e : TypeId} {v : Value} {d : DataW H} {ps : List MemPlace} (ht : P.underlying t = some (.slice e)) (hC : P.cellsOf e = n)
    (each : ∀ (fuel : Nat) (cs : List Value) (x : DataW H × List MemPlace), DataW.trod enc P w 0 (fun _ => true) true fuel e cs = some x → ∃ a, cs = f a ∧ good a)
    (hv : ∃ a len cap, v = .slice a len cap) (h : DataW.Trod enc P w 0 (fun _ => true) true t v d ps) (hlt : ∀ x ∈ ps, x.block < w.heap.size) :
    ∃ l : List α, (∀ a ∈ l, good a) ∧ SlV w n v l.length (l.flatMap f) ∧ ((d = .nil ∧ l = []) ∨ ∃ (el sp : List (DataW H)), d = .slice el sp ∧ el.length = l.length) := by
  obtain ⟨a0, len, cap, rfl⟩ := hv
  obtain ⟨fuel, hfu⟩ := h
  rcases open_slice ht hfu with ⟨hcs, hx⟩ | ⟨a, len', cap', m, k, D, Pl, hcs, _, hl, hm, hmm, hx, hi⟩
  · simp [Value.cells] at hcs
    obtain ⟨rfl, rfl, rfl⟩ := hcs
    simp only [Prod.mk.injEq] at hx
    exact ⟨[], by simp, SlV.nil _ _, .inl ⟨hx.1, rfl⟩⟩
  · simp [Value.cells] at hcs
    obtain ⟨rfl, rfl, rfl⟩ := hcs
    simp only [Prod.mk.injEq] at hx
    simp only [if_true] at hmm
    rw [hC] at hi hx
    have each' : ∀ i, i < len → ∃ r : α, good r ∧ w.cells? 0 (a.add (i * n)) n = some (f r) := by
      intro i hil
      obtain ⟨cs', hc, htr⟩ := hi i (by omega)
      obtain ⟨r, hcr, hr⟩ := each _ _ _ htr
      exact ⟨r, hr, by rw [hc, hcr]⟩
    by_cases h0 : len = 0
    · subst h0
      exact ⟨[], by simp, ⟨some a, cap, by simp, hl, hm, by simp, Cells.nil _ _ _⟩, .inr ⟨_, _, hx.1, by simp⟩⟩
    obtain ⟨r0, -, -⟩ := each' 0 (by omega)
    haveI : Inhabited α := ⟨r0⟩
    obtain ⟨g, hgg⟩ := choose_lt each'
    have hgood : ∀ r ∈ (List.range len).map g, good r := by
      intro r hr
      obtain ⟨i, hi', rfl⟩ := List.mem_map.1 hr
      exact (hgg i (by simpa using hi')).1
    have hflat : (((List.range len).map g).flatMap f).length = len * n := by rw [flat_length f n hf]; simp
    refine ⟨(List.range len).map g, hgood, ⟨some a, cap, by simp, by simpa using hl, hm, by simpa using hflat, ?_⟩, .inr ⟨_, _, hx.1, by simp⟩⟩
    obtain ⟨b, off, spot⟩ := a
    have hcell : ∀ i, i < len → ∀ j u, (f (g i))[j]? = some u → w.cell? ((⟨b, off, spot⟩ : Addr).add (i * n + j)) = some u := by
      intro i hil j u hu
      have hj : j < n := by
        have := (List.getElem?_eq_some_iff.1 hu).1
        rwa [hf] at this
      obtain ⟨_, _, hat⟩ := World.cells?_some (hgg i hil).2
      have := hat j hj
      rw [Go.Deep.add_add] at this
      rw [this, hu]
    have hspot : spot = none := by
      have hex : ∃ u, (f (g 0))[0]? = some u := ⟨_, List.getElem?_eq_getElem (by rw [hf]; exact hn0)⟩
      obtain ⟨u, hu⟩ := hex
      have := hcell 0 (by omega) 0 u hu
      simpa [Addr.add] using World.cell?_spot this
    subst hspot
    refine ⟨b, off, fun _ => ⟨rfl, hlt (.cell b off) (by
      rw [hx.2]
      refine List.mem_append_left _ (MemPlace.mem_row.2 ⟨0, ?_, by simp⟩)
      exact Nat.mul_pos (by omega) hn0)⟩, fun j u hu => ?_⟩
    have hjl : j < len * n := by
      have := (List.getElem?_eq_some_iff.1 hu).1
      omega
    have hq : j / n < len := Nat.div_lt_of_lt_mul (by rw [Nat.mul_comm]; exact hjl)
    have hr : j % n < n := Nat.mod_lt _ hn0
    have hj : j = j / n * n + j % n := by have := Nat.div_add_mod j n; rw [Nat.mul_comm] at this; omega
    have hget : ((List.range len).map g)[j / n]? = some (g (j / n)) := by simp [hq]
    rw [hj] at hu ⊢
    rw [flat_get f n hf _ _ _ _ hget hr] at hu
    have := hcell (j / n) hq (j % n) u hu
    rw [Addr.add_lit] at this
    exact this
end
end Go.Proofs.YtfjmhmfkhgjnhaaDoor


namespace Go.Proofs.YtfjmhmfkhgjnhaaDoor
set_option linter.unusedVariables false
set_option linter.unusedSimpArgs false
set_option maxRecDepth 100000
open Go.ChangeShapes Go.WideShapes Go.ChangeAt Go.RowKit Go.Deep

def grFields (P : Program) (t : TypeId) : Array Field := match P.underlying t with | some (.struct fs) => fs | _ => #[]
theorem open_edge {H : Type} {enc : TypeId × Value → H} {w : World} (fuel : Nat) (cs : List Value) (x : DataW H × List MemPlace) (h : DataW.trod enc Tryd.prog w 0 (fun _ => true) true fuel 39 cs = some x) : ∃ z : Gr.Er, cs = erc z ∧ True := by
  have hT : Tryd.prog.underlying 39 = some (.struct (grFields Tryd.prog 39)) := by kernel_rfl
  obtain ⟨r, h1, h2, -⟩ := struct_ints (n := 2) hT (by kernel_rfl) (by kernel_rfl) (by kernel_rfl) h
  match r, h1 with
  | [a, b], _ => exact ⟨(a, b), h2, trivial⟩

theorem Gr.bulk_pos {H : Type} (d : DataW H) : 1 ≤ Rows.uptoBulk d := by
  cases d with
  | lit x => cases x <;> simp [Rows.uptoBulk]
  | _ => simp [Rows.uptoBulk]
theorem Gr.bulk_len {H : Type} : ∀ l : List (DataW H), l.length ≤ Rows.uptoBulkAll l
  | [] => by simp
  | x :: l => by
    rw [Rows.uptoBulkAll, List.length_cons]
    have := Gr.bulk_pos x
    have := Gr.bulk_len l
    omega
theorem Gr.bulk_rows {H : Type} {d : DataW H} {n : Nat} (h : (d = .nil ∧ n = 0) ∨ ∃ (el sp : List (DataW H)), d = .slice el sp ∧ el.length = n) : n ≤ Rows.uptoBulk d := by
  rcases h with ⟨_, rfl⟩ | ⟨e, sp, rfl, he⟩
  · exact Nat.zero_le _
  · have := Gr.bulk_len e
    rw [Rows.uptoBulk]
    omega

theorem open_arg_graph {H : Type} {enc : TypeId × Value → H} {W : World} {base : Nat} {v : Value} {d : DataW H} {p : List MemPlace} (hv : Value.okWide Tryd.prog W .any base 24 v) (h : DataW.Trod enc Tryd.prog W 0 (fun _ => true) true 24 v d p) (hlt : ∀ x ∈ p, x.block < W.heap.size) :
    ∃ (n : Int) (es : List Gr.Er) (A : Option Addr) (c : Nat), v = .agg #[.int .i64 n, .slice A es.length c] ∧ SlV W 2 (.slice A es.length c) es.length (ercs es) ∧ es.length ≤ Rows.uptoBulk d := by
  have hT : Tryd.prog.underlying 24 = some (.struct (grFields Tryd.prog 24)) := by kernel_rfl
  obtain ⟨cs, rfl, hcs⟩ := okWide_struct hT hv
  obtain ⟨fuel, hf⟩ := h
  have hf : DataW.trod enc Tryd.prog W 0 (fun _ => true) true fuel 24 cs.toList = some (d, p) := by simpa [Value.cells] using hf
  obtain ⟨xs, m, hfu, hx, hl, hxl, hfs⟩ := DataW.trod_struct hT hf
  have q0 : (grFields Tryd.prog 24)[0]?.map (fun f => (f.type, f.offset)) = some (3, 0) := by kernel_rfl
  have q1 : (grFields Tryd.prog 24)[1]?.map (fun f => (f.type, f.offset)) = some (22, 1) := by kernel_rfl
  have hsz : (grFields Tryd.prog 24).size = 2 := by kernel_rfl
  obtain ⟨f0, g0, p0⟩ := Option.map_eq_some_iff.1 q0
  obtain ⟨f1, g1, p1⟩ := Option.map_eq_some_iff.1 q1
  injection p0 with p0 p0'
  injection p1 with p1 p1'
  have h0 := hfs 0 f0 g0
  have h1 := hfs 1 f1 g1
  have c0 : Tryd.prog.cellsOf 3 = 1 := by kernel_rfl
  have c1 : Tryd.prog.cellsOf 22 = 1 := by kernel_rfl
  have cT : Tryd.prog.cellsOf 24 = 2 := by kernel_rfl
  rw [p0, p0', c0] at h0
  rw [p1, p1', c1] at h1
  rw [cT] at hl
  rw [hsz] at hxl
  obtain ⟨l, hll⟩ : ∃ l, l = cs.toList := ⟨_, rfl⟩
  rw [← hll] at h0 h1 hl
  have hcl : cs = l.toArray := by rw [hll]
  subst hcl
  clear hll hcs hf
  match xs, hxl, l, hl with
  | [x0, x1], _, [v0, v1], _ =>
    simp only [List.drop_succ_cons, List.drop_zero, List.take_succ_cons, List.take_zero, List.getElem?_cons_zero, List.getElem?_cons_succ] at h0 h1
    obtain ⟨n, hn, -, -⟩ := DataW.trod_int Tryd.underlying3 h0
    simp only [List.cons.injEq, and_true] at hn
    subst hn
    have hbk := congrArg Prod.fst hx
    have hpl := congrArg Prod.snd hx
    simp only [List.map_cons, List.map_nil, List.flatMap_cons, List.flatMap_nil, List.append_nil] at hbk hpl
    have hv1 : ∃ a len cap, v1 = .slice a len cap := by
      rcases open_slice Tryd.underlying22 h1 with ⟨hcs, -⟩ | ⟨a, len', cap', m', k, D, Pl, hcs, -⟩
      · simp at hcs; exact ⟨_, _, _, hcs⟩
      · simp at hcs; exact ⟨_, _, _, hcs⟩
    obtain ⟨A, len, cap, rfl⟩ := hv1
    obtain ⟨es, -, hes, hb⟩ := open_items erc 2 (fun _ => rfl) (by decide) (fun _ => True) (v := .slice A len cap) (d := x1.1) (ps := x1.2) Tryd.underlying22 (by kernel_rfl) open_edge ⟨A, len, cap, rfl⟩ ⟨m, by simpa [Value.cells] using h1⟩ (fun x hx' => hlt x (by rw [hpl]; exact List.mem_append_right _ hx'))
    have hlen : len = es.length := by
      obtain ⟨A', c', e, -⟩ := hes
      injection e
    subst hlen
    refine ⟨n, es, A, cap, rfl, hes, ?_⟩
    have hr := Gr.bulk_rows (d := x1.1) (n := es.length) (hb.imp (fun h => ⟨h.1, by rw [h.2]; rfl⟩) id)
    rw [hbk, Rows.uptoBulk, Rows.uptoBulkAll, Rows.uptoBulkAll]
    omega
end Go.Proofs.YtfjmhmfkhgjnhaaDoor
