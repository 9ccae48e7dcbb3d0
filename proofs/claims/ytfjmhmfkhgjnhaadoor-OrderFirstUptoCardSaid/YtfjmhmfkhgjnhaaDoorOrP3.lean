/-
  The heap of ready nodes, walked: take.
-/
import Derived.Test.YtfjmhmfkhgjnhaaDoorOrP2
import Derived.Deep.DeepCutAuto
import Derived.Lib.Hide
import Derived.Test.YtfjmhmfkhgjnhaaDoorOrP1
import Derived.Test.YtfjmhmfkhgjnhaaDoorChecked

namespace Go.Proofs.YtfjmhmfkhgjnhaaDoor
set_option linter.unusedVariables false
set_option linter.unusedSimpArgs false
set_option maxRecDepth 100000
open Go.RowKit

def edc (e : Gr.Ed) : List Value := [.int .i64 (e.1 : Int), .int .i64 (e.2 : Int)]
def edcs (l : List Gr.Ed) : List Value := l.flatMap edc
theorem info_sint : (Tryd.prog.info? 26).map (fun i => (i.zero, i.size, i.bytes)) = some (some (.slice none 0 0), 1, 24) := by kernel_rfl
theorem ilist_length (l : List Nat) : (ilist l).length = l.length := by simp [ilist, ints_length]

def irw (v : Value) (l : List Nat) : Rw := ⟨3, 1, v, l.length, ilist l⟩
def wrw (v : Value) (ws : List Int) : Rw := ⟨3, 1, v, ws.length, ints .i64 ws⟩
/-- how many each one waits for; what each one leads to -/
def tkR (wv : Value) (ws : List Int) (vs : List Value) (L : List (List Nat)) : List Rw := wrw wv ws :: List.zipWith irw vs L
theorem zip_set {α β γ : Type} (f : α → β → γ) : ∀ (l : List α) (m : List β) (i : Nat) (a : α) (b : β), (List.zipWith f l m).set i (f a b) = List.zipWith f (l.set i a) (m.set i b)
  | [], _, _, _, _ => rfl
  | _ :: _, [], i, _, _ => by cases i <;> rfl
  | x :: l, y :: m, 0, _, _ => rfl
  | x :: l, y :: m, i + 1, a, b => by simp [zip_set f l m i a b]
theorem tkR_w (wv : Value) (ws ws' : List Int) (vs : List Value) (L : List (List Nat)) : (tkR wv ws vs L).set 0 (wrw wv ws') = tkR wv ws' vs L := rfl
theorem tkR_i (wv : Value) (ws : List Int) (vs : List Value) (L : List (List Nat)) (i : Nat) (v : Value) (l : List Nat) : (tkR wv ws vs L).set (i + 1) (irw v l) = tkR wv ws (vs.set i v) (L.set i l) := by
  unfold tkR
  rw [List.set_cons_succ, zip_set]
theorem tkR_get (wv : Value) (ws : List Int) (vs : List Value) (L : List (List Nat)) (i : Nat) (v : Value) (l : List Nat) (hv : vs[i]? = some v) (hl : L[i]? = some l) : (tkR wv ws vs L)[i + 1]? = some (irw v l) := by
  unfold tkR
  rw [List.getElem?_cons_succ, List.getElem?_zipWith, hv, hl]
/-- both are made -/
theorem tk_start {B q r : Nat} {w1 w2 : World} {N : Nat} (h1 : w1.ownsRow B 3 1 (.slice (some ⟨q, 0, none⟩) N N) N (List.replicate N (.int .i64 0))) (hb : Below w1.heap.size w1 w2) (hr : r = w1.heap.size) (h2 : Blk w2 r 26 (List.replicate N (.slice none 0 0))) (hB : B ≤ w1.heap.size) :
    Own B w2 r 26 (List.replicate N (.slice none 0 0)) (tkR (.slice (some ⟨q, 0, none⟩) N N) (Gr.wl N []) (List.replicate N (.slice none 0 0)) (Gr.nl N [])) := by
  have hw : Gr.wl N [] = List.replicate N 0 := by
    apply List.ext_getElem
    · simp [Gr.wl]
    · intro i h h'; simp [Gr.wl, Gr.wt]
  have hn : Gr.nl N [] = List.replicate N [] := by
    apply List.ext_getElem
    · simp [Gr.nl]
    · intro i h h'; simp [Gr.nl, Gr.next]
  have hz : List.zipWith irw (List.replicate N (.slice none 0 0)) (List.replicate N []) = List.replicate N (irw (.slice none 0 0) []) := by simp
  have hq := h1.lt q rfl
  unfold tkR
  rw [hw, hn, hz]
  refine ⟨h2, fun s hs => ?_, fun i j s t hi hj hij => ?_, fun s hs => ?_, Nat.le_trans hB hb.size, by omega⟩
  · rcases List.mem_cons.1 hs with rfl | hs
    · have := own_keeps h1 (Keeps.of_below hb (fun _ => False)) (fun _ _ => id)
      show w2.ownsRow _ _ _ _ _ _
      simpa [wrw, ints] using this
    · rw [(List.mem_replicate.1 hs).2]
      exact World.ownsRow_nil _ _ _ _
  · intro k hk hk'
    cases i with
    | zero =>
      cases j with
      | zero => exact hij rfl
      | succ j =>
        rw [List.getElem?_cons_succ, List.getElem?_replicate] at hj
        split at hj
        · injection hj with hj; subst hj; simp [irw, Value.ownBlock] at hk'
        · cases hj
    | succ i =>
      rw [List.getElem?_cons_succ, List.getElem?_replicate] at hi
      split at hi
      · injection hi with hi; subst hi; simp [irw, Value.ownBlock] at hk
      · cases hi
  · rcases List.mem_cons.1 hs with rfl | hs
    · intro e
      have : q = r := by simpa [wrw, Value.ownBlock] using e
      omega
    · rw [(List.mem_replicate.1 hs).2]
      simp [irw, Value.ownBlock]

theorem own_cell {w : World} {B g n c : Nat} {e : TypeId} {xs : List Value} (h : w.ownsRow B e 1 (.slice (some ⟨g, 0, none⟩) n c) n xs) {j : Nat} {u : Value} (hj : xs[j]? = some u) : w.cell? ⟨g, j, none⟩ = some u := by
  obtain ⟨cs, hB, -, ht, -⟩ := row_blk h
  rw [hB.cell]
  rw [← ht, List.getElem?_take] at hj
  split at hj
  · exact hj
  · cases hj
theorem row_set {w : World} {B g n c : Nat} {e : TypeId} {xs : List Value} (h : w.ownsRow B e 1 (.slice (some ⟨g, 0, none⟩) n c) n xs) (i : Nat) (u : Value) : (w.setCell ⟨g, i, none⟩ u).ownsRow B e 1 (.slice (some ⟨g, 0, none⟩) n c) n (xs.set i u) := by
  obtain ⟨cs, hB, hl, ht, hn, hm, hb⟩ := row_blk h
  have := row_of_blk (size := 1) (c := c) (n := n) (hB.set_ i u) (by simpa using hl) hb hn hm
  rw [List.take_set, ht] at this
  exact this
theorem row_frozen {w : World} {B g n c : Nat} {e : TypeId} {xs : List Value} (h : w.ownsRow B e 1 (.slice (some ⟨g, 0, none⟩) n c) n xs) (i : Nat) : w.frozen? ⟨g, i, none⟩ = false := by
  obtain ⟨cs, hB, -⟩ := row_blk h
  exact hB.frozen i
/-- a slice as long as it may be: its block is known whole -/
theorem row_whole {w : World} {B g n : Nat} {e : TypeId} {xs : List Value} (h : w.ownsRow B e 1 (.slice (some ⟨g, 0, none⟩) n n) n xs) : Blk w g e xs := by
  obtain ⟨cs, hB, hl, ht, -⟩ := row_blk h
  rw [← ht, List.take_of_length_le (by omega)]
  exact hB

theorem SlU.far {S : Nat → Prop} {w w' : World} {v : Value} {xs : List Nat} (h : SlU w v xs) (k : Keeps S w w') (hf : xs ≠ [] → ∀ p, ptr v = some p → ¬ S p.block) : SlU w' v xs := by
  obtain ⟨⟨A, c, rfl, h1, h2, h3, b, o, h4, h5⟩, h6⟩ := h
  refine ⟨⟨A, c, rfl, h1, h2, h3, b, o, fun hn => ⟨(h4 hn).1, Nat.lt_of_lt_of_le (h4 hn).2 k.size⟩, fun j u hu => ?_⟩, h6⟩
  have hn : nats xs ≠ [] := fun e => by rw [e] at hu; simp at hu
  obtain ⟨hA, hb⟩ := h4 hn
  exact (World.cell?_of_block (a := ⟨b, o + j, none⟩) (k.block b hb (hf (fun e => hn (by rw [e]; rfl)) _ (by rw [hA]; rfl)))).trans (h5 j u hu)
/-- a slice of words that lies in none of these blocks -/
def FarU (T : Nat → Prop) (v : Value) (xs : List Nat) : Prop := xs ≠ [] → ∀ p, ptr v = some p → ¬ T p.block
theorem FarU.new {T : Nat → Prop} {B : Nat} {v : Value} {xs : List Nat} (h : New B v) (hT : ∀ k, T k → k < B) : FarU T v xs := fun _ p hp hk => by
  have h1 := hT _ hk
  have h2 := h p hp
  omega
theorem FarU.step {T T' : Nat → Prop} {w : World} {v : Value} {xs : List Nat} (h : FarU T v xs) (hu : SlU w v xs) (hT : ∀ k, T' k → T k ∨ w.heap.size ≤ k) : FarU T' v xs := fun hn p hp hk => by
  obtain ⟨⟨A, c, rfl, h1, h2, h3, b, o, h4, h5⟩, h6⟩ := hu
  obtain ⟨hA, hb⟩ := h4 (fun e => hn (by simpa [nats] using e))
  have hp' : A = some p := hp
  rcases hT _ hk with hk | hk
  · exact h hn p hp hk
  · rw [hp'] at hA
    injection hA with hA
    rw [hA] at hk
    simp at hk
    omega
theorem OwnTo.cons_nil {B g : Nat} {w0 w : World} {T0 : Nat → Prop} {t : TypeId} {cs : List Value} {rs : List Rw} (h : OwnTo B w0 T0 w g t cs rs) : OwnTo B w0 T0 w g t cs (irw (.slice none 0 0) [] :: rs) := by
  refine ⟨⟨h.own.blk, fun r hr => ?_, fun i j r s hi hj hij => ?_, fun r hr => ?_, h.own.base, h.own.lo⟩, h.kp, fun k hk => h.nw k ?_⟩
  · rcases List.mem_cons.1 hr with rfl | hr
    · exact World.ownsRow_nil _ _ _ _
    · exact h.own.rows r hr
  · cases i with
    | zero =>
      injection hi with hi
      subst hi
      intro k hk
      simp [irw, Value.ownBlock] at hk
    | succ i =>
      cases j with
      | zero =>
        injection hj with hj
        subst hj
        intro k hk
        simp [irw, Value.ownBlock]
      | succ j => exact h.own.ap i j r s hi hj (fun e => hij (by rw [e]))
  · rcases List.mem_cons.1 hr with rfl | hr
    · simp [irw, Value.ownBlock]
    · exact h.own.ng r hr
  · rcases hk with rfl | ⟨r, hr, hk⟩
    · exact .inl rfl
    · rcases List.mem_cons.1 hr with rfl | hr
      · simp [irw, Value.ownBlock] at hk
      · exact .inr ⟨r, hr, hk⟩
/-- how many each one waits for, when these are out -/
def wo (N : Nat) (es : List Gr.Ed) (out : List Nat) : List Int := (List.range N).map fun m => ((Gr.wt es out m : Nat) : Int)

set_option maxHeartbeats 4000000 in
theorem take_any (N : Nat) (es : List Gr.Ed) (w : World) (A : Option Addr) (c : Nat) (hN : N ≤ 200) (hes : ∀ e ∈ es, e.1 < N ∧ e.2 < N) (hA : SlV w 2 (.slice A es.length c) es.length (edcs es)) (hle : es.length ≤ 1099511627776) (hT : Tab w) :
    Calls Tryd.prog 54 #[.agg #[.int .i64 (N : Int), .slice A es.length c]] w fun e w' => ∃ u, e = .returned u ∧ w'.ownsRow w.heap.size 3 1 u (Gr.take N es).length (ilist (Gr.take N es)) ∧ Below w.heap.size w w' := by
  have HES := Lib.hid hes
  have x0 := Blk.new w 24 [.int .i64 (N : Int), .slice A es.length c]
  have hb0 : Below w.heap.size w (w.alloc (.cells #[.int .i64 (N : Int), .slice A es.length c] 24)) := below_alloc (Below.refl _ _) _
  clear hes
  go_enter Tryd.func54, Tryd.ntmps54
  have n47 : 8 * N ≤ 281474976710656 := by omega
  have n47' : 24 * N ≤ 281474976710656 := by omega
  have n63 : N ≤ 9223372036854775807 := by omega
  have hz0 : (w.alloc (.cells #[.int .i64 (N : Int), .slice A es.length c] 24)).heap.size = w.heap.size + 1 := by simp
  have c00 : (w.alloc (.cells #[.int .i64 (N : Int), .slice A es.length c] 24)).cell? ⟨w.heap.size, 0, none⟩ = some (.int .i64 (N : Int)) := (x0.cell 0).trans rfl
  have HZ0 := Lib.hid hz0
  clear hz0
  go_wp2_with (first | (at_make; refine wp_make _ 26 3 (.int .i64 0) 8 N Tryd.underlying26 info_int rfl (by omega) (by omega) n47 n63 rfl rfl rfl rfl ?_; intro w1 hown1 hb1 hs1; have x1 := x0.below hb1; have c10 : w1.cell? ⟨w.heap.size, 0, none⟩ = some (.int .i64 (N : Int)) := (x1.cell 0).trans rfl; have c11 : w1.cell? ⟨w.heap.size, 1, none⟩ = some (.slice A es.length c) := (x1.cell 1).trans rfl) | (at_make; refine wp_make _ 49 26 (.slice none 0 0) 24 N Tryd.underlying49 info_sint rfl (by omega) (by omega) n47' n63 rfl rfl rfl rfl ?_; intro w2 hown2 hb2 hs2; have x2 := x1.below hb2; have c20 : w2.cell? ⟨w.heap.size, 0, none⟩ = some (.int .i64 (N : Int)) := (x2.cell 0).trans rfl; have c21 : w2.cell? ⟨w.heap.size, 1, none⟩ = some (.slice A es.length c) := (x2.cell 1).trans rfl) | fail)
  have hO : Own (w.heap.size + 1) w2 (w.heap.size + 1 + 1) 26 (List.replicate N (.slice none 0 0)) (tkR (.slice (some ⟨w.heap.size + 1, 0, none⟩) N N) (Gr.wl N []) (List.replicate N (.slice none 0 0)) (Gr.nl N [])) := by
    have hz := HZ0.out
    rw [hz] at hown1 hs1
    have hw := row_whole hown2
    rw [hs1] at hw
    exact tk_start hown1 hb2 hs1.symm hw (by omega)
  have hb02 : Below w.heap.size w w2 := below_next hb2 (below_next hb1 hb0)
  have hQ2 : w.heap.size + 1 + 1 < w2.heap.size := hO.blk.lt
  obtain ⟨Q, hQ⟩ : ∃ Q, Q = w.heap.size := ⟨_, rfl⟩
  rw [← hQ] at hO hQ2 ⊢
  have HQ := Lib.hid hQ
  clear hown1 hown2 hb1 hb2 hs1 hs2 x0 hb0 n47 n47' n63 c00 c10 c11 c20 c21 x1 HZ0 hQ
  have keepB : ∀ (vs : List Value) (rs : List Rw) (wr : World), OwnTo (Q + 1) w2 (Tw (Q + 1 + 1) (tkR (.slice (some ⟨Q + 1, 0, none⟩) N N) (Gr.wl N []) (List.replicate N (.slice none 0 0)) (Gr.nl N []))) wr (Q + 1 + 1) 26 vs rs → Below w.heap.size w wr := fun _ _ wr h => hb02.trans ((hO.below h.kp).mono (by rw [HQ.out]; omega))
  have HK := Lib.hid keepB
  clear keepB
  go_loopw [23] (fun i wr => ∃ (k : Nat) (vs : List Value), k ≤ es.length ∧ i = .int .i64 (k : Int) ∧ vs.length = N ∧ OwnTo (Q + 1) w2 (Tw (Q + 1 + 1) (tkR (.slice (some ⟨Q + 1, 0, none⟩) N N) (Gr.wl N []) (List.replicate N (.slice none 0 0)) (Gr.nl N []))) wr (Q + 1 + 1) 26 vs (tkR (.slice (some ⟨Q + 1, 0, none⟩) N N) (Gr.wl N (es.take k)) vs (Gr.nl N (es.take k)))) (fun i _ => es.length - (intOf i).toNat)
  case atStart => exact ⟨0, _, Nat.zero_le _, rfl, by simp, OwnTo.start hO⟩
  case round =>
    obtain ⟨k, vs, hk, rfl, hvl, hOk⟩ := hrel
    have hbw := HK.out _ _ wr hOk
    by_cases hlt : k < es.length
    · obtain ⟨⟨a, b⟩, hx⟩ : ∃ x, es[k]? = some x := ⟨_, List.getElem?_eq_getElem hlt⟩
      obtain ⟨ha, hb⟩ := HES.out _ (List.mem_of_getElem? hx)
      have gx := flat_get edc 2 (fun _ => rfl) es k
      have g1 := gx 0 _ hx (by omega)
      have g2 := gx 1 _ hx (by omega)
      obtain ⟨A', c', he, -, -, -, hcc⟩ := hA.below hbw
      injection he with e1 e2 e3
      subst e1 e3
      obtain ⟨g, o, rfl, hgl, hcell⟩ := hcc.at_ (fun e => by rw [show List.flatMap edc es = edcs es from rfl, e] at g1; simp [edc] at g1)
      have d0 : wr.cell? ⟨g, o + k * 2, none⟩ = some (.int .i64 (a : Int)) := (hcell _ _ g1).trans rfl
      have d1 : wr.cell? ⟨g, o + k * 2 + 1, none⟩ = some (.int .i64 (b : Int)) := by rw [Nat.add_assoc]; exact hcell _ _ g2
      have htk := Gr.take_snoc hx
      have hw1 := Gr.wl_one N (es.take k) a b
      have hn1 := Gr.nl_one N (es.take k) a b
      rw [← htk] at hw1 hn1
      obtain ⟨U, hU⟩ : ∃ U, U = Gr.wt (es.take k) [] b := ⟨_, rfl⟩
      rw [← hU] at hw1
      have hUb : U ≤ 1099511627776 := by rw [hU]; exact Nat.le_trans (Gr.wt_le _ _ _) (by rw [List.length_take]; omega)
      have hwl : (Gr.wl N (es.take k)).length = N := by simp [Gr.wl]
      have hTA := hOk.later (below_alloc (Below.refl _ _) (.cells #[.int .i64 (a : Int), .int .i64 (b : Int)] 39))
      have hE := Blk.new wr 39 [.int .i64 (a : Int), .int .i64 (b : Int)]
      have r0 := hTA.own.row 0 rfl
      unfold Rw.at_ wrw at r0
      rw [hwl] at r0
      have c0 := own_cell r0 (j := b) (u := .int .i64 (U : Int)) (by
        show (List.map _ _)[b]? = _
        rw [List.getElem?_map, show (Gr.wl N (es.take k))[b]? = some (U : Int) by rw [hU]; exact Gr.map_get _ _ _ hb]
        rfl)
      obtain ⟨v, hv⟩ : ∃ v, vs[a]? = some v := ⟨_, List.getElem?_eq_getElem (by omega)⟩
      have hnx : (Gr.nl N (es.take k))[a]? = some (Gr.next (es.take k) a) := Gr.map_get _ _ _ ha
      have hnl : (Gr.next (es.take k) a).length ≤ 1099511627776 := by
        have := List.length_filter_le (fun e : Gr.Ed => e.1 == a) (es.take k)
        rw [List.length_take] at this
        unfold Gr.next
        rw [List.length_map]
        omega
      obtain ⟨nx, hnxq⟩ : ∃ nx, nx = Gr.next (es.take k) a := ⟨_, rfl⟩
      rw [← hnxq] at hnx hn1 hnl
      clear hnxq
      have hvne : v.ownBlock ≠ some wr.heap.size := fun e => by
        have := ((hOk.own.row (a + 1) (tkR_get _ _ _ _ a v nx hv hnx)).lt _ e).2
        omega
      have HX := Lib.hid (And.intro hw1 (And.intro hn1 (And.intro hwl (And.intro hv hnx))))
      clear hv hnx
      have HO := Lib.hid hO
      have hlw : Q + 1 + 1 < wr.heap.size := Nat.lt_of_lt_of_le hQ2 hOk.kp.size
      clear hOk htk hw1 hn1 hx gx g1 g2 hcc hcell e2 hA hO hwl hU hbw
      go_upto_region 6 with (fail)
      have hb5 : Below wr.heap.size wr (wr.alloc (.cells #[.int .i64 (a : Int), .int .i64 (b : Int)] 39)) := below_alloc (Below.refl _ _) _
      generalize (wr.alloc (.cells #[.int .i64 (a : Int), .int .i64 (b : Int)] 39)) = W5 at hTA hE r0 c0 hb5 ⊢
      have e0 : W5.cell? ⟨wr.heap.size, 0, none⟩ = some (.int .i64 (a : Int)) := (hE.cell 0).trans rfl
      have e1 : W5.cell? ⟨wr.heap.size, 1, none⟩ = some (.int .i64 (b : Int)) := (hE.cell 1).trans rfl
      clear d0 d1
      have f0 := row_frozen r0 b
      have hr6 := row_set r0 b (.int .i64 ((U : Int) + 1))
      have hg6 := grown_setCell W5 (Q + 1) b (.int .i64 ((U : Int) + 1))
      go_wp2_with fail
      obtain ⟨w6, hw6⟩ : ∃ w6, w6 = W5.setCell ⟨Q + 1, b, none⟩ (.int .i64 ((U : Int) + 1)) := ⟨_, rfl⟩
      rw [← hw6] at hr6 hg6 ⊢
      clear hw6 c0 f0
      have hT6 : OwnTo (Q + 1) w2 (Tw (Q + 1 + 1) (tkR (.slice (some ⟨Q + 1, 0, none⟩) N N) (Gr.wl N []) (List.replicate N (.slice none 0 0)) (Gr.nl N []))) w6 (Q + 1 + 1) 26 vs (tkR (.slice (some ⟨Q + 1, 0, none⟩) N N) (Gr.wl N (es.take (k + 1))) vs (Gr.nl N (es.take k))) := by
        rw [← ints_set, ← HX.out.1] at hr6
        have hl1 : (Gr.wl N (es.take (k + 1))).length = N := by simp [Gr.wl]
        have h1 : W5.grownBy w6 (wrw (.slice (some ⟨Q + 1, 0, none⟩) N N) (Gr.wl N (es.take k))).v.ownBlock := hg6
        have hp := (hTA.own.put (i := 0) rfl (v' := .slice (some ⟨Q + 1, 0, none⟩) N N) (n' := N) hr6 h1 (.inl rfl)).1
        have := hTA.step (hTA.own.put_to (i := 0) rfl (v' := .slice (some ⟨Q + 1, 0, none⟩) N N) (n' := N) hr6 h1 (.inl rfl) hp (World.grownBy.refl w6 _))
        have e : (tkR (.slice (some ⟨Q + 1, 0, none⟩) N N) (Gr.wl N (es.take k)) vs (Gr.nl N (es.take k))).set 0 ⟨3, 1, .slice (some ⟨Q + 1, 0, none⟩) N N, N, ints .i64 (Gr.wl N (es.take (k + 1)))⟩ = tkR (.slice (some ⟨Q + 1, 0, none⟩) N N) (Gr.wl N (es.take (k + 1))) vs (Gr.nl N (es.take k)) := by
          show _ = wrw _ _ :: _
          unfold wrw
          rw [hl1]
          rfl
        exact e ▸ this
      have hE6 := hE.grown hg6 (by intro e; injection e with e; omega)
      clear hTA r0 hr6 hg6 hE e0 e1
      have hget := tkR_get (.slice (some ⟨Q + 1, 0, none⟩) N N) (Gr.wl N (es.take (k + 1))) vs (Gr.nl N (es.take k)) a v nx HX.out.2.2.2.1 HX.out.2.2.2.2
      have rv : w6.ownsRow (Q + 1) 3 1 v nx.length (ilist nx) := hT6.own.row (a + 1) hget
      have hng : v.ownBlock ≠ some (Q + 1 + 1) := hT6.own.ng _ (List.mem_of_getElem? hget)
      obtain ⟨VB, cb, rfl, -, -⟩ := own_slice rv
      have hR : ∀ w', Below w6.heap.size w6 w' → w'.ownsRow (Q + 1) 3 1 (.slice VB nx.length cb) nx.length (ilist nx) ∧ Q + 1 ≤ w'.heap.size := fun w' hb => ⟨(hT6.own.later hb).row (a + 1) hget, (hT6.own.later hb).base⟩
      have keepS : ∀ w', Keeps (fun k => (Value.slice VB nx.length cb).ownBlock = some k) w6 w' → Keeps (fun k => (Value.slice VB nx.length cb).ownBlock = some k) w6 w' ∧ w'.cell? ⟨Q + 1 + 1, a, none⟩ = some (.slice VB nx.length cb) ∧ w'.cell? ⟨wr.heap.size, 0, none⟩ = some (.int .i64 (a : Int)) ∧ w'.cell? ⟨wr.heap.size, 1, none⟩ = some (.int .i64 (b : Int)) := fun w' k =>
        ⟨k, ((hT6.own.blk.keeps k hng).cell a).trans HX.out.2.2.2.1, ((hE6.keeps k hvne).cell 0).trans rfl, ((hE6.keeps k hvne).cell 1).trans rfl⟩
      have hS1 := keepS _ ((Keeps.refl _ w6).drewN 1)
      have hn63 : nx.length + 1 ≤ maxLen := by unfold maxLen; omega
      have hn47 : (nx.length + 1) * 8 ≤ 140737488355328 := by omega
      have HT := Lib.hid (And.intro hT6 hget)
      clear hT6 rv hE6 hget hng hvne
      refine wp_walk_mt 13 (fun i => ([11] : List Nat).contains i) (fun i => ([0,1,2,12] : List Nat).contains i) [11] (by intro m h; simpa using h) (by kernel_rfl) (by kernel_rfl) (by kernel_rfl) (fun w w' => Below w.heap.size w w')  (fun w' => Keeps (fun k => (Value.slice VB nx.length cb).ownBlock = some k) w6 w' ∧ w'.cell? ⟨Q + 1 + 1, a, none⟩ = some (.slice VB nx.length cb) ∧ w'.cell? ⟨wr.heap.size, 0, none⟩ = some (.int .i64 (a : Int)) ∧ w'.cell? ⟨wr.heap.size, 1, none⟩ = some (.int .i64 (b : Int))) (fun w' => Below w6.heap.size w6 w') hS1 (below_drew (Below.refl _ _)) (fun _ _ h h' => below_next h' h) ?_
      simp only [List.length_cons, List.length_nil, Nat.reduceAdd, Nat.reduceSub, List.take_succ_cons, List.take_zero, List.drop_succ_cons, List.drop_zero]
      repeat (first | (refine nsettle_skip (by rfl) (fun _ => by rfl) ?_; (simp only [Act.put, List.setIfInBounds_toArray, List.set_cons_zero, List.set_cons_succ])) | (refine' nsettle_run (by rfl) (fun _ _ => Below.refl _ _) (fun _ => by rfl) ?_ ?_; rotate_left; (focus (intro ρ w hS hF hP; (try dsimp only at hS); go_split_ands; go_simp; try with_reducible rfl)); (simp only [Act.put, List.setIfInBounds_toArray, List.set_cons_zero, List.set_cons_succ])))
      (refine nsettle_known (FSl 1 1 [.int .i64 (b : Int)]) (by rfl) (by rfl) (by rfl) (fun _ => by rfl)  ?_ ?_; (focus (intro ρ w hS hF hP K hK; (simp only [Act.put, List.setIfInBounds_toArray, List.set_cons_zero, List.set_cons_succ] at hK); go_simp; exact hK _ _ (SlV.lit w [.int .i64 (b : Int)] 3 1 1 rfl (by decide)) (keepS _ (hS.1.alloc _)) (below_alloc (Below.refl _ _) _))); (simp only [Act.put, List.setIfInBounds_toArray, List.set_cons_zero, List.set_cons_succ]))
      (refine nsettle_mark (FPush w6 (Q + 1) 3 1 (.slice VB nx.length cb) (nx.length + 1) (ilist nx ++ [.int .i64 (b : Int)])) (by rfl) (by rfl) (by rfl) (fun _ => by rfl) ?_ ?_; (focus (intro ρ w hS hF hP K hK; refine oper_append (.tmp 41) (.tmp 44) (Q + 1) _ _ _ _ _ Tryd.underlying26 info_int rfl (by decide) (hR w (hP (by rfl))).1 (hF.1 (by rfl)) (by simp [Value.oneCell']) hn63 hn47 (hR w (hP (by rfl))).2 rfl rfl rfl ?_; intro v' w' hown hg hv _; exact hK v' w' ⟨w, hP (by rfl), hg, hown, hv.imp id fun e => ⟨_, Nat.le_refl _, e⟩⟩ (keepS _ (hS.1.trans ((Keeps.of_grown hg).mono fun i hi => hi.symm))))); (simp only [Act.put, List.setIfInBounds_toArray, List.set_cons_zero, List.set_cons_succ]))
      repeat (first | (refine nsettle_skip (by rfl) (fun _ => by rfl) ?_; (simp only [Act.put, List.setIfInBounds_toArray, List.set_cons_zero, List.set_cons_succ])) | (refine' nsettle_run (by rfl) (fun _ _ => Below.refl _ _) (fun _ => by rfl) ?_ ?_; rotate_left; (focus (intro ρ w hS hF hP; (try dsimp only at hS); go_split_ands; go_simp; try with_reducible rfl)); (simp only [Act.put, List.setIfInBounds_toArray, List.set_cons_zero, List.set_cons_succ])))
      refine nsettle_nil ?_
      intro ρ w7 hS hF
      obtain ⟨wa, ha1, ha2, ha3, ha4⟩ := hF 45 (FPush w6 (Q + 1) 3 1 (.slice VB nx.length cb) (nx.length + 1) (ilist nx ++ [.int .i64 (b : Int)])) (by repeat (first | exact List.mem_cons_self | apply List.mem_cons_of_mem))
      clear hF hS hS1 keepS hR
      dsimp only
      generalize ρ 44 = v44
      generalize ρ 45 = v4 at ha3 ha4 ⊢
      have hx4 : wa.grownBy w7 (irw (.slice VB nx.length cb) nx).v.ownBlock := ha2
      have ho4 : w7.ownsRow (Q + 1) 3 1 v4 (nx ++ [b]).length (ilist (nx ++ [b])) := by simpa [ilist, ints] using ha3
      have hB4 := ((HT.out.1.own.later ha1).put (i := a + 1) HT.out.2 ho4 hx4 ha4).1
      have hend : ∀ w8, Blk w8 (Q + 1 + 1) 26 (vs.set a v4) → w7.grownBy w8 (some (Q + 1 + 1)) → OwnTo (Q + 1) w2 (Tw (Q + 1 + 1) (tkR (.slice (some ⟨Q + 1, 0, none⟩) N N) (Gr.wl N []) (List.replicate N (.slice none 0 0)) (Gr.nl N []))) w8 (Q + 1 + 1) 26 (vs.set a v4) (tkR (.slice (some ⟨Q + 1, 0, none⟩) N N) (Gr.wl N (es.take (k + 1))) (vs.set a v4) (Gr.nl N (es.take (k + 1)))) := fun w8 b8 g8 => by
        have := (HT.out.1.later ha1).step ((HT.out.1.own.later ha1).put_to (i := a + 1) HT.out.2 ho4 hx4 ha4 b8 g8)
        have e := tkR_i (.slice (some ⟨Q + 1, 0, none⟩) N N) (Gr.wl N (es.take (k + 1))) vs (Gr.nl N (es.take k)) a v4 (nx ++ [b])
        rw [← HX.out.2.1] at e
        exact e ▸ this
      obtain ⟨V4, c4, rfl, -, -⟩ := own_slice ha3
      clear ha1 ha2 ha3 ha4 hx4 ho4
      have hva : a < vs.length := by omega
      refine wpl_set_blk hB4 a _ (by kernel_rfl) hva rfl rfl rfl rfl rfl rfl ?_
      intro w8 hB8 hg8
      have T8 := hend w8 hB8 hg8
      have HT8 := Lib.hid T8
      clear hB4 hB8 hg8 hend T8 HT
      go_wp2_with fail
      go_roundw
      case rel => exact ⟨k + 1, _, by omega, by go_num, by simpa using hvl, HT8.out⟩
      case measure => simp [intOf]; omega
    · obtain rfl : k = es.length := by omega
      rw [List.take_length] at hOk
      clear hA
      go_wp2_with fail
      obtain ⟨wz, rfl⟩ : ∃ wz : World, wz = wr := ⟨_, rfl⟩
      have hwl : (Gr.wl N es).length = N := by simp [Gr.wl]
      have r0 := hOk.own.row 0 rfl
      unfold Rw.at_ wrw at r0
      rw [hwl] at r0
      have hcz : ∀ m, m < N → ∀ w', Below wz.heap.size wz w' → w'.cell? ⟨Q + 1, m, none⟩ = some (.int .i64 ((Gr.wt es [] m : Nat) : Int)) := fun m hm w' hb => by
        have c0 := own_cell r0 (j := m) (u := .int .i64 ((Gr.wt es [] m : Nat) : Int)) (by
          show (List.map _ _)[m]? = _
          rw [List.getElem?_map, show (Gr.wl N es)[m]? = some ((Gr.wt es [] m : Nat) : Int) from Gr.map_get _ _ _ hm]
          rfl)
        exact (hb.cell (p := ⟨Q + 1, m, none⟩) (r0.lt _ rfl).2).trans c0
      have HR := Lib.hid (And.intro r0 hwl)
      clear r0 hwl
      go_loopw [8, 50] (fun u i wr => ∃ (k : Nat) (s : List Nat), k ≤ N ∧ i = .int .i64 (k : Int) ∧ SlU wr u s ∧ New wz.heap.size u ∧ Gr.R0 N es k s ∧ Below wz.heap.size wz wr) (fun _ i _ => N - (intOf i).toNat)
      case atStart => exact ⟨0, [], Nat.zero_le _, rfl, SlU.nil _, New.nil _ _ _, Gr.R0.zero _ _, Below.refl _ _⟩
      case round =>
        obtain ⟨k, s, hk, rfl, hu, hnw, hs, hbz⟩ := hrel
        by_cases hlt : k < N
        · have c0 := hcz k hlt _ hbz
          obtain ⟨U, hU⟩ : ∃ U, U = Gr.wt es [] k := ⟨_, rfl⟩
          rw [← hU] at c0
          have HU := Lib.hid hU
          obtain ⟨A8, c8, rfl⟩ := slU_form hu
          by_cases h0 : U = 0
          · subst h0
            have hadd := put_new wr _ s k hu (by omega) (Nat.le_trans hs.length (by omega))
            have HS := Lib.hid (And.intro (hs.add hlt HU.out.symm) hbz)
            clear hU hu hnw hs hcz hbz
            go_wp2_with fail
            refine hadd.mono ?_
            rintro e w5 ⟨u, rfl, ⟨hu5, hn5⟩, hb5⟩
            obtain ⟨A9, c9, rfl⟩ := slU_form hu5
            have H5 := Lib.hid (And.intro hu5 (And.intro (hn5.mono HS.out.2.size) (below_next hb5 HS.out.2)))
            clear hu5 hn5 hb5 hadd c0
            go_wp2_with fail
            go_roundw
            case rel => exact ⟨k + 1, _, by omega, by go_num, H5.out.1, H5.out.2.1, HS.out.1, H5.out.2.2⟩
            case measure => simp [intOf]; omega
          · have g0 : ((U : Int) == 0) = false := by simp; omega
            have HS := Lib.hid (And.intro (hs.stay (by rw [← HU.out]; exact h0)) (And.intro hu (And.intro hnw hbz)))
            clear hU hu hnw hs hcz hbz h0
            go_wp2_with fail
            go_roundw
            case rel => exact ⟨k + 1, _, by omega, by go_num, HS.out.2.1, HS.out.2.2.1, HS.out.1, HS.out.2.2.2⟩
            case measure => simp [intOf]; omega
        · obtain rfl : N = k := by omega
          have hrs := hs.rs
          have hO3 := hOk.later hbz
          obtain ⟨A8, c8, rfl⟩ := slU_form hu
          clear hcz
          go_wp2_with fail
          have hO4 := hO3.cons_nil
          have hfar : FarU (Tw (Q + 1 + 1) (irw (.slice none 0 0) [] :: tkR (.slice (some ⟨Q + 1, 0, none⟩) N N) (Gr.wl N es) vs (Gr.nl N es))) (.slice A8 s.length c8) s := by
            refine FarU.new hnw fun k hk => ?_
            rcases hk with rfl | ⟨r, hr, hk⟩
            · exact hOk.own.blk.lt
            · rcases List.mem_cons.1 hr with rfl | hr
              · simp [irw, Value.ownBlock] at hk
              · exact hOk.own.lt (.inr ⟨r, hr, hk⟩)
          obtain ⟨wy, rfl⟩ : ∃ wy : World, wy = wr := ⟨_, rfl⟩
          clear hnw hO3 hOk hs
          go_loopw [7, 8] (fun u7 u8 wr => ∃ (out s : List Nat), Gr.Good N es out ∧ Gr.Rs N es out s ∧ SlU wr u8 s ∧ FarU (Tw (Q + 1 + 1) (irw u7 out :: tkR (.slice (some ⟨Q + 1, 0, none⟩) N N) (wo N es out) vs (Gr.nl N es))) u8 s ∧ OwnTo (Q + 1) w2 (Tw (Q + 1 + 1) (tkR (.slice (some ⟨Q + 1, 0, none⟩) N N) (Gr.wl N []) (List.replicate N (.slice none 0 0)) (Gr.nl N []))) wr (Q + 1 + 1) 26 vs (irw u7 out :: tkR (.slice (some ⟨Q + 1, 0, none⟩) N N) (wo N es out) vs (Gr.nl N es)) ∧ Gr.run N es (N - out.length) out = Gr.take N es) (fun u7 _ _ => N - slLen u7)
          case atStart => exact ⟨[], s, Gr.Good.nil N es, hrs, hu, hfar, hO4, rfl⟩
          case round =>
            clear hu hfar hO4 hrs hbz
            obtain ⟨out, s, hgd, hrs, hu, hfar, hOo, hrun⟩ := hrel
            have hbo := HK.out _ _ _ hOo
            obtain ⟨A8, c8, rfl⟩ := slU_form hu
            by_cases h0 : s = []
            · have hnone := hrs.none h0
              rw [Gr.run_end hnone] at hrun
              have ro : wr.ownsRow (Q + 1) 3 1 u7 out.length (ilist out) := hOo.own.row 0 rfl
              subst h0
              obtain ⟨A7, c7, rfl, -, -⟩ := own_slice ro
              have HE := Lib.hid (And.intro ro (And.intro hbo hrun))
              clear ro hbo hrun hgd hrs hu hfar hOo hnone
              go_wp2_with fail
              all_goals go_ret
              all_goals exact ⟨_, rfl, by rw [← HE.out.2.2]; exact own_base HE.out.1 (by have := HQ.out; omega), HE.out.2.1⟩
            · obtain ⟨n, r, hls⟩ : ∃ n r, Bs.ls 0 s = n :: r := by
                cases hl : Bs.ls 0 s with
                | nil => exact absurd (Bs.ls_none hrs.toGs hl) h0
                | cons n r => exact ⟨n, r, rfl⟩
              have hnx := hrs.some hls
              have hlt := (Gr.nxt_some hnx).1
              have hno := (Gr.nxt_some hnx).2.1
              have hgd' := hgd.snoc hnx
              have hol : out.length < N := by have := hgd'.length; simp at this; omega
              have hrun' : Gr.run N es (N - (out ++ [n]).length) (out ++ [n]) = Gr.take N es := by
                rw [← hrun]
                obtain ⟨d, hd⟩ : ∃ d, N - out.length = d + 1 := ⟨N - out.length - 1, by omega⟩
                rw [hd, Gr.run_more hnx]
                congr 1
                simp
                omega
              have hj0 := hrs.without hN hnx
              have hsl : s.length ≤ 200 := Nat.le_trans hrs.length hN
              have hTw : Tab wr := fun j hj => (hbo.cell (p := ⟨0, j, none⟩) hT.lt).trans (hT j hj)
              have hfi := first_any wr _ s hu hTw (by omega)
              rw [hls] at hfi
              have hpos : 0 < s.length := List.length_pos_iff.2 h0
              have ro : wr.ownsRow (Q + 1) 3 1 u7 out.length (ilist out) := hOo.own.row 0 rfl
              obtain ⟨A7, c7, rfl, -, -⟩ := own_slice ro
              have HG := Lib.hid (And.intro hgd' (And.intro hrun' (And.intro hj0 (And.intro hnx (And.intro hno hgd)))))
              have HU := Lib.hid (And.intro hu hfar)
              clear hgd' hrun' hj0 hnx hno hgd hrun hrs hls hu hfar hbo hTw h0 ro
              go_wp2_with fail
              refine hfi.mono ?_
              rintro e w5 ⟨⟨r5, rfl, h5⟩, hb5⟩
              obtain rfl : r5 = (n : Int) := h5
              have hO5 := hOo.later hb5
              have hu5 := HU.out.1.below hb5
              clear hfi hOo
              have ro : w5.ownsRow (Q + 1) 3 1 (.slice A7 out.length c7) out.length (ilist out) := hO5.own.row 0 rfl
              have hn63 : out.length + 1 ≤ maxLen := by unfold maxLen; omega
              have hn47 : (out.length + 1) * 8 ≤ 140737488355328 := by omega
              have hbase := hO5.own.base
              have HO5 := Lib.hid (And.intro hO5 (And.intro hu5 hb5))
              clear hO5 hu5 hb5
              go_wp2_with (first | (at_builtin; refine wp_push w5 _ _ (Q + 1) _ _ _ _ _ Tryd.underlying26 info_int rfl (by decide) ro [.int .i64 (n : Int)] rfl (by simp [Value.oneCell']) hn63 hn47 hbase rfl rfl rfl rfl ?_; intro v6 w6 hown6 hg6 hv6 hb6; obtain ⟨V6, c6, rfl, _, _⟩ := own_slice hown6) | fail)
              have hT6 : OwnTo (Q + 1) w2 (Tw (Q + 1 + 1) (tkR (.slice (some ⟨Q + 1, 0, none⟩) N N) (Gr.wl N []) (List.replicate N (.slice none 0 0)) (Gr.nl N []))) w6 (Q + 1 + 1) 26 vs (irw (.slice V6 (out.length + 1) c6) (out ++ [n]) :: tkR (.slice (some ⟨Q + 1, 0, none⟩) N N) (wo N es out) vs (Gr.nl N es)) ∧ (∀ k, Tw (Q + 1 + 1) (irw (.slice V6 (out.length + 1) c6) (out ++ [n]) :: tkR (.slice (some ⟨Q + 1, 0, none⟩) N N) (wo N es out) vs (Gr.nl N es)) k → Tw (Q + 1 + 1) (irw (.slice A7 out.length c7) out :: tkR (.slice (some ⟨Q + 1, 0, none⟩) N N) (wo N es out) vs (Gr.nl N es)) k ∨ w5.heap.size ≤ k) ∧ SlU w6 (.slice A8 s.length c8) s := by
                have hx : w5.grownBy w6 (irw (.slice A7 out.length c7) out).v.ownBlock := hg6
                have ho : w6.ownsRow (Q + 1) 3 1 (.slice V6 (out.length + 1) c6) (out ++ [n]).length (ilist (out ++ [n])) := by simpa [ilist, ints] using hown6
                have hvv : (Value.slice V6 (out.length + 1) c6).ownBlock = (irw (.slice A7 out.length c7) out).v.ownBlock ∨ ∃ k, w5.heap.size ≤ k ∧ (Value.slice V6 (out.length + 1) c6).ownBlock = some k := hv6.imp id fun e => ⟨_, Nat.le_succ _, e⟩
                have hp := (HO5.out.1.own.put (i := 0) rfl ho hx hvv).1
                have ht := HO5.out.1.own.put_to (i := 0) rfl ho hx hvv hp (World.grownBy.refl w6 _)
                have hf : FarU (Tw (Q + 1 + 1) (irw (.slice A7 out.length c7) out :: tkR (.slice (some ⟨Q + 1, 0, none⟩) N N) (wo N es out) vs (Gr.nl N es))) (.slice A8 s.length c8) s := HU.out.2
                exact ⟨HO5.out.1.step ht, ht.nw, HO5.out.2.1.far ht.kp hf⟩
              have hofc := of_any (w6.alloc (.cells #[.int .i64 (n : Int)] 3)) (.slice (some ⟨w6.heap.size, 0, none⟩) 1 1) [(n : Int)] (SlV.lit w6 [.int .i64 (n : Int)] 3 1 1 rfl (by decide))
              refine hofc.mono ?_
              rintro e w7 ⟨u7, rfl, hu7, hb7⟩
              have hb67 := below_next hb7 (below_alloc (Below.refl w6.heap.size w6) (.cells #[.int .i64 (n : Int)] 3))
              have hle7 := less_new w7 _ _ s (Bs.of_ [(n : Int)]) (hT6.2.2.below hb67) hu7 (by omega) (Nat.le_trans (Bs.of_length _) (by decide))
              obtain ⟨A9, c9, rfl⟩ := slU_form hu7
              have H6 := Lib.hid (And.intro hT6 hb67)
              clear hofc hu7 hb7 hb67 hT6 hown6 hg6 hv6 hb6 hbase ro
              go_wp2_with fail
              refine hle7.mono ?_
              rintro e w8 ⟨u8, rfl, ⟨hu8, hn8⟩, hb8⟩
              have e0 : wo N es out = Gr.wj N es out n 0 := (Gr.wj_zero N es out n).symm
              have hO7 := H6.out.1.1.later H6.out.2
              have hfar8 : FarU (Tw (Q + 1 + 1) (irw (.slice V6 (out.length + 1) c6) (out ++ [n]) :: tkR (.slice (some ⟨Q + 1, 0, none⟩) N N) (wo N es out) vs (Gr.nl N es))) u8 (Bs.op Bs.fless s (Bs.of_ [(n : Int)])) := FarU.new hn8 fun k hk => hO7.own.lt hk
              have hO8 := hO7.later hb8
              rw [e0] at hfar8 hO8
              obtain ⟨nx, hnx⟩ : ∃ nx, nx = Gr.next es n := ⟨_, rfl⟩
              have hnl : (Gr.nl N es)[n]? = some nx := by rw [hnx]; exact Gr.map_get _ _ _ hlt
              obtain ⟨vn, hvn⟩ : ∃ v, vs[n]? = some v := ⟨_, List.getElem?_eq_getElem (by omega)⟩
              have hrw : ∀ (o : Value) (l : List Nat) (ws : List Int), (irw o l :: tkR (.slice (some ⟨Q + 1, 0, none⟩) N N) ws vs (Gr.nl N es))[n + 1 + 1]? = some (irw vn nx) := fun o l ws => tkR_get (.slice (some ⟨Q + 1, 0, none⟩) N N) ws vs (Gr.nl N es) n vn nx hvn hnl
              have rn : w8.ownsRow (Q + 1) 3 1 vn nx.length (ilist nx) := hO8.own.row (n + 1 + 1) (hrw _ _ _)
              have c21 : w8.cell? ⟨Q + 1 + 1, n, none⟩ = some vn := (hO8.own.blk.cell n).trans hvn
              obtain ⟨VB, cb, rfl, -, -⟩ := own_slice rn
              obtain ⟨A10, c10, rfl⟩ := slU_form hu8
              have HN := Lib.hid (And.intro hnx (And.intro hnl (And.intro hvn hrw)))
              have H8 := Lib.hid (And.intro hu8 (And.intro hfar8 hO8))
              have hnxl : nx.length ≤ 1099511627776 := by
                rw [hnx]
                unfold Gr.next
                rw [List.length_map]
                exact Nat.le_trans (List.length_filter_le _ _) hle
              clear hu8 hn8 hb8 hle7 e0 hO7 hfar8 hO8 hnx hnl hvn hrw rn
              go_wp2_with fail
              clear c21
              go_loopw [8, 80] (fun u i wr => ∃ (j : Nat) (s : List Nat), j ≤ nx.length ∧ i = .int .i64 (j : Int) ∧ SlU wr u s ∧ FarU (Tw (Q + 1 + 1) (irw (.slice V6 (out.length + 1) c6) (out ++ [n]) :: tkR (.slice (some ⟨Q + 1, 0, none⟩) N N) (Gr.wj N es out n j) vs (Gr.nl N es))) u s ∧ Gr.Rj N es out n j s ∧ OwnTo (Q + 1) w2 (Tw (Q + 1 + 1) (tkR (.slice (some ⟨Q + 1, 0, none⟩) N N) (Gr.wl N []) (List.replicate N (.slice none 0 0)) (Gr.nl N []))) wr (Q + 1 + 1) 26 vs (irw (.slice V6 (out.length + 1) c6) (out ++ [n]) :: tkR (.slice (some ⟨Q + 1, 0, none⟩) N N) (Gr.wj N es out n j) vs (Gr.nl N es))) (fun _ i _ => nx.length - (intOf i).toNat)
              case atStart => exact ⟨0, _, Nat.zero_le _, rfl, H8.out.1, H8.out.2.1, HG.out.2.2.1, H8.out.2.2⟩
              case round =>
                clear H8
                obtain ⟨j, s, hj, rfl, hu, hfar, hrj, hO9⟩ := hrel
                by_cases hjl : j < nx.length
                · obtain ⟨m, hm⟩ : ∃ m, nx[j]? = some m := ⟨_, List.getElem?_eq_getElem hjl⟩
                  have hm' : (Gr.next es n)[j]? = some m := by rw [← HN.out.1]; exact hm
                  have hmN : m < N := (HES.out _ (Gr.mem_next.1 (List.mem_of_getElem? hm'))).2
                  have rn : wr.ownsRow (Q + 1) 3 1 (.slice VB nx.length cb) nx.length (ilist nx) := hO9.own.row (n + 1 + 1) (HN.out.2.2.2 _ _ _)
                  have gm : (ilist nx)[j]? = some (.int .i64 (m : Int)) := by
                    show (List.map _ (List.map _ _))[j]? = _
                    rw [List.getElem?_map, List.getElem?_map, hm]
                    rfl
                  obtain ⟨gb, go, hVB, hgl, hgc⟩ := (Cells.of_own rn).at_ (fun e => by rw [e] at gm; simp at gm)
                  have c1 := hgc _ _ gm
                  subst hVB
                  have hwl : (Gr.wj N es out n j).length = N := by simp [Gr.wj]
                  have r0 := hO9.own.row 1 rfl
                  unfold Rw.at_ wrw at r0
                  rw [hwl] at r0
                  obtain ⟨X, hX⟩ : ∃ X : Int, X = ((Gr.wt es out m : Nat) : Int) - ((((Gr.next es n).take j).count m : Nat) : Int) := ⟨_, rfl⟩
                  have c0 := own_cell r0 (j := m) (u := .int .i64 X) (by
                    show (List.map _ _)[m]? = _
                    rw [List.getElem?_map, Gr.wj_get hmN, hX]
                    rfl)
                  have hX0 : 0 ≤ X := by
                    have h1 := Gr.count_le HG.out.2.2.2.2.1 es m
                    have h2 : ((Gr.next es n).take j).count m ≤ (Gr.next es n).count m := List.Sublist.count_le m (List.take_sublist _ _)
                    omega
                  have hX1 : X ≤ 1099511627776 := by
                    have := Gr.wt_le es out m
                    omega
                  have f0 := row_frozen r0 m
                  have hr9 := row_set r0 m (.int .i64 (X - 1))
                  have hg9 := grown_setCell wr (Q + 1) m (.int .i64 (X - 1))
                  have H9 := Lib.hid (And.intro hu (And.intro hfar (And.intro hrj (And.intro hO9 (And.intro hX hm')))))
                  have hsl9 : s.length ≤ 200 := Nat.le_trans hrj.length hN
                  obtain ⟨A11, c11, rfl⟩ := slU_form hu
                  clear hu hfar hrj hO9 hX hm hm' gm hgc rn r0 hwl
                  go_upto_region 25 with (fail)
                  obtain ⟨w9, hw9⟩ : ∃ w9, w9 = wr.setCell ⟨Q + 1, m, none⟩ (.int .i64 (X - 1)) := ⟨_, rfl⟩
                  rw [← hw9] at hr9 hg9 ⊢
                  have hws : Gr.wj N es out n (j + 1) = (Gr.wj N es out n j).set m (X - 1) := by rw [Gr.wj_step H9.out.2.2.2.2.2, H9.out.2.2.2.2.1]
                  have c2 := own_cell hr9 (j := m) (u := .int .i64 (X - 1)) (List.getElem?_set_self (by rw [ints_length]; simp [Gr.wj]; exact hmN))
                  have hT9 : OwnTo (Q + 1) w2 (Tw (Q + 1 + 1) (tkR (.slice (some ⟨Q + 1, 0, none⟩) N N) (Gr.wl N []) (List.replicate N (.slice none 0 0)) (Gr.nl N []))) w9 (Q + 1 + 1) 26 vs (irw (.slice V6 (out.length + 1) c6) (out ++ [n]) :: tkR (.slice (some ⟨Q + 1, 0, none⟩) N N) (Gr.wj N es out n (j + 1)) vs (Gr.nl N es)) ∧ SlU w9 (.slice A11 s.length c11) s ∧ FarU (Tw (Q + 1 + 1) (irw (.slice V6 (out.length + 1) c6) (out ++ [n]) :: tkR (.slice (some ⟨Q + 1, 0, none⟩) N N) (Gr.wj N es out n (j + 1)) vs (Gr.nl N es))) (.slice A11 s.length c11) s := by
                    rw [← ints_set, ← hws] at hr9
                    have hl1 : (Gr.wj N es out n (j + 1)).length = N := by simp [Gr.wj]
                    have h1 : wr.grownBy w9 (wrw (.slice (some ⟨Q + 1, 0, none⟩) N N) (Gr.wj N es out n j)).v.ownBlock := hg9
                    have hO := H9.out.2.2.2.1
                    have hp := (hO.own.put (i := 1) rfl (v' := .slice (some ⟨Q + 1, 0, none⟩) N N) (n' := N) hr9 h1 (.inl rfl)).1
                    have ht := hO.own.put_to (i := 1) rfl (v' := .slice (some ⟨Q + 1, 0, none⟩) N N) (n' := N) hr9 h1 (.inl rfl) hp (World.grownBy.refl w9 _)
                    have e : (irw (.slice V6 (out.length + 1) c6) (out ++ [n]) :: tkR (.slice (some ⟨Q + 1, 0, none⟩) N N) (Gr.wj N es out n j) vs (Gr.nl N es)).set 1 ⟨3, 1, .slice (some ⟨Q + 1, 0, none⟩) N N, N, ints .i64 (Gr.wj N es out n (j + 1))⟩ = (irw (.slice V6 (out.length + 1) c6) (out ++ [n]) :: tkR (.slice (some ⟨Q + 1, 0, none⟩) N N) (Gr.wj N es out n (j + 1)) vs (Gr.nl N es)) := by
                      show _ = irw _ _ :: wrw _ _ :: _
                      unfold wrw
                      rw [hl1]
                      rfl
                    have ht' : OwnTo (Q + 1) wr (Tw (Q + 1 + 1) (irw (.slice V6 (out.length + 1) c6) (out ++ [n]) :: tkR (.slice (some ⟨Q + 1, 0, none⟩) N N) (Gr.wj N es out n j) vs (Gr.nl N es))) w9 (Q + 1 + 1) 26 vs (irw (.slice V6 (out.length + 1) c6) (out ++ [n]) :: tkR (.slice (some ⟨Q + 1, 0, none⟩) N N) (Gr.wj N es out n (j + 1)) vs (Gr.nl N es)) := e ▸ ht
                    exact ⟨hO.step ht', H9.out.1.far ht'.kp H9.out.2.1, H9.out.2.1.step H9.out.1 ht'.nw⟩
                  clear hr9 hg9 hw9 c0 c1 f0 hws
                  generalize hY : X - 1 = Y at c2 ⊢
                  have HY := Lib.hid hY
                  have HT9 := Lib.hid hT9
                  clear hY hX0 hX1 hT9
                  by_cases hy : Y = 0
                  · subst hy
                    have hadd := put_new w9 _ s m HT9.out.2.1 (by omega) (by omega)
                    go_wp2_with fail
                    refine hadd.mono ?_
                    rintro e w10 ⟨u10, rfl, ⟨hu10, hn10⟩, hb10⟩
                    have hrj' := H9.out.2.2.1.add HG.out.2.2.2.2.2 (fun e he => (HES.out e he).2) HG.out.2.2.2.1 H9.out.2.2.2.2.2 (by have := H9.out.2.2.2.2.1; have := HY.out; omega)
                    have hO10 := HT9.out.1.later hb10
                    have hf10 : FarU (Tw (Q + 1 + 1) (irw (.slice V6 (out.length + 1) c6) (out ++ [n]) :: tkR (.slice (some ⟨Q + 1, 0, none⟩) N N) (Gr.wj N es out n (j + 1)) vs (Gr.nl N es))) u10 (Bs.put s m) := FarU.new hn10 fun k hk => HT9.out.1.own.lt hk
                    obtain ⟨A12, c12, rfl⟩ := slU_form hu10
                    have HF := Lib.hid (And.intro hu10 (And.intro hf10 (And.intro hrj' hO10)))
                    clear hu10 hn10 hb10 hadd hrj' hO10 hf10 c2
                    go_wp2_with fail
                    go_roundw
                    case rel => exact ⟨j + 1, _, by omega, by go_num, HF.out.1, HF.out.2.1, HF.out.2.2.1, HF.out.2.2.2⟩
                    case measure => simp [intOf]; omega
                  · have gy : (Y == 0) = false := by simpa using hy
                    have hrj' := H9.out.2.2.1.stay HG.out.2.2.2.2.2 (fun e he => (HES.out e he).2) HG.out.2.2.2.1 H9.out.2.2.2.2.2 (fun h => hy (by have := H9.out.2.2.2.2.1; have := HY.out; omega))
                    have HF := Lib.hid hrj'
                    clear hrj' hy
                    go_wp2_with fail
                    go_roundw
                    case rel => exact ⟨j + 1, _, by omega, by go_num, HT9.out.2.1, HT9.out.2.2, HF.out, HT9.out.1⟩
                    case measure => simp [intOf]; omega
                · obtain rfl : j = nx.length := by omega
                  have hnn : nx.length = (Gr.next es n).length := by rw [HN.out.1]
                  rw [hnn] at hrj hfar hO9
                  have e1 : Gr.wj N es out n (Gr.next es n).length = wo N es (out ++ [n]) := Gr.wj_full HG.out.2.2.2.2.1
                  rw [e1] at hfar hO9
                  obtain ⟨A12, c12, rfl⟩ := slU_form hu
                  have HF := Lib.hid (And.intro hu (And.intro hfar (And.intro (hrj.full HG.out.2.2.2.2.1) hO9)))
                  clear hu hfar hrj hO9 e1 hnn
                  go_wp2_with fail
                  go_roundw
                  case rel => exact ⟨out ++ [n], _, HG.out.1, HF.out.2.2.1, HF.out.1, HF.out.2.1, HF.out.2.2.2, HG.out.2.1⟩
                  case measure => simp [slLen]; omega
end Go.Proofs.YtfjmhmfkhgjnhaaDoor


namespace Go.Proofs.YtfjmhmfkhgjnhaaDoor
set_option linter.unusedVariables false
set_option linter.unusedSimpArgs false
set_option maxRecDepth 100000
open Go.RowKit

namespace Gr
abbrev Er := Int × Int
def okE (n : Int) (e : Er) : Bool := !(decide (e.1 < 0) || decide (e.2 < 0) || decide (n ≤ e.1) || decide (n ≤ e.2))
def okG (n : Int) (es : List Er) : Bool := !(decide (n < 0)) && !(decide (200 < n)) && es.all (okE n)
def nat (es : List Er) : List Ed := es.map fun e => (e.1.toNat, e.2.toNat)
/-- what is wrong with a graph -/
def wrong (n : Int) (es : List Er) : Int := if okG n es then (if (take n.toNat (nat es)).length < n.toNat then 3 else 0) else 2
theorem okG_iff {n : Int} {es : List Er} : okG n es = true ↔ 0 ≤ n ∧ n ≤ 200 ∧ ∀ e ∈ es, 0 ≤ e.1 ∧ 0 ≤ e.2 ∧ e.1 < n ∧ e.2 < n := by
  unfold okG
  rw [Bool.and_eq_true, Bool.and_eq_true, List.all_eq_true]
  simp only [okE, Bool.not_eq_true', Bool.or_eq_false_iff, decide_eq_false_iff_not]
  constructor
  · rintro ⟨⟨a, b⟩, c⟩
    exact ⟨by omega, by omega, fun e he => by have := c e he; omega⟩
  · rintro ⟨a, b, c⟩
    exact ⟨⟨by omega, by omega⟩, fun e he => by have := c e he; omega⟩
theorem nat_ok {n : Int} {es : List Er} (h : okG n es = true) : ∃ N : Nat, n = (N : Int) ∧ N ≤ 200 ∧ (∀ e ∈ nat es, e.1 < N ∧ e.2 < N) ∧ (nat es).length = es.length ∧ es.map (fun e => ((e.1 : Int), (e.2 : Int))) = (nat es).map fun e => ((e.1 : Int), (e.2 : Int)) := by
  obtain ⟨a, b, c⟩ := okG_iff.1 h
  obtain ⟨N, rfl⟩ := Int.eq_ofNat_of_zero_le a
  refine ⟨N, rfl, by omega, fun e he => ?_, by simp [nat], ?_⟩
  · obtain ⟨x, hx, rfl⟩ := List.mem_map.1 he
    have := c x hx
    exact ⟨by show x.1.toNat < N; omega, by show x.2.toNat < N; omega⟩
  · unfold nat
    rw [List.map_map]
    refine List.map_congr_left fun e he => ?_
    have := c e he
    show (e.1, e.2) = (((e.1.toNat : Nat) : Int), ((e.2.toNat : Nat) : Int))
    rw [Int.toNat_of_nonneg this.1, Int.toNat_of_nonneg this.2.1]
end Gr
def erc (e : Gr.Er) : List Value := [.int .i64 e.1, .int .i64 e.2]
def ercs (l : List Gr.Er) : List Value := l.flatMap erc
theorem ercs_nat {n : Int} {es : List Gr.Er} (h : Gr.okG n es = true) : ercs es = edcs (Gr.nat es) := by
  obtain ⟨_, _, c⟩ := Gr.okG_iff.1 h
  unfold ercs edcs Gr.nat
  rw [List.flatMap_map, List.flatMap_def, List.flatMap_def]
  congr 1
  refine List.map_congr_left fun e he => ?_
  have := c e he
  show [Value.int .i64 e.1, .int .i64 e.2] = [.int .i64 ((e.1.toNat : Nat) : Int), .int .i64 ((e.2.toNat : Nat) : Int)]
  rw [Int.toNat_of_nonneg this.1, Int.toNat_of_nonneg this.2.1]

def FTk (base : Nat) (l : List Nat) : Fact (fun w w' => Below w.heap.size w w') := ⟨fun v w => w.ownsRow base 3 1 v l.length (ilist l), fun _ _ _ h k => own_keeps h (Keeps.of_below k (fun _ => False)) (fun _ _ => id)⟩

set_option maxHeartbeats 4000000 in
theorem wrong_any (n : Int) (es : List Gr.Er) (w : World) (A : Option Addr) (c : Nat) (hA : SlV w 2 (.slice A es.length c) es.length (ercs es)) (hle : es.length ≤ 1099511627776) (hT : Tab w) :
    Calls Tryd.prog 29 #[.agg #[.int .i64 n, .slice A es.length c]] w fun e w' => e = .returned (.int .i64 (Gr.wrong n es)) ∧ Below w.heap.size w w' := by
  have x0 := Blk.new w 24 [.int .i64 n, .slice A es.length c]
  have hb0 : Below w.heap.size w (w.alloc (.cells #[.int .i64 n, .slice A es.length c] 24)) := below_alloc (Below.refl _ _) _
  obtain ⟨R, hR⟩ : ∃ R, R = Gr.wrong n es := ⟨_, rfl⟩
  rw [← hR]
  have HR := Lib.hid hR
  clear hR
  rcases h1 : decide (n < 0) with _ | _
  · rcases h2 : decide (200 < n) with _ | _
    · go_enter Tryd.func29, Tryd.ntmps29
      go_upto_region 3 with (fail)
      generalize (w.alloc (.cells #[.int .i64 n, .slice A es.length c] 24)) = W0 at x0 hb0 ⊢
      have d0 : W0.cell? ⟨w.heap.size, 0, none⟩ = some (.int .i64 n) := (x0.cell 0).trans rfl
      have d1 : W0.cell? ⟨w.heap.size, 1, none⟩ = some (.slice A es.length c) := (x0.cell 1).trans rfl
      go_wp2_with fail
      clear d0 d1
      go_loopw [16] (fun i wr => ∃ k : Nat, k ≤ es.length ∧ i = .int .i64 (k : Int) ∧ (∀ e ∈ es.take k, Gr.okE n e = true) ∧ Below W0.heap.size W0 wr) (fun i _ => es.length - (intOf i).toNat)
      case atStart => exact ⟨0, Nat.zero_le _, rfl, by simp, Below.refl _ _⟩
      case round =>
        obtain ⟨k, hk, rfl, hok, hb⟩ := hrel
        have hbw := below_next hb hb0
        have x1 := x0.below hb
        by_cases hlt : k < es.length
        · obtain ⟨⟨a, b⟩, hx⟩ : ∃ x, es[k]? = some x := ⟨_, List.getElem?_eq_getElem hlt⟩
          have gx := flat_get erc 2 (fun _ => rfl) es k
          have g1 := gx 0 _ hx (by omega)
          have g2 := gx 1 _ hx (by omega)
          obtain ⟨A', c', he, -, -, -, hcc⟩ := hA.below hbw
          injection he with e1 e2 e3
          subst e1 e3
          obtain ⟨g, o, rfl, hgl, hcell⟩ := hcc.at_ (fun e => by rw [show List.flatMap erc es = ercs es from rfl, e] at g1; simp [erc] at g1)
          have d0 : wr.cell? ⟨g, o + k * 2, none⟩ = some (.int .i64 a) := (hcell _ _ g1).trans rfl
          have d1 : wr.cell? ⟨g, o + k * 2 + 1, none⟩ = some (.int .i64 b) := by rw [Nat.add_assoc]; exact hcell _ _ g2
          have htk := Gr.take_snoc hx
          have hbad : Gr.okE n (a, b) = false → R = 2 := fun hf => by
            rw [HR.out]
            unfold Gr.wrong
            have : Gr.okG n es = false := by
              unfold Gr.okG
              rw [List.all_eq_false.2 ⟨_, List.mem_of_getElem? hx, by rw [hf]; simp⟩, Bool.and_false]
            rw [this]
            rfl
          have hgood : Gr.okE n (a, b) = true → ∀ e ∈ es.take (k + 1), Gr.okE n e = true := fun hf e he => by
            rw [htk] at he
            rcases List.mem_append.1 he with he | he
            · exact hok e he
            · rw [List.mem_singleton.1 he]; exact hf
          have hE := Blk.new wr 39 [.int .i64 a, .int .i64 b]
          have x5 := x1.alloc (.cells #[.int .i64 a, .int .i64 b] 39)
          have hb5 := below_alloc hb (.cells #[.int .i64 a, .int .i64 b] 39)
          have HH := Lib.hid (And.intro hbad hgood)
          clear hbad hgood htk hok hx gx g1 g2 hcc hcell e2 hA x0 x1 hb
          go_upto_region 6 with (fail)
          generalize (wr.alloc (.cells #[.int .i64 a, .int .i64 b] 39)) = W5 at hE x5 hb5 ⊢
          have c0 : W5.cell? ⟨wr.heap.size, 0, none⟩ = some (.int .i64 a) := (hE.cell 0).trans rfl
          have c1 : W5.cell? ⟨wr.heap.size, 1, none⟩ = some (.int .i64 b) := (hE.cell 1).trans rfl
          have c2 : W5.cell? ⟨w.heap.size, 0, none⟩ = some (.int .i64 n) := (x5.cell 0).trans rfl
          have hb50 := Lib.hid (And.intro hb5 (below_next hb5 hb0))
          clear d0 d1 hE x5 hbw hb5
          rcases k1 : decide (a < 0) with _ | _
          · rcases k2 : decide (b < 0) with _ | _
            · rcases k3 : decide (n ≤ a) with _ | _
              · rcases k4 : decide (n ≤ b) with _ | _
                · have hg := HH.out.2 (by unfold Gr.okE; simp only [k1, k2, k3, k4]; rfl)
                  have HG := Lib.hid hg
                  clear hg
                  go_wp2_with fail
                  go_roundw
                  case rel => exact ⟨k + 1, by omega, by go_num, HG.out, hb50.out.1⟩
                  case measure => simp [intOf]; omega
                · have h3 := HH.out.1 (by unfold Gr.okE; simp only [k1, k2, k3, k4]; rfl)
                  subst h3
                  go_wp2_with fail
                  go_ret
                  exact ⟨rfl, hb50.out.2⟩
              · have h3 := HH.out.1 (by unfold Gr.okE; simp only [k1, k2, k3]; simp)
                subst h3
                go_wp2_with fail
                go_ret
                exact ⟨rfl, hb50.out.2⟩
            · have h3 := HH.out.1 (by unfold Gr.okE; simp only [k1, k2]; simp)
              subst h3
              go_wp2_with fail
              go_ret
              exact ⟨rfl, hb50.out.2⟩
          · have h3 := HH.out.1 (by unfold Gr.okE; simp only [k1]; simp)
            subst h3
            go_wp2_with fail
            go_ret
            exact ⟨rfl, hb50.out.2⟩
        · obtain rfl : k = es.length := by omega
          rw [List.take_length] at hok
          have hokG : Gr.okG n es = true := by
            unfold Gr.okG
            rw [h1, h2, List.all_eq_true.2 hok]
            rfl
          obtain ⟨N, rfl, hN, hes, hln, -⟩ := Gr.nat_ok hokG
          have hAe := hA.below hbw
          rw [ercs_nat hokG] at hAe
          have htk : ∀ w', Below wr.heap.size wr w' → Calls Tryd.prog 54 #[.agg #[.int .i64 (N : Int), .slice A es.length c]] w' fun e w'' => ∃ u, e = .returned u ∧ w''.ownsRow w'.heap.size 3 1 u (Gr.take N (Gr.nat es)).length (ilist (Gr.take N (Gr.nat es))) ∧ Below w'.heap.size w' w'' := fun w' hb' => by
            have h4 := hAe.below hb'
            rw [← hln] at h4
            have := take_any N (Gr.nat es) w' A c hN hes h4 (by omega) (fun j hj => ((below_next hb' hbw).cell (p := ⟨0, j, none⟩) hT.lt).trans (hT j hj))
            rwa [hln] at this
          have hRv : R = if (Gr.take N (Gr.nat es)).length < N then 3 else 0 := by
            rw [HR.out]
            unfold Gr.wrong
            rw [hokG]
            rfl
          obtain ⟨L, hL⟩ : ∃ L, L = Gr.take N (Gr.nat es) := ⟨_, rfl⟩
          rw [← hL] at htk hRv
          have keepS : ∀ w', Below wr.heap.size wr w' → (Below wr.heap.size wr w' ∧ w'.cell? ⟨w.heap.size, 0, none⟩ = some (.int .i64 (N : Int)) ∧ w'.cell? ⟨w.heap.size, 1, none⟩ = some (.slice A es.length c)) := fun w' hb' => ⟨hb', ((x1.below hb').cell 0).trans rfl, ((x1.below hb').cell 1).trans rfl⟩
          have hS0 := keepS _ (below_drew (Below.refl _ _))
          have HRv := Lib.hid (And.intro hRv hbw)
          clear hA hAe hok hokG hL hRv x0 x1 hb HR hes hln
          go_wp2_with fail
          refine wp_walk (by kernel_rfl) (by kernel_rfl) (fun w w' => Below w.heap.size w w') (fun w' => (Below wr.heap.size wr w' ∧ w'.cell? ⟨w.heap.size, 0, none⟩ = some (.int .i64 (N : Int)) ∧ w'.cell? ⟨w.heap.size, 1, none⟩ = some (.slice A es.length c))) hS0 ?_
          repeat (first | (refine settle_skip (fun _ => by rfl) ?_; (simp only [Act.put, List.setIfInBounds_toArray, List.set_cons_zero, List.set_cons_succ])) | (refine' settle_run (fun _ _ => Below.refl _ _) (fun _ => by rfl) ?_ ?_; rotate_left; (focus (intro ρ w hS hF; (try dsimp only at hS); go_split_ands; go_simp; try with_reducible rfl)); (simp only [Act.put, List.setIfInBounds_toArray, List.set_cons_zero, List.set_cons_succ])))
          (refine settle_known (FTk wr.heap.size L) (by rfl) (fun _ => by rfl)  ?_ ?_; (focus (intro ρ w hS hF K hK; (simp only [Act.put, List.setIfInBounds_toArray, List.set_cons_zero, List.set_cons_succ] at hK); go_simp; (refine (htk _ hS.1).mono ?_; rintro e w' ⟨u, rfl, ho, hb'⟩; exact hK _ _ (own_base ho hS.1.size) (keepS _ (below_next hb' hS.1)) hb'))); (simp only [Act.put, List.setIfInBounds_toArray, List.set_cons_zero, List.set_cons_succ]))
          (refine' settle_step (fun _ => by rfl) ?_ ?_; rotate_left; (focus (intro ρ w hS hF K hK; (simp only [Act.put, List.setIfInBounds_toArray, List.set_cons_zero, List.set_cons_succ] at hK); go_simp; (obtain ⟨A', c', hv, -, -⟩ := own_slice (hF.1 (by rfl))); rw [hv] at hK ⊢; go_simp; have hS' := hS; have hE' := Below.refl w.heap.size w; exact hK _ hS' hE')); (simp only [Act.put, List.setIfInBounds_toArray, List.set_cons_zero, List.set_cons_succ]))
          repeat (first | (refine settle_skip (fun _ => by rfl) ?_; (simp only [Act.put, List.setIfInBounds_toArray, List.set_cons_zero, List.set_cons_succ])) | (refine' settle_run (fun _ _ => Below.refl _ _) (fun _ => by rfl) ?_ ?_; rotate_left; (focus (intro ρ w hS hF; (try dsimp only at hS); go_split_ands; go_simp; try with_reducible rfl)); (simp only [Act.put, List.setIfInBounds_toArray, List.set_cons_zero, List.set_cons_succ])))
          refine settle_nil ?_
          intro ρ w5 hS hF
          have hb5 := below_next hS.1 HRv.out.2
          clear hF hS hS0 keepS htk
          dsimp only
          generalize ρ 44 = v44
          by_cases hlt2 : L.length < N
          · have h3 : R = 3 := by rw [HRv.out.1, if_pos hlt2]
            subst h3
            go_wp2_with fail
            go_ret
            exact ⟨rfl, hb5⟩
          · have h3 : R = 0 := by rw [HRv.out.1, if_neg hlt2]
            subst h3
            go_wp2_with fail
            go_ret
            exact ⟨rfl, hb5⟩
    · have h3 : R = 2 := by rw [HR.out]; unfold Gr.wrong Gr.okG; rw [h1, h2]; rfl
      subst h3
      clear x0 HR hA
      have HB := Lib.hid hb0
      clear hb0
      go_enter Tryd.func29, Tryd.ntmps29
      go_wp2_with fail
      go_ret
      exact ⟨rfl, HB.out⟩
  · have h3 : R = 2 := by rw [HR.out]; unfold Gr.wrong Gr.okG; rw [h1]; rfl
    subst h3
    clear x0 HR hA
    have HB := Lib.hid hb0
    clear hb0
    go_enter Tryd.func29, Tryd.ntmps29
    go_wp2_with fail
    go_ret
    exact ⟨rfl, HB.out⟩
end Go.Proofs.YtfjmhmfkhgjnhaaDoor


namespace Go.Proofs.YtfjmhmfkhgjnhaaDoor.Hp
set_option linter.unusedVariables false
set_option linter.unusedSimpArgs false
set_option maxRecDepth 100000

abbrev L := List Nat
def at_ (l : L) (i : Nat) : Nat := l.getD i 0
def swap (l : L) (i j : Nat) : L := (l.set i (at_ l j)).set j (at_ l i)
theorem swap_length (l : L) (i j : Nat) : (swap l i j).length = l.length := by simp [swap]
theorem at_get {l : L} {i : Nat} (h : i < l.length) : l[i]? = some (at_ l i) := by simp [at_, List.getElem?_eq_getElem h]
theorem at_set (l : L) (i k x : Nat) (h : i < l.length) : at_ (l.set i x) k = if k = i then x else at_ l k := by
  unfold at_
  rw [List.getD_eq_getElem?_getD, List.getElem?_set, List.getD_eq_getElem?_getD]
  by_cases hk : i = k
  · subst hk; simp [h]
  · rw [if_neg hk, if_neg (fun e => hk e.symm)]
theorem at_swap {l : L} {i j : Nat} (hi : i < l.length) (hj : j < l.length) (k : Nat) : at_ (swap l i j) k = if k = j then at_ l i else if k = i then at_ l j else at_ l k := by
  unfold swap
  rw [at_set _ _ _ _ (by simpa using hj), at_set _ _ _ _ hi]
theorem swap_perm {l : L} {i j : Nat} (hi : i < l.length) (hj : j < l.length) : (swap l i j).Perm l := by
  have e1 : at_ l j = l[j] := by simp [at_, List.getElem?_eq_getElem hj]
  have e2 : at_ l i = l[i] := by simp [at_, List.getElem?_eq_getElem hi]
  unfold swap
  rw [e1, e2]
  exact List.set_set_perm hi hj

/-- nobody is less than who is above -/
def Ok (l : L) : Prop := ∀ k, 0 < k → k < l.length → at_ l ((k - 1) / 2) ≤ at_ l k
theorem Ok.least {l : L} (h : Ok l) : ∀ k, k < l.length → at_ l 0 ≤ at_ l k := by
  intro k
  induction k using Nat.strongRecOn with
  | _ k ih =>
    intro hk
    by_cases h0 : k = 0
    · subst h0; exact Nat.le_refl _
    · exact Nat.le_trans (ih ((k - 1) / 2) (by omega) (by omega)) (h k (by omega) hk)

/-! ### up -/
def up : Nat → L → Nat → L
  | 0, l, _ => l
  | f + 1, l, i => if i = 0 then l else if at_ l ((i - 1) / 2) ≤ at_ l i then l else up f (swap l ((i - 1) / 2) i) ((i - 1) / 2)
structure Up (l : L) (i : Nat) : Prop where
  lt : i < l.length
  a : ∀ k, 0 < k → k < l.length → k ≠ i → at_ l ((k - 1) / 2) ≤ at_ l k
  b : ∀ k, 0 < k → k < l.length → 0 < i → (k - 1) / 2 = i → at_ l ((i - 1) / 2) ≤ at_ l k
theorem Up.done {l : L} {i : Nat} (h : Up l i) (hi : i = 0 ∨ at_ l ((i - 1) / 2) ≤ at_ l i) : Ok l := fun k h0 hk => by
  by_cases he : k = i
  · subst he
    exact hi.resolve_left (by omega)
  · exact h.a k h0 hk he
theorem Up.step {l : L} {i : Nat} (h : Up l i) (h0 : 0 < i) (hi : at_ l i < at_ l ((i - 1) / 2)) : Up (swap l ((i - 1) / 2) i) ((i - 1) / 2) := by
  have hl := h.lt
  have hp : (i - 1) / 2 < l.length := by omega
  have hs := at_swap hp hl
  refine ⟨by rw [swap_length]; exact hp, fun k k0 hk hne => ?_, fun k k0 hk hu hpk => ?_⟩
  · rw [swap_length] at hk
    rw [hs, hs]
    by_cases h1 : k = i
    · subst h1
      rw [if_neg (by omega), if_pos rfl, if_pos rfl]
      omega
    · rw [if_neg h1, if_neg hne]
      by_cases h2 : (k - 1) / 2 = i
      · rw [if_pos h2]
        exact h.b k k0 hk h0 h2
      · rw [if_neg h2]
        by_cases h3 : (k - 1) / 2 = (i - 1) / 2
        · rw [if_pos h3]
          have := h.a k k0 hk h1
          rw [h3] at this
          omega
        · rw [if_neg h3]
          exact h.a k k0 hk h1
  · rw [swap_length] at hk
    rw [hs, hs]
    have e1 : ((i - 1) / 2 - 1) / 2 ≠ i := by omega
    have e2 : ((i - 1) / 2 - 1) / 2 ≠ (i - 1) / 2 := by omega
    rw [if_neg e1, if_neg e2]
    have hup := h.a ((i - 1) / 2) hu hp (by omega)
    by_cases h1 : k = i
    · rw [if_pos h1]; exact hup
    · rw [if_neg h1, if_neg (by omega)]
      have := h.a k k0 hk h1
      rw [hpk] at this
      omega
theorem up_ok : ∀ (f : Nat) (l : L) (i : Nat), Up l i → i < f → Ok (up f l i) ∧ (up f l i).Perm l
  | 0, _, _, _, h => by omega
  | f + 1, l, i, h, hf => by
    unfold up
    by_cases h0 : i = 0
    · rw [if_pos h0]; exact ⟨h.done (.inl h0), List.Perm.refl _⟩
    · rw [if_neg h0]
      by_cases h1 : at_ l ((i - 1) / 2) ≤ at_ l i
      · rw [if_pos h1]; exact ⟨h.done (.inr h1), List.Perm.refl _⟩
      · rw [if_neg h1]
        obtain ⟨a, b⟩ := up_ok f _ _ (h.step (by omega) (by omega)) (by omega)
        exact ⟨a, b.trans (swap_perm (by have := h.lt; omega) h.lt)⟩
def push (l : L) (x : Nat) : L := up (l.length + 1) (l ++ [x]) l.length
theorem push_up {l : L} (h : Ok l) (x : Nat) : Up (l ++ [x]) l.length := by
  refine ⟨by simp, fun k h0 hk hne => ?_, fun k h0 hk hi hp => ?_⟩
  · simp only [List.length_append, List.length_singleton] at hk
    have e : ∀ j, j < l.length → at_ (l ++ [x]) j = at_ l j := fun j hj => by unfold at_; rw [List.getD_eq_getElem?_getD, List.getElem?_append_left hj, List.getD_eq_getElem?_getD]
    rw [e _ (by omega), e _ (by omega)]
    exact h k h0 (by omega)
  · simp only [List.length_append, List.length_singleton] at hk
    omega
theorem push_ok {l : L} (h : Ok l) (x : Nat) : Ok (push l x) ∧ (push l x).Perm (x :: l) := by
  have hu := push_up h x
  obtain ⟨a, b⟩ := up_ok _ _ _ hu (Nat.lt_succ_self _)
  exact ⟨a, b.trans (List.perm_append_singleton x l)⟩

/-! ### down -/
/-- the least one of i and the two below it -/
def low (l : L) (i : Nat) : Nat :=
  let a := if 2 * i + 1 < l.length ∧ at_ l (2 * i + 1) < at_ l i then 2 * i + 1 else i
  if 2 * i + 2 < l.length ∧ at_ l (2 * i + 2) < at_ l a then 2 * i + 2 else a
theorem low_cases (l : L) (i : Nat) : (low l i = i ∨ ((low l i = 2 * i + 1 ∨ low l i = 2 * i + 2) ∧ low l i < l.length ∧ at_ l (low l i) < at_ l i)) ∧
    (2 * i + 1 < l.length → at_ l (low l i) ≤ at_ l (2 * i + 1)) ∧ (2 * i + 2 < l.length → at_ l (low l i) ≤ at_ l (2 * i + 2)) := by
  unfold low
  simp only
  split <;> split <;> (refine ⟨?_, ?_, ?_⟩ <;> omega)
def down : Nat → L → Nat → L
  | 0, l, _ => l
  | f + 1, l, i => if low l i = i then l else down f (swap l i (low l i)) (low l i)
structure Dn (l : L) (i : Nat) : Prop where
  a : ∀ k, 0 < k → k < l.length → (k - 1) / 2 ≠ i → at_ l ((k - 1) / 2) ≤ at_ l k
  b : ∀ k, 0 < k → k < l.length → 0 < i → (k - 1) / 2 = i → at_ l ((i - 1) / 2) ≤ at_ l k
theorem Dn.done {l : L} {i : Nat} (h : Dn l i) (hi : low l i = i) : Ok l := fun k h0 hk => by
  by_cases he : (k - 1) / 2 = i
  · obtain ⟨-, h1, h2⟩ := low_cases l i
    rw [hi] at h1 h2
    have : k = 2 * i + 1 ∨ k = 2 * i + 2 := by omega
    rw [he]
    rcases this with rfl | rfl
    · exact h1 hk
    · exact h2 hk
  · exact h.a k h0 hk he
theorem Dn.step {l : L} {i : Nat} (h : Dn l i) (hi : low l i ≠ i) : Dn (swap l i (low l i)) (low l i) ∧ i < low l i ∧ low l i < l.length ∧ (swap l i (low l i)).Perm l := by
  obtain ⟨h0, h1, h2⟩ := low_cases l i
  obtain ⟨hc, hlt, hless⟩ := h0.resolve_left hi
  generalize low l i = m at *
  have him : i < m := by omega
  have hpm : (m - 1) / 2 = i := by omega
  have hs := at_swap (show i < l.length by omega) hlt
  refine ⟨⟨fun k k0 hk hne => ?_, fun k k0 hk hm hp => ?_⟩, him, hlt, swap_perm (by omega) hlt⟩
  · rw [swap_length] at hk
    rw [hs, hs, if_neg hne]
    by_cases e1 : (k - 1) / 2 = i
    · rw [if_pos e1]
      by_cases e2 : k = m
      · rw [if_pos e2]; omega
      · rw [if_neg e2, if_neg (by omega)]
        have : k = 2 * i + 1 ∨ k = 2 * i + 2 := by omega
        rcases this with rfl | rfl
        · exact h1 hk
        · exact h2 hk
    · rw [if_neg e1, if_neg (fun e => e1 (by rw [e]; exact hpm))]
      by_cases e2 : k = i
      · subst e2
        rw [if_pos rfl]
        exact h.b m (by omega) hlt k0 hpm
      · rw [if_neg e2]
        exact h.a k k0 hk e1
  · rw [swap_length] at hk
    rw [hs, hs, hpm, if_neg (by omega), if_pos rfl, if_neg (by omega), if_neg (by omega)]
    have := h.a k k0 hk (by omega)
    rw [hp] at this
    exact this
theorem down_ok : ∀ (f : Nat) (l : L) (i : Nat), Dn l i → l.length < f + i → Ok (down f l i) ∧ (down f l i).Perm l
  | 0, l, i, h, hf => by
    unfold down
    refine ⟨fun k h0 hk => ?_, List.Perm.refl _⟩
    by_cases he : (k - 1) / 2 = i
    · omega
    · exact h.a k h0 hk he
  | f + 1, l, i, h, hf => by
    unfold down
    by_cases h1 : low l i = i
    · rw [if_pos h1]; exact ⟨h.done h1, List.Perm.refl _⟩
    · rw [if_neg h1]
      obtain ⟨q1, q2, q3, q4⟩ := h.step h1
      obtain ⟨a, b⟩ := down_ok f _ _ q1 (by rw [swap_length]; omega)
      exact ⟨a, b.trans q4⟩
/-- what is left when the first one is out -/
def cut (l : L) : L := (l.set 0 (at_ l (l.length - 1))).take (l.length - 1)
def pop (l : L) : L := down ((cut l).length + 1) (cut l) 0
theorem cut_perm {l : L} (h : l ≠ []) : (at_ l 0 :: cut l).Perm l := by
  rcases l with _ | ⟨x, l⟩
  · exact absurd rfl h
  · rcases List.eq_nil_or_concat l with rfl | ⟨m, y, rfl⟩
    · simp [cut, at_]
    · have e1 : at_ (x :: (m.concat y)) ((x :: (m.concat y)).length - 1) = y := by
        simp [at_, List.getElem?_append_right]
      unfold cut
      rw [e1]
      have e2 : ((x :: (m.concat y)).set 0 y).take ((x :: (m.concat y)).length - 1) = y :: m := by
        simp
      have e3 : at_ (x :: (m.concat y)) 0 = x := rfl
      rw [e2, e3, List.concat_eq_append]
      exact List.Perm.cons _ (List.perm_append_singleton y m).symm
theorem cut_length (l : L) : (cut l).length = l.length - 1 := by simp [cut]
theorem cut_at {l : L} {k : Nat} (h0 : 0 < k) (hk : k < l.length - 1) : at_ (cut l) k = at_ l k := by
  unfold cut at_
  rw [List.getD_eq_getElem?_getD, List.getElem?_take, if_pos hk, List.getElem?_set_ne (by omega), List.getD_eq_getElem?_getD]
theorem pop_ok {l : L} (h : Ok l) (hne : l ≠ []) : Ok (pop l) ∧ (at_ l 0 :: pop l).Perm l ∧ ∀ y ∈ pop l, at_ l 0 ≤ y := by
  have hd : Dn (cut l) 0 := by
    refine ⟨fun k h0 hk hp => ?_, fun k _ _ h0 _ => by omega⟩
    rw [cut_length] at hk
    rw [cut_at (by omega) (by omega), cut_at h0 hk]
    exact h k h0 (by omega)
  obtain ⟨a, b⟩ := down_ok ((cut l).length + 1) (cut l) 0 hd (by omega)
  have hp : (at_ l 0 :: pop l).Perm l := (List.Perm.cons _ b).trans (cut_perm hne)
  refine ⟨a, hp, fun y hy => ?_⟩
  have hyl : y ∈ l := hp.subset (List.mem_cons_of_mem _ hy)
  obtain ⟨k, hk, rfl⟩ := List.mem_iff_getElem.1 hyl
  have := h.least k hk
  simpa [at_, List.getElem?_eq_getElem hk] using this
/-- up to so many, the least first: those, and what is left -/
def take : Nat → L → List Nat × L
  | 0, l => ([], l)
  | n + 1, l => if l = [] then ([], l) else (at_ l 0 :: (take n (pop l)).1, (take n (pop l)).2)
theorem take_ok : ∀ (n : Nat) (l : L), Ok l → Ok (take n l).2 ∧ ((take n l).1 ++ (take n l).2).Perm l ∧ (take n l).1.Pairwise (· ≤ ·) ∧ (∀ x ∈ (take n l).1, ∀ y ∈ (take n l).2, x ≤ y) ∧ (take n l).1.length = min n l.length
  | 0, l, h => ⟨h, List.Perm.refl _, List.Pairwise.nil, fun _ hx => (by cases hx), by simp [take]⟩
  | n + 1, l, h => by
    unfold take
    by_cases h0 : l = []
    · rw [if_pos h0]
      exact ⟨h, List.Perm.refl _, List.Pairwise.nil, fun _ hx => (by cases hx), by simp [h0]⟩
    · rw [if_neg h0]
      obtain ⟨p1, p2, p3⟩ := pop_ok h h0
      obtain ⟨q1, q2, q3, q4, q5⟩ := take_ok n (pop l) p1
      have hin : ∀ y, y ∈ (take n (pop l)).1 ∨ y ∈ (take n (pop l)).2 → at_ l 0 ≤ y := fun y hy => p3 y (q2.subset (List.mem_append.2 hy))
      refine ⟨q1, (List.Perm.cons _ q2).trans p2, List.pairwise_cons.2 ⟨fun y hy => hin y (.inl hy), q3⟩, fun x hx y hy => ?_, ?_⟩
      · rcases List.mem_cons.1 hx with rfl | hx
        · exact hin y (.inr hy)
        · exact q4 x hx y hy
      · have := p2.length_eq
        simp only [List.length_cons] at this ⊢
        rw [q5]
        omega
/-- of numbers each of which is there once: the least ones, rising -/
theorem take_sorted {n N : Nat} {l : L} {f : Nat → Bool} (h : Ok l) (hn : l.Nodup) (hm : ∀ x, x ∈ l ↔ x < N ∧ f x = true) : (take n l).1 = ((List.range N).filter f).take n ∧ ∀ x, x ∈ (take n l).2 ↔ (x < N ∧ f x = true) ∧ x ∉ (take n l).1 := by
  obtain ⟨-, h2, h3, h4, h5⟩ := take_ok n l h
  generalize (take n l).1 = a at *
  generalize (take n l).2 = b at *
  have hnd : (a ++ b).Nodup := h2.nodup_iff.2 hn
  obtain ⟨n1, n2, n3⟩ := List.nodup_append.1 hnd
  have hmem : ∀ x, x ∈ a ∨ x ∈ b ↔ x < N ∧ f x = true := fun x => by rw [← hm, ← h2.mem_iff, List.mem_append]
  have hperm : ((List.range N).filter f).Perm l := by
    refine (List.perm_ext_iff_of_nodup (List.nodup_range.filter _) hn).2 fun x => ?_
    rw [hm, List.mem_filter, List.mem_range]
  refine ⟨?_, fun x => ?_⟩
  · -- both are rising, with nobody else ahead
    have hlt : a.Pairwise (· < ·) := by
      have := h3.and (List.pairwise_iff_getElem.2 (fun i j hi hj hij => (List.pairwise_iff_getElem.1 n1) i j hi hj hij) : a.Pairwise (· ≠ ·))
      exact this.imp fun ⟨p, q⟩ => by omega
    have hR : ((List.range N).filter f).Pairwise (· < ·) := List.pairwise_lt_range.filter _
    have hs : ∃ b' : List Nat, b'.Perm b ∧ b'.Pairwise (· < ·) := by
      refine ⟨(List.range N).filter (fun x => b.contains x), (List.perm_ext_iff_of_nodup (List.nodup_range.filter _) n2).2 fun x => ?_, List.pairwise_lt_range.filter _⟩
      rw [List.mem_filter, List.mem_range]
      constructor
      · rintro ⟨-, h⟩; simpa using h
      · intro h; exact ⟨((hmem x).1 (.inr h)).1, by simpa using h⟩
    obtain ⟨b', hb1, hb2⟩ := hs
    have hab : (a ++ b').Pairwise (· < ·) := List.pairwise_append.2 ⟨hlt, hb2, fun x hx y hy => by
      have := h4 x hx y (hb1.subset hy)
      have := n3 x hx y (hb1.subset hy)
      omega⟩
    have he : a ++ b' = (List.range N).filter f := by
      refine List.Perm.eq_of_pairwise (le := (· < ·)) (fun x y _ _ p q => by omega) hab hR ?_
      exact ((hb1.append_left a).trans h2).trans hperm.symm
    rw [← he]
    have hl := h2.length_eq
    rw [List.length_append] at hl
    by_cases hc : n ≤ l.length
    · rw [List.take_append_of_le_length (by omega), List.take_of_length_le (by omega)]
    · have : b' = [] := by
        apply List.eq_nil_of_length_eq_zero
        rw [hb1.length_eq]
        omega
      rw [this, List.append_nil, List.take_of_length_le (by omega)]
  · constructor
    · intro hx
      exact ⟨(hmem x).1 (.inr hx), fun ha => n3 x ha x hx rfl⟩
    · rintro ⟨h, hna⟩
      exact ((hmem x).2 h).resolve_left hna
end Go.Proofs.YtfjmhmfkhgjnhaaDoor.Hp


namespace Go.Proofs.YtfjmhmfkhgjnhaaDoor
set_option linter.unusedVariables false
set_option linter.unusedSimpArgs false
set_option maxRecDepth 100000
open Go Go.RowKit

/-- 'append(v, x)', the block's number told apart -/
theorem wp_push_at {P : Program} (w : World) {ops : Array Oper} {rest : List Oper} {o : Oper} {a : Act} {Q : Exit → Act → World → Prop} (s x : Operand) (q : Nat) (hq : w.heap.size = q)
    (base t e : TypeId) (z : Value) (size bytes : Nat) (ht : P.underlying t = some (.slice e)) (hinfo : (P.info? e).map (fun i => (i.zero, i.size, i.bytes)) = some (some z, size, bytes)) (hz : z.cells.size = size) (hsz : 0 < size)
    {v : Value} {n : Nat} {xs : List Value} (hown : w.ownsRow base e size v n xs) {c : Nat} (news : List Value) (hlen : news.length = 1 * size) (h1 : ∀ u ∈ news, u.oneCell' = true)
    (h63 : n + 1 ≤ maxLen) (hbytes : (n + 1) * bytes ≤ 140737488355328) (hbase : base ≤ w.heap.size)
    (hgd : o.guard = none) (ho : o.op = .call { callee := .builtin .append, args := #[s, x], argTypes := #[t, t] }) (hs : a.eval s = v) (hx : a.eval x = .slice (some ⟨q, 0, none⟩) 1 c)
    (h : ∀ v' w', w'.ownsRow base e size v' (n + 1) (xs ++ news) → w.grownBy w' v.ownBlock → (v'.ownBlock = v.ownBlock ∨ v'.ownBlock = some (w.heap.size + 1)) → Below base w w' → wpList P ops Q rest (a.put o.dst v') w') : wpList P ops Q (o :: rest) a (w.alloc (.cells news.toArray e)) := by
  subst hq
  exact wp_push w s x base t e z size bytes ht hinfo hz hsz hown news hlen h1 h63 hbytes hbase hgd ho hs hx h

/-- two rows of the call's own, and what was laid beside them since w0 -/
structure Two (w0 : World) (T : Nat → Prop) (B : Nat) (e1 : TypeId) (s1 : Nat) (e2 : TypeId) (s2 : Nat) (L : List (Nat × TypeId × List Value)) (w : World) (v1 : Value) (n1 : Nat) (xs1 : List Value) (v2 : Value) (n2 : Nat) (xs2 : List Value) : Prop where
  r1 : w.ownsRow B e1 s1 v1 n1 xs1
  r2 : w.ownsRow B e2 s2 v2 n2 xs2
  k : Keeps T w0 w
  base : B ≤ w.heap.size
  t1 : ∀ i, v1.ownBlock = some i → i < w0.heap.size → T i
  t2 : ∀ i, v2.ownBlock = some i → i < w0.heap.size → T i
  ap : ∀ i, v1.ownBlock = some i → v2.ownBlock ≠ some i
  src : ∀ p ∈ L, Blk w p.1 p.2.1 p.2.2 ∧ v1.ownBlock ≠ some p.1 ∧ v2.ownBlock ≠ some p.1

section
variable {w0 w : World} {T : Nat → Prop} {B s1 s2 n1 n2 : Nat} {e1 e2 : TypeId} {L : List (Nat × TypeId × List Value)} {v1 v2 : Value} {xs1 xs2 : List Value}

theorem Two.start (h1 : w0.ownsRow B e1 s1 v1 n1 xs1) (h2 : w0.ownsRow B e2 s2 v2 n2 xs2) (hb : B ≤ w0.heap.size) (hap : ∀ i, v1.ownBlock = some i → v2.ownBlock ≠ some i) :
    Two w0 (fun k => v1.ownBlock = some k ∨ v2.ownBlock = some k) B e1 s1 e2 s2 [] w0 v1 n1 xs1 v2 n2 xs2 :=
  ⟨h1, h2, Keeps.refl _ _, hb, fun i h _ => .inl h, fun i h _ => .inr h, hap, fun p h => by cases h⟩
theorem Two.drew (h : Two w0 T B e1 s1 e2 s2 L w v1 n1 xs1 v2 n2 xs2) : Two w0 T B e1 s1 e2 s2 L w.drew v1 n1 xs1 v2 n2 xs2 :=
  ⟨h.r1.drew, h.r2.drew, h.k.drewN 1, h.base, h.t1, h.t2, h.ap, fun p hp => ⟨(h.src p hp).1, (h.src p hp).2⟩⟩
theorem Two.alloc (h : Two w0 T B e1 s1 e2 s2 L w v1 n1 xs1 v2 n2 xs2) (cs : List Value) (t : TypeId) : Two w0 T B e1 s1 e2 s2 ((w.heap.size, t, cs) :: L) (w.alloc (.cells cs.toArray t)) v1 n1 xs1 v2 n2 xs2 := by
  refine ⟨h.r1.alloc _, h.r2.alloc _, h.k.alloc _, by have := h.base; simp; omega, h.t1, h.t2, h.ap, fun p hp => ?_⟩
  rcases List.mem_cons.1 hp with rfl | hp
  · exact ⟨Blk.new w t cs, fun e => by have := (h.r1.lt _ e).2; simp at this, fun e => by have := (h.r2.lt _ e).2; simp at this⟩
  · exact ⟨(h.src p hp).1.alloc _, (h.src p hp).2⟩
theorem Two.swap (h : Two w0 T B e1 s1 e2 s2 L w v1 n1 xs1 v2 n2 xs2) : Two w0 T B e2 s2 e1 s1 L w v2 n2 xs2 v1 n1 xs1 :=
  ⟨h.r2, h.r1, h.k, h.base, h.t2, h.t1, fun i h2 h1 => h.ap i h1 h2, fun p hp => ⟨(h.src p hp).1, (h.src p hp).2.2, (h.src p hp).2.1⟩⟩
theorem Two.cells (h : Two w0 T B e1 s1 e2 s2 L w v1 n1 xs1 v2 n2 xs2) {g : Nat} {t : TypeId} {cs : List Value} (hm : (g, t, cs) ∈ L) : Cells w (g + 1) (some ⟨g, 0, none⟩) cs :=
  ⟨g, 0, fun _ => ⟨rfl, Nat.lt_succ_self g⟩, fun j u hu => by rw [Nat.zero_add, (h.src _ hm).1.cell]; exact hu⟩

/-- an append to the first of them -/
theorem Two.grow (h : Two w0 T B e1 s1 e2 s2 L w v1 n1 xs1 v2 n2 xs2) {w' : World} {v' : Value} {n' : Nat} {xs' : List Value} (h1 : w'.ownsRow B e1 s1 v' n' xs') (hg : w.grownBy w' v1.ownBlock) (hv : v'.ownBlock = v1.ownBlock ∨ v'.ownBlock = some w.heap.size) :
    Two w0 T B e1 s1 e2 s2 L w' v' n' xs' v2 n2 xs2 := by
  have kk := Keeps.of_grown hg
  refine ⟨h1, own_keeps h.r2 kk (fun g e1 e2 => h.ap g e2.symm e1), h.k.step kk (fun i hi e => h.t1 i e.symm hi), Nat.le_trans h.base hg.size, fun i hi hl => ?_, h.t2, fun i hi => ?_, fun p hp => ⟨?_, ?_, (h.src p hp).2.2⟩⟩
  · rcases hv with e | e
    · exact h.t1 i (e ▸ hi) hl
    · rw [e] at hi
      injection hi with hi
      have := h.k.size
      omega
  · rcases hv with e | e
    · exact h.ap i (e ▸ hi)
    · rw [e] at hi
      injection hi with hi
      intro e2
      have := (h.r2.lt i e2).2
      omega
  · exact (h.src p hp).1.keeps kk (fun e => (h.src p hp).2.1 e.symm)
  · rcases hv with e | e
    · rw [e]; exact (h.src p hp).2.1
    · rw [e]
      intro e3
      injection e3 with e3
      have := (h.src p hp).1.lt
      omega

theorem two_append1 {P : Program} {ops : Array Oper} {o : Oper} {a : Act} {K : Act → World → Prop} {Q : Exit → Act → World → Prop} {E : Prop} {s x : Operand} {t : TypeId} (h : Two w0 T B e1 s1 e2 s2 L w v1 n1 xs1 v2 n2 xs2)
    {z : Value} {bytes : Nat} (ht : P.underlying t = some (.slice e1)) (hinfo : (P.info? e1).map (fun i => (i.zero, i.size, i.bytes)) = some (some z, s1, bytes)) (hz : z.cells.size = s1) (hsz : 0 < s1)
    {g : Nat} {news : List Value} {c : Nat} {tt : TypeId} (hm : (g, tt, news) ∈ L) (hlen : news.length = 1 * s1) (h1 : ∀ u ∈ news, u.oneCell' = true)
    (h63 : n1 + 1 ≤ maxLen) (hbytes : (n1 + 1) * bytes ≤ 140737488355328)
    (hgd : Region.wanted o (yielded ops a.tmps) = true) (ho : o.op = .call { callee := .builtin .append, args := #[s, x], argTypes := #[t, t] }) (hs : a.eval s = v1) (hx : a.eval x = .slice (some ⟨g, 0, none⟩) 1 c)
    (hK : ∀ v' w', Two w0 T B e1 s1 e2 s2 L w' v' (n1 + 1) (xs1 ++ news) v2 n2 xs2 → K (a.put o.dst v') w') :
    if Region.wanted o (yielded ops a.tmps) = true then Oper.wp P o a w K Q else E :=
  step_append s x B t e1 z s1 bytes ht hinfo hz hsz h.r1 (h.cells hm) hlen h1 h63 hbytes h.base hgd ho hs hx fun v' w' q1 q2 q3 _ => hK v' w' (h.grow q1 q2 q3)

theorem two_append2 {P : Program} {ops : Array Oper} {o : Oper} {a : Act} {K : Act → World → Prop} {Q : Exit → Act → World → Prop} {E : Prop} {s x : Operand} {t : TypeId} (h : Two w0 T B e1 s1 e2 s2 L w v1 n1 xs1 v2 n2 xs2)
    {z : Value} {bytes : Nat} (ht : P.underlying t = some (.slice e2)) (hinfo : (P.info? e2).map (fun i => (i.zero, i.size, i.bytes)) = some (some z, s2, bytes)) (hz : z.cells.size = s2) (hsz : 0 < s2)
    {g : Nat} {news : List Value} {c : Nat} {tt : TypeId} (hm : (g, tt, news) ∈ L) (hlen : news.length = 1 * s2) (h1 : ∀ u ∈ news, u.oneCell' = true)
    (h63 : n2 + 1 ≤ maxLen) (hbytes : (n2 + 1) * bytes ≤ 140737488355328)
    (hgd : Region.wanted o (yielded ops a.tmps) = true) (ho : o.op = .call { callee := .builtin .append, args := #[s, x], argTypes := #[t, t] }) (hs : a.eval s = v2) (hx : a.eval x = .slice (some ⟨g, 0, none⟩) 1 c)
    (hK : ∀ v' w', Two w0 T B e1 s1 e2 s2 L w' v1 n1 xs1 v' (n2 + 1) (xs2 ++ news) → K (a.put o.dst v') w') :
    if Region.wanted o (yielded ops a.tmps) = true then Oper.wp P o a w K Q else E :=
  two_append1 h.swap ht hinfo hz hsz hm hlen h1 h63 hbytes hgd ho hs hx fun v' w' q => hK v' w' q.swap

theorem twl_append1 {P : Program} {ops : Array Oper} {rest : List Oper} {o : Oper} {a : Act} {Q : Exit → Act → World → Prop} {s x : Operand} {t : TypeId} (h : Two w0 T B e1 s1 e2 s2 L w v1 n1 xs1 v2 n2 xs2)
    {z : Value} {bytes : Nat} (ht : P.underlying t = some (.slice e1)) (hinfo : (P.info? e1).map (fun i => (i.zero, i.size, i.bytes)) = some (some z, s1, bytes)) (hz : z.cells.size = s1) (hsz : 0 < s1)
    {g : Nat} {news : List Value} {c : Nat} {tt : TypeId} (hm : (g, tt, news) ∈ L) (hlen : news.length = 1 * s1) (h1 : ∀ u ∈ news, u.oneCell' = true)
    (h63 : n1 + 1 ≤ maxLen) (hbytes : (n1 + 1) * bytes ≤ 140737488355328)
    (hgd : o.guard = none) (ho : o.op = .call { callee := .builtin .append, args := #[s, x], argTypes := #[t, t] }) (hs : a.eval s = v1) (hx : a.eval x = .slice (some ⟨g, 0, none⟩) 1 c)
    (hK : ∀ v' w', Two w0 T B e1 s1 e2 s2 L w' v' (n1 + 1) (xs1 ++ news) v2 n2 xs2 → wpList P ops Q rest (a.put o.dst v') w') : wpList P ops Q (o :: rest) a w :=
  wp_append w s x B t e1 z s1 bytes ht hinfo hz hsz h.r1 (h.cells hm) hlen h1 h63 hbytes h.base hgd ho hs hx fun v' w' q1 q2 q3 _ => hK v' w' (h.grow q1 q2 q3)

theorem twl_append2 {P : Program} {ops : Array Oper} {rest : List Oper} {o : Oper} {a : Act} {Q : Exit → Act → World → Prop} {s x : Operand} {t : TypeId} (h : Two w0 T B e1 s1 e2 s2 L w v1 n1 xs1 v2 n2 xs2)
    {z : Value} {bytes : Nat} (ht : P.underlying t = some (.slice e2)) (hinfo : (P.info? e2).map (fun i => (i.zero, i.size, i.bytes)) = some (some z, s2, bytes)) (hz : z.cells.size = s2) (hsz : 0 < s2)
    {g : Nat} {news : List Value} {c : Nat} {tt : TypeId} (hm : (g, tt, news) ∈ L) (hlen : news.length = 1 * s2) (h1 : ∀ u ∈ news, u.oneCell' = true)
    (h63 : n2 + 1 ≤ maxLen) (hbytes : (n2 + 1) * bytes ≤ 140737488355328)
    (hgd : o.guard = none) (ho : o.op = .call { callee := .builtin .append, args := #[s, x], argTypes := #[t, t] }) (hs : a.eval s = v2) (hx : a.eval x = .slice (some ⟨g, 0, none⟩) 1 c)
    (hK : ∀ v' w', Two w0 T B e1 s1 e2 s2 L w' v1 n1 xs1 v' (n2 + 1) (xs2 ++ news) → wpList P ops Q rest (a.put o.dst v') w') : wpList P ops Q (o :: rest) a w :=
  twl_append1 h.swap ht hinfo hz hsz hm hlen h1 h63 hbytes hgd ho hs hx fun v' w' q => hK v' w' q.swap
end
end Go.Proofs.YtfjmhmfkhgjnhaaDoor


namespace Go.Proofs.YtfjmhmfkhgjnhaaDoor
set_option linter.unusedVariables false
set_option linter.unusedSimpArgs false
set_option maxRecDepth 100000
open Go

section
variable {P : Program} {ops : Array Oper} {Q : Exit → Act → World → Prop} {S : World → Prop} {I : Nat → Env → World → Prop} {L : List Tmp} {E : World → World → Prop} {mk fl : Nat → Bool}

def markPB (ops : Array Oper) (n : Nat) (mk fl : Nat → Bool) (ms : List Nat) : Bool :=
  ms.all fun m => (decide (m < n) && (!fl m && match ops[m]? with | some o => o.guard.isNone | none => true)) && (List.range n).all fun i => i == m || (fl i || if i < m then reachB ops 6 m i else reachB ops 6 i m)
structure MarkedP (ops : Array Oper) (mk fl : Nat → Bool) (n : Nat) : Prop where
  lt : ∀ m, mk m = true → m < n
  fix : ∀ m, mk m = true → fl m = false
  gd : ∀ m o, mk m = true → ops[m]? = some o → o.guard = none
  before : ∀ m i, mk m = true → i < m → fl i = false → reachB ops 6 m i = true
  after : ∀ m i, mk m = true → m < i → i < n → fl i = false → reachB ops 6 i m = true
theorem markedP_of {n : Nat} {ms : List Nat} (hms : ∀ m, mk m = true → m ∈ ms) (h : markPB ops n mk fl ms = true) : MarkedP ops mk fl n := by
  have key := List.all_eq_true.1 h
  have k1 : ∀ m, mk m = true → m < n ∧ fl m = false ∧ (match ops[m]? with | some o => o.guard.isNone | none => true) = true := fun m hm => by
    have := key m (hms m hm)
    rw [Bool.and_eq_true, Bool.and_eq_true, Bool.and_eq_true, decide_eq_true_eq] at this
    exact ⟨this.1.1, by simpa using this.1.2.1, this.1.2.2⟩
  have k2 : ∀ m, mk m = true → (List.range n).all (fun i => i == m || (fl i || if i < m then reachB ops 6 m i else reachB ops 6 i m)) = true := fun m hm => by
    have := key m (hms m hm)
    rw [Bool.and_eq_true] at this
    exact this.2
  refine ⟨fun m hm => (k1 m hm).1, fun m hm => (k1 m hm).2.1, fun m o hm ho => ?_, fun m i hm hi hf => ?_, fun m i hm hi hlt hf => ?_⟩
  · have := (k1 m hm).2.2
    rw [ho] at this
    simpa using this
  · have h2 := List.all_eq_true.1 (k2 m hm) i (List.mem_range.2 (by have := (k1 m hm).1; omega))
    have hne : (i == m) = false := by simp; omega
    rw [hne, Bool.false_or, hf, Bool.false_or, if_pos hi] at h2
    exact h2
  · have h2 := List.all_eq_true.1 (k2 m hm) i (List.mem_range.2 hlt)
    have hne : (i == m) = false := by simp; omega
    rw [hne, Bool.false_or, hf, Bool.false_or, if_neg (by omega)] at h2
    exact h2

/-- the marks ahead of it -/
def cntM (mk : Nat → Bool) : Nat → Nat
  | 0 => 0
  | k + 1 => cntM mk k + cond (mk k) 1 0
theorem cntM_mono {a b : Nat} (h : a ≤ b) : cntM mk a ≤ cntM mk b := by
  induction b with
  | zero => rw [Nat.le_zero.1 h]; exact Nat.le_refl _
  | succ b ih =>
    rcases Nat.lt_or_ge a (b + 1) with h' | h'
    · exact Nat.le_trans (ih (by omega)) (Nat.le_add_right _ _)
    · rw [show a = b + 1 by omega]; exact Nat.le_refl _
theorem cntM_lt {a b : Nat} (h : a < b) (hm : mk a = true) : cntM mk a < cntM mk b := by
  have h1 : cntM mk (a + 1) = cntM mk a + 1 := by rw [cntM, hm]; rfl
  have h2 := cntM_mono (mk := mk) (show a + 1 ≤ b by omega)
  omega
/-- the next one -/
theorem cntM_next {a b : Nat} (h : cntM mk a < cntM mk b) : ∃ m, a ≤ m ∧ m < b ∧ mk m = true ∧ cntM mk m = cntM mk a := by
  induction b with
  | zero => exact absurd h (by simp [cntM])
  | succ b ih =>
    by_cases h' : cntM mk a < cntM mk b
    · obtain ⟨m, h1, h2, h3, h4⟩ := ih h'
      exact ⟨m, h1, by omega, h3, h4⟩
    · have hab : a ≤ b := by
        rcases Nat.lt_or_ge b a with h2 | h2
        · have := cntM_mono (mk := mk) (show b + 1 ≤ a by omega)
          omega
        · exact h2
      have := cntM_mono (mk := mk) hab
      rw [cntM] at h
      rcases hb : mk b with _ | _
      · rw [hb] at h; simp at h; omega
      · exact ⟨b, hab, by omega, hb, by omega⟩
/-- what is known in the phase -/
def PreP (mk fl : Nat → Bool) (I : Nat → Env → World → Prop) (k : Nat) (ρ : Env) (w : World) : Prop := fl k = false → I (cntM mk k) ρ w
/-- what a step gives -/
def EsP (mk : Nat → Bool) (E : World → World → Prop) (I : Nat → Env → World → Prop) (k : Nat) (ρ : Env) : World → World → Prop := cond (mk k) (fun _ w' => I (cntM mk k + 1) ρ w') E
def SettleP (P : Program) (ops : Array Oper) (S : World → Prop) (I : Nat → Env → World → Prop) (E : World → World → Prop) (mk fl : Nat → Bool) (Z : (Env → Act) → List (Tmp × Fact E) → Prop) : Nat → List Oper → (Env → Act) → List (Tmp × Fact E) → Prop
  | _, [], A, Fs => Z A Fs
  | k, o :: rest, A, Fs =>
    (∃ v, (∀ ρ w, S w → FactsOK (o.looksAt ops) ρ w (cond (fl k) [] Fs) → PreP mk fl I k ρ w → StepTo P ops S (EsP mk E I k ρ) o (A ρ) w (fun u _ => u = v)) ∧ SettleP P ops S I E mk fl Z (k + 1) rest (fun ρ => (A ρ).put o.dst v) (cond (mk k) [] Fs)) ∨
    (∃ d F, o.dst = some d ∧ fl k = false ∧ (∀ ρ w, S w → FactsOK (o.looksAt ops) ρ w (cond (fl k) [] Fs) → PreP mk fl I k ρ w → StepTo P ops S (EsP mk E I k ρ) o (A ρ) w F.holds) ∧ SettleP P ops S I E mk fl Z (k + 1) rest (fun ρ => (A ρ).put (some d) (ρ d)) ((d, F) :: cond (mk k) [] Fs))

structure PlanP (P : Program) (ops : Array Oper) (S : World → Prop) (I : Nat → Env → World → Prop) (mk fl : Nat → Bool) (a : Act) (l : List (Oper × Kind E)) : Prop where
  dst : ∀ p ∈ l, (∃ F, p.2 = .fresh F) → ∃ d, p.1.dst = some d
  flt : ∀ (j : Nat) p, l[j]? = some p → (∃ F, p.2 = .fresh F) → fl j = false
  step : ∀ pre p post, l = pre ++ p :: post → ∀ ρ w, S w → FactsOK (p.1.looksAt ops) ρ w (cond (fl pre.length) [] (factsM mk 0 pre [])) → PreP mk fl I pre.length ρ w → StepTo P ops S (EsP mk E I pre.length ρ) p.1 (actOf a ρ pre) w p.2.rel

theorem planP_snoc {a : Act} {l : List (Oper × Kind E)} (h : PlanP P ops S I mk fl a l) {p : Oper × Kind E} (h1 : (∃ F, p.2 = .fresh F) → ∃ d, p.1.dst = some d) (h3 : (∃ F, p.2 = .fresh F) → fl l.length = false)
    (h2 : ∀ ρ w, S w → FactsOK (p.1.looksAt ops) ρ w (cond (fl l.length) [] (factsM mk 0 l [])) → PreP mk fl I l.length ρ w → StepTo P ops S (EsP mk E I l.length ρ) p.1 (actOf a ρ l) w p.2.rel) : PlanP P ops S I mk fl a (l ++ [p]) := by
  refine ⟨fun q hq hf => ?_, fun j q hq hf => ?_, fun pre q post he => ?_⟩
  · rcases List.mem_append.1 hq with hq | hq
    · exact h.dst q hq hf
    · rw [List.mem_singleton.1 hq] at hf ⊢
      exact h1 hf
  · rcases Nat.lt_or_ge j l.length with hj | hj
    · rw [List.getElem?_append_left hj] at hq
      exact h.flt j q hq hf
    · rw [List.getElem?_append_right hj] at hq
      have hj' := (List.getElem?_eq_some_iff.1 hq).1
      simp only [List.length_singleton] at hj'
      have e : j = l.length := by omega
      subst e
      simp only [Nat.sub_self, List.getElem?_cons_zero, Option.some.injEq] at hq
      subst hq
      exact h3 hf
  · rcases List.eq_nil_or_concat post with rfl | ⟨post', q', rfl⟩
    · have := List.append_inj' he rfl
      obtain ⟨e1, e2⟩ := this
      injection e2 with e2
      subst e1 e2
      exact h2
    · have e : pre ++ q :: (post' ++ [q']) = (pre ++ q :: post') ++ [q'] := by simp
      rw [List.concat_eq_append, e] at he
      exact h.step pre q post' (List.append_inj' he rfl).1

theorem settleP_plan {Z : (Env → Act) → List (Tmp × Fact E) → Prop} {a : Act} : ∀ (l : List Oper) (pre : List (Oper × Kind E)), PlanP P ops S I mk fl a pre → SettleP P ops S I E mk fl Z pre.length l (fun ρ => actOf a ρ pre) (factsM mk 0 pre []) →
    ∃ full : List (Oper × Kind E), PlanP P ops S I mk fl a full ∧ full.map (·.1) = pre.map (·.1) ++ l ∧ Z (fun ρ => actOf a ρ full) (factsM mk 0 full []) := by
  intro l
  induction l with
  | nil => exact fun pre hp h => ⟨pre, hp, by simp, h⟩
  | cons o rest ih =>
    intro pre hp h
    rcases h with ⟨v, h1, h2⟩ | ⟨d, F, hd, h3, h1, h2⟩
    · obtain ⟨full, q1, q2, q3⟩ := ih (pre ++ [(o, .fixed v)]) (planP_snoc (p := (o, .fixed v)) hp (fun ⟨F, h⟩ => by cases h) (fun ⟨F, h⟩ => by cases h) h1) (by
        have e1 : (fun ρ => actOf a ρ (pre ++ [(o, (Kind.fixed v : Kind E))])) = fun ρ => (actOf a ρ pre).put o.dst v := by
          funext ρ; simp [actOf, Kind.val]
        have e2 : factsM mk 0 (pre ++ [(o, (Kind.fixed v : Kind E))]) [] = cond (mk pre.length) [] (factsM mk 0 pre []) := by rw [factsM_snoc, Nat.zero_add]; rfl
        rw [e1, e2, List.length_append]
        exact h2)
      exact ⟨full, q1, by rw [q2]; simp, q3⟩
    · obtain ⟨full, q1, q2, q3⟩ := ih (pre ++ [(o, .fresh F)]) (planP_snoc (p := (o, .fresh F)) hp (fun _ => ⟨d, hd⟩) (fun _ => h3) h1) (by
        have e1 : (fun ρ => actOf a ρ (pre ++ [(o, (Kind.fresh F : Kind E))])) = fun ρ => (actOf a ρ pre).put (some d) (ρ d) := by
          funext ρ; simp [actOf, Kind.val, hd]
        have e2 : factsM mk 0 (pre ++ [(o, (Kind.fresh F : Kind E))]) [] = (d, F) :: cond (mk pre.length) [] (factsM mk 0 pre []) := by rw [factsM_snoc, Nat.zero_add]; simp [addFact, hd]
        rw [e1, e2, List.length_append]
        exact h2)
      exact ⟨full, q1, by rw [q2]; simp, q3⟩

/-- the temporaries that a phase may speak of: made ahead of all marks -/
def labB (ops : Array Oper) (n : Nat) (ms : List Nat) (L : List Tmp) : Bool :=
  L.all fun t => (List.range n).any fun j => (match ops[j]? with | some o => o.dst == some t | none => false) && ms.all fun m => j != m && reachB ops 6 m j
theorem labB_spec {n : Nat} {ms : List Nat} (hms : ∀ m, mk m = true → m ∈ ms) (h : labB ops n ms L = true) : ∀ t ∈ L, ∃ j o, j < n ∧ ops[j]? = some o ∧ o.dst = some t ∧ ∀ m, mk m = true → j ≠ m ∧ reachB ops 6 m j = true := fun t ht => by
  have := List.all_eq_true.1 h t ht
  obtain ⟨j, hj, hb⟩ := List.any_eq_true.1 this
  rw [Bool.and_eq_true] at hb
  rcases ho : ops[j]? with _ | o
  · rw [ho] at hb; simp at hb
  · rw [ho] at hb
    refine ⟨j, o, List.mem_range.1 hj, ho, by simpa using hb.1, fun m hm => ?_⟩
    have := List.all_eq_true.1 hb.2 m (hms m hm)
    rw [Bool.and_eq_true] at this
    exact ⟨by simpa using this.1, this.2⟩

theorem any_order_ph {a0 : Act} {full : List (Oper × Kind E)} {n : Nat} (hn : n < ops.size) (hops : full.map (·.1) = ops.toList.take n) (hlin : LinearN ops n) (hsk : Region.sinkB .any ops n = true) (hch : Region.chainB .any ops n = true)
    (hsq : ∀ listed : Array Bool, listed.size = ops.size → (∀ i, i < n → listed.getD i false = true) → (∀ i, n ≤ i → listed.getD i false = false) → Region.seqB .any ops (ops.size - n) n listed = true) (hmk : MarkedP ops mk fl n) (hp : PlanP P ops S I mk fl a0 full) (hIE : ∀ c ρ w w', I c ρ w → E w w' → I c ρ w') (hI0 : ∀ ρ ρ' w, I 0 ρ w → I 0 ρ' w) (hIρ : ∀ c ρ ρ' w, (∀ t ∈ L, ρ t = ρ' t) → I c ρ w → I c ρ' w)
    (hL : ∀ t ∈ L, ∃ j o, j < n ∧ ops[j]? = some o ∧ o.dst = some t ∧ ∀ m, mk m = true → j ≠ m ∧ reachB ops 6 m j = true)
    (hZ : ∀ ρ w, S w → I (cntM mk n) ρ w → (∀ t F, (t, F) ∈ factsM mk 0 full [] → F.holds (ρ t) w) → wpList P ops Q (ops.toList.drop n) (actOf a0 ρ full) w) :
    ∀ (fuel : Nat) (listed : Array Bool) (a : Act) (w : World) (ρ : Env), HeadInv .any ops n listed →
      (∃ todo : List Nat, todo.length ≤ fuel ∧ ∀ i, i < n → listed.getD i false = false → i ∈ todo) →
      Holds a0 full (fun i => listed.getD i false = true) ρ a → S w → (∀ c, c ≤ cntM mk n → (∀ m, mk m = true → (listed.getD m false = true ↔ cntM mk m < c)) → I c ρ w) → (∀ (i : Nat) (p : Oper × Kind E) (F : Fact E) (d : Tmp), listed.getD i false = true → (∀ m, mk m = true → i < m → listed.getD m false = false) → full[i]? = some p → p.2 = .fresh F → p.1.dst = some d → F.holds (ρ d) w) →
      wpAny P .any ops Q (fuel + (ops.size - n)) listed a w := by
  have hget : ∀ (i : Nat) (p : Oper × Kind E), full[i]? = some p → ops[i]? = some p.1 := fun i p h => by
    have : (full.map (·.1))[i]? = some p.1 := by simp [h]
    rw [hops, List.getElem?_take] at this
    split at this
    · simpa using this
    · cases this
  have hlen : full.length = n := by
    have := congrArg List.length hops
    simp only [List.length_map, List.length_take, Array.length_toList] at this
    omega
  have hget' : ∀ (i : Nat) (o : Oper), i < n → ops[i]? = some o → ∃ p : Oper × Kind E, full[i]? = some p ∧ p.1 = o := fun i o hin h => by
    have hi : i < full.length := by rw [hlen]; exact hin
    have h1 := hget i _ (List.getElem?_eq_getElem hi)
    rw [h] at h1
    injection h1 with h1
    exact ⟨_, List.getElem?_eq_getElem hi, h1.symm⟩
  have hdist : ∀ (i j : Nat) (p q : Oper × Kind E) (d : Tmp), i < j → full[i]? = some p → full[j]? = some q → p.1.dst = some d → q.1.dst ≠ some d := fun i j p q d hij h1 h2 => hlin.dist i j _ _ d hij (by have := (List.getElem?_eq_some_iff.1 h2).1; omega) (hget i p h1) (hget j q h2)
  have hdist2 : ∀ (i j : Nat) (p q : Oper × Kind E) (d : Tmp), i ≠ j → full[i]? = some p → full[j]? = some q → p.1.dst = some d → q.1.dst ≠ some d := fun i j p q d hij h1 h2 hd hd' => by
    rcases Nat.lt_or_gt_of_ne hij with h | h
    · exact hdist i j p q d h h1 h2 hd hd'
    · exact hdist j i q p d h h2 h1 hd' hd
  -- all have come up
  have fin : ∀ (fuel : Nat) (listed : Array Bool) (a : Act) (w : World) (ρ : Env), HeadInv .any ops n listed → (∀ i, i < n → listed.getD i false = true) → Holds a0 full (fun i => listed.getD i false = true) ρ a → S w → I (cntM mk n) ρ w →
      (∀ (i : Nat) (p : Oper × Kind E) (F : Fact E) (d : Tmp), listed.getD i false = true → (∀ m, mk m = true → i < m → listed.getD m false = false) → full[i]? = some p → p.2 = .fresh F → p.1.dst = some d → F.holds (ρ d) w) → wpAny P .any ops Q (fuel + (ops.size - n)) listed a w := fun fuel listed a w ρ inv hall hH hS hIn hF => by
    have h1 : Holds a0 full (fun i => i < full.length) ρ (actOf a0 ρ full) := by
      have := holds_prefix a0 full ρ hdist full.length (Nat.le_refl _)
      rwa [List.take_length] at this
    have h2 : Holds a0 full (fun i => i < full.length) ρ a :=
      ⟨hH.defers, hH.size, fun t ht => hH.far t fun i p hi hp => ht i p (List.getElem?_eq_some_iff.1 hp).1 hp, fun i p t hi => hH.near i p t (hall i (by omega))⟩
    rw [h2.unique h1]
    have hz := hZ ρ w hS hIn fun t F hm => by
      rcases mem_factsM hm with ⟨h, -⟩ | ⟨i, p, h1, h2, h3, h4⟩
      · cases h
      · exact hF i p F t (hall i (by have := (List.getElem?_eq_some_iff.1 h1).1; omega)) (fun m hm him => absurd (hmk.lt m hm) (fun h => h4 m hm (by omega) (by omega))) h1 h2 h3
    have hdl : (ops.toList.drop n).length = ops.size - n := by simp
    have hs := hsq listed inv.size hall (fun i hi => by
      rcases Nat.lt_or_ge i ops.size with h | h
      · exact getD_both (inv.tail i hi h)
      · simp [Array.getD, inv.size, Nat.not_lt.2 h])
    have := wpAny_seq_more fuel (ops.toList.drop n) n listed (actOf a0 ρ full) w (fun j => by simp [List.getElem?_drop]) (by rw [hdl]; exact hs) hz
    rwa [hdl, Nat.add_comm] at this
  have none_left : ∀ listed : Array Bool, HeadInv .any ops n listed → Region.ready .any ops listed = [] → ∀ m i, i < m → i < n → listed.getD i false = true := by
    intro listed inv hr m
    induction m with
    | zero => intro i h; omega
    | succ m ih =>
      intro i hi hin
      cases hli : listed.getD i false with
      | true => rfl
      | false =>
        have hlt : i < ops.size := by omega
        have ho : ops[i]? = some ops[i] := Array.getElem?_eq_getElem hlt
        have hmem : i ∈ Region.ready .any ops listed := by
          rw [mem_ready]
          refine ⟨?_, _, ho, fun e he hb => ?_⟩
          · simp only [Array.getD, inv.size, hlt, dif_pos] at hli ⊢
            exact hli
          · have := hlin.back i _ hin ho e he hb
            exact ih e.on (by omega) (by omega)
        rw [hr] at hmem
        cases hmem
  have some_left : ∀ listed : Array Bool, (∀ i, i < n → listed.getD i false = true) ∨ ∃ i, i < n ∧ listed.getD i false = false := fun listed => by
    by_cases h : ∃ i, i < n ∧ listed.getD i false = false
    · exact .inr h
    · exact .inl fun i hi => by
        cases hl : listed.getD i false with
        | true => rfl
        | false => exact (h ⟨i, hi, hl⟩).elim
  intro fuel
  induction fuel with
  | zero =>
    intro listed a w ρ inv ⟨todo, htodo, hin⟩ hH hS hS0 hF
    have hall : ∀ i, i < n → listed.getD i false = true := fun i hi => by
      cases hli : listed.getD i false with
      | true => rfl
      | false =>
        have := hin i hi hli
        rw [List.eq_nil_of_length_eq_zero (Nat.le_zero.1 htodo)] at this
        cases this
    exact fin 0 listed a w ρ inv hall hH hS (hS0 _ (Nat.le_refl _) fun m hm => ⟨fun _ => cntM_lt (hmk.lt m hm) hm, fun _ => hall m (hmk.lt m hm)⟩) hF
  | succ fuel ih =>
    intro listed a w ρ inv ⟨todo, htodo, hin⟩ hH hS hS0 hF
    rcases some_left listed with hall | ⟨i0, hi0, hl0⟩
    · exact fin (fuel + 1) listed a w ρ inv hall hH hS (hS0 _ (Nat.le_refl _) fun m hm => ⟨fun _ => cntM_lt (hmk.lt m hm) hm, fun _ => hall m (hmk.lt m hm)⟩) hF
    have hsz := inv.size
    rw [show fuel + 1 + (ops.size - n) = (fuel + (ops.size - n)) + 1 by omega]
    refine ⟨fun hr => ?_, fun i hi => ?_⟩
    · have := none_left listed inv hr (i0 + 1) i0 (by omega) hi0
      rw [hl0] at this
      cases this
    have hilt : i < n := by
      rcases Nat.lt_or_ge i n with h | h
      · exact h
      · exact absurd hi (tail_waits hsk hch hn inv _ i0 rfl hi0 (getD_in (by omega) hl0) i h)
    obtain ⟨h0, o, ho, hall⟩ := mem_ready.1 hi
    have hlt := (Array.getElem?_eq_some_iff.1 ho).1
    have h0' : listed.getD i false = false := by
      simp only [Array.getD, hsz, hlt, dif_pos] at h0 ⊢
      exact h0
    obtain ⟨p, hpi, rfl⟩ := hget' i o hilt ho
    have hil : i < full.length := by omega
    have hpre : Holds a0 full (fun j => j < i) ρ (actOf a0 ρ (full.take i)) := holds_prefix a0 full ρ hdist i (by omega)
    have hsplit : full = full.take i ++ p :: full.drop (i + 1) := by
      have : full[i] = p := by have := List.getElem?_eq_getElem hil; rw [hpi] at this; injection this with this; exact this.symm
      rw [← this, List.getElem_cons_drop, List.take_append_drop]
    have hstep := hp.step _ p _ hsplit ρ w hS
    have conf : ∀ (j : Nat) (q : Oper × Kind E), full[j]? = some q → ∀ t, q.1.dst = some t → t ∈ p.1.looksAt ops → (listed.getD j false = true ↔ j < i) := by
      intro j q hq t hd hl
      have hoj := hget j q hq
      have hjn : j < n := by have := (List.getElem?_eq_some_iff.1 hq).1; omega
      rcases Nat.lt_trichotomy j i with h | h | h
      · refine ⟨fun _ => h, fun _ => ?_⟩
        rcases hlin.wait j i _ _ h hilt hoj ho with hap | ⟨e, he, hb, hon⟩
        · exact absurd hl ((Oper.apart_spec hap).1 t hd)
        · rw [← hon]; exact hall e he hb
      · subst h
        rw [hpi] at hq
        injection hq with hq
        subst hq
        exact absurd hl (hlin.self j _ t hilt ho hd)
      · refine ⟨fun hj => ?_, fun h' => by omega⟩
        exfalso
        rcases hlin.wait i j _ _ h hjn ho hoj with hap | ⟨e, he, hb, hon⟩
        · exact absurd hl ((Oper.apart_spec hap).2.2 t hd)
        · have := inv.closed j _ hoj hj e he hb
          rw [hon, h0'] at this
          cases this
    have hdown' : ∀ j o, listed.getD j false = true → ops[j]? = some o → ∀ e ∈ o.after, Region.binds .any e = true → listed.getD e.on false = true := fun j o hj ho e he hb => inv.closed j o ho hj e he hb
    have later : ∀ m, mk m = true → i < m → fl i = false → listed.getD m false = false := fun m hm him hfl => by
      cases hlm : listed.getD m false with
      | false => rfl
      | true =>
        have := reach_closed hdown' 6 m i (hmk.before m i hm him hfl) hlm
        rw [h0'] at this
        cases this
    have hfacts : FactsOK (p.1.looksAt ops) ρ w (cond (fl i) [] (factsM mk 0 (full.take i) [])) := factsOK_of _ fun t F hm hl => by
      rcases hfl : fl i with _ | _
      case true => rw [hfl] at hm; cases hm
      rw [hfl] at hm
      rcases mem_factsM hm with ⟨h, -⟩ | ⟨j, q, h1, h2, h3, h4⟩
      · cases h
      · have hji : j < i := by
          have := (List.getElem?_eq_some_iff.1 h1).1
          rw [List.length_take] at this
          omega
        have hq : full[j]? = some q := by
          rw [List.getElem?_take, if_pos hji] at h1
          exact h1
        refine hF j q F t ((conf j q hq t h3 (by simpa using hl)).2 hji) (fun m hm hjm => ?_) hq h2 h3
        rcases Nat.lt_trichotomy i m with h | h | h
        · exact later m hm h hfl
        · rw [← h]; exact h0'
        · exact absurd (h4 m hm (by omega) (by rw [List.length_take]; omega)) id
    have hli' : (full.take i).length = i := by rw [List.length_take]; omega
    have earlier : ∀ m, mk m = true → m < i → fl i = false → listed.getD m false = true := fun m hm him hfl => by
      have hr := hmk.after m i hm him hilt hfl
      unfold reachB at hr
      rw [Bool.or_eq_true] at hr
      rcases hr with hr | hr
      · have : i = m := by simpa using hr
        omega
      · rw [ho] at hr
        obtain ⟨k, hk, hb⟩ := Array.any_eq_true.1 hr
        rw [Bool.and_eq_true] at hb
        exact reach_closed hdown' 5 _ _ hb.2 (hall _ (Array.getElem_mem hk) hb.1)
    have hst := hstep (by rw [hli']; exact hfacts) (by
      rw [hli']
      intro hfl
      refine hS0 _ (cntM_mono (by omega)) fun m hm => ?_
      rcases Nat.lt_trichotomy i m with h | h | h
      · rw [later m hm h hfl]
        have := cntM_mono (mk := mk) (show i ≤ m by omega)
        simp; omega
      · rw [← h, h0']
        simp
      · rw [earlier m hm h hfl]
        simp [cntM_lt h hm])
    have hag : ∀ t, t ∈ p.1.looksAt ops → a.tmps[t]? = (actOf a0 ρ (full.take i)).tmps[t]? := fun t ht =>
      hH.agree hpre t fun j q hq hd => conf j q hq t hd ht
    have hexec : execOp a.eval p.1 = execOp (actOf a0 ρ (full.take i)).eval p.1 := execOp_congr p.1 (fun cs b => hlin.sel i _ cs b ho) fun x hx => by
      cases x with
      | tmp t =>
        have := hag t (List.mem_append_left _ (List.mem_filterMap.2 ⟨.tmp t, by simpa using hx, rfl⟩))
        simp only [Act.eval, Array.getD_eq_getD_getElem?]
        rw [this]
      | _ => rfl
    have hwant : Region.wanted p.1 (yielded ops a.tmps) = Region.wanted p.1 (yielded ops (actOf a0 ρ (full.take i)).tmps) := by
      unfold Region.wanted
      cases hg : p.1.guard with
      | none => rfl
      | some gw =>
        obtain ⟨g, want⟩ := gw
        have : yielded ops a.tmps g = yielded ops (actOf a0 ρ (full.take i)).tmps g := by
          unfold yielded
          cases ht : (ops[g]?).bind (·.dst) with
          | none => rfl
          | some t =>
            have := hag t (List.mem_append_right _ (by simp [hg, ht]))
            simp only [Option.bind_some, this]
        simp only [this]
    have size_eq : (actOf a0 ρ (full.take i)).tmps.size = a.tmps.size := hpre.size.trans hH.size.symm
    -- the way on
    have go : ∀ v w', p.2.rel v w' → S w' → (∀ c, c ≤ cntM mk n → (∀ m, mk m = true → ((listed.setIfInBounds i true).getD m false = true ↔ cntM mk m < c)) → I c ρ w') → (∀ (j : Nat) (q : Oper × Kind E) (F : Fact E) (d : Tmp), listed.getD j false = true → (∀ m, mk m = true → j < m → (listed.setIfInBounds i true).getD m false = false) → full[j]? = some q → q.2 = .fresh F → q.1.dst = some d → F.holds (ρ d) w') →
        wpAny P .any ops Q (fuel + (ops.size - n)) (listed.setIfInBounds i true) (a.put p.1.dst v) w' := by
      intro v w' hR hS' hS0' hF'
      have next : ∀ ρ' : Env, p.2.val ρ' p.1 = v → (∀ j q, j ≠ i → full[j]? = some q → q.2.val ρ' q.1 = q.2.val ρ q.1) → (∀ j q F d, j ≠ i → full[j]? = some q → q.2 = .fresh F → q.1.dst = some d → ρ' d = ρ d) → (∀ F d, p.2 = .fresh F → p.1.dst = some d → F.holds (ρ' d) w') → (∀ t, (∀ F, p.2 = .fresh F → p.1.dst ≠ some t) → ρ' t = ρ t) →
          wpAny P .any ops Q (fuel + (ops.size - n)) (listed.setIfInBounds i true) (a.put p.1.dst v) w' := by
        intro ρ' hv hothers hd' hself hρ
        have hset : ∀ j, (listed.setIfInBounds i true).getD j false = true ↔ j = i ∨ listed.getD j false = true := fun j => by
          by_cases hji : j = i
          · subst hji
            simp [Array.getD, hsz, hlt]
          · rw [getD_set_ne false (Ne.symm hji)]
            simp [hji]
        refine ih _ _ _ ρ' (inv.set hi hilt) ⟨todo.filter (· != i), ?_, fun j hj hjl => ?_⟩ ?_ hS' (fun c hc hcm => ?_) (fun j q F d hj hjm hq hf hd => ?_)
        · have : (todo.filter (· != i)).length < todo.length := by
            rw [List.length_filter_lt_length_iff_exists]
            exact ⟨i, hin i hilt h0', by simp⟩
          omega
        · have hne : j ≠ i := fun e => by
            have := (hset j).2 (.inl e)
            rw [this] at hjl
            cases hjl
          refine List.mem_filter.2 ⟨hin j hj ?_, by simpa using hne⟩
          rwa [getD_set_ne false (Ne.symm hne)] at hjl
        · have := hH.put (ρ' := ρ') hpi hset (fun j q hj hq d hd => hdist2 j i q p d (fun e => by rw [e, h0'] at hj; cases hj) hq hpi hd) (fun j q hj hq => hothers j q (fun e => by rw [e, h0'] at hj; cases hj) hq)
          rwa [hv] at this
        · have hold := hS0' c hc hcm
          rcases c with _ | c
          · exact hI0 ρ ρ' w' hold
          · refine hIρ _ ρ ρ' w' (fun t ht => ?_) hold
            obtain ⟨j0, o0, hj0, ho0, hd0, hbm⟩ := hL t ht
            refine (hρ t fun F hF hd => ?_).symm
            have hji : j0 = i := by
              rcases Nat.lt_trichotomy j0 i with h | h | h
              · exact absurd hd (hlin.dist j0 i o0 p.1 t h hilt ho0 ho hd0)
              · exact h
              · exact absurd hd0 (hlin.dist i j0 p.1 o0 t h hj0 ho ho0 hd)
            obtain ⟨m0, -, hm0, hmk0, hc0⟩ := cntM_next (mk := mk) (a := 0) (b := n) (by simp [cntM]; omega)
            have hml := (hcm m0 hmk0).2 (by rw [hc0]; simp [cntM])
            obtain ⟨hne, hre⟩ := hbm m0 hmk0
            have hml' : listed.getD m0 false = true := ((hset m0).1 hml).resolve_left (fun e => hne (by omega))
            have := reach_closed hdown' 6 m0 j0 hre hml'
            rw [hji, h0'] at this
            cases this
        · rcases (hset j).1 hj with rfl | hj
          · rw [hpi] at hq
            injection hq with hq
            subst hq
            exact hself F d hf hd
          · have hne : j ≠ i := fun e => by rw [e, h0'] at hj; cases hj
            rw [hd' j q F d hne hq hf hd]
            exact hF' j q F d hj hjm hq hf hd
      cases hk : p.2 with
      | fixed v0 =>
        have hv : v = v0 := by rw [hk] at hR; exact hR
        exact next ρ (by rw [hk]; exact hv.symm) (fun _ _ _ _ => rfl) (fun _ _ _ _ _ _ _ _ => rfl) (fun F d hf => by rw [hk] at hf; cases hf) (fun _ _ => rfl)
      | fresh F =>
        obtain ⟨d, hd⟩ := hp.dst p (by rw [hsplit]; simp) ⟨F, hk⟩
        have hR' : F.holds v w' := by rw [hk] at hR; exact hR
        have hne : ∀ j q d', j ≠ i → full[j]? = some q → q.1.dst = some d' → d' ≠ d := fun j q d' hji hq hd' e => hdist2 j i q p d' hji hq hpi hd' (by rw [hd, e])
        refine next (fun t => if t = d then v else ρ t) (by rw [hk]; simp [Kind.val, hd]) (fun j q hji hq => ?_) (fun j q F' d' hji hq _ hd' => if_neg (hne j q d' hji hq hd')) (fun F' d' hf hd' => ?_) (fun t ht => if_neg (fun e => ht F hk (by rw [hd, e])))
        · cases hkq : q.2 with
          | fixed v0 => rfl
          | fresh F' =>
            obtain ⟨d', hd'⟩ := hp.dst q (List.mem_of_getElem? hq) ⟨F', hkq⟩
            simp only [Kind.val, hd']
            exact if_neg (hne j q d' hji hq hd')
        · rw [hk] at hf
          injection hf with hf
          rw [hd] at hd'
          injection hd' with hd'
          subst hf hd'
          simpa using hR'
    have hset' : ∀ j, (listed.setIfInBounds i true).getD j false = false → listed.getD j false = false := fun j hj => by
      by_cases hji : j = i
      · rw [hji]; exact h0'
      · rwa [getD_set_ne false (Ne.symm hji)] at hj
    have hlen_i : (full.take i).length = i := by rw [List.length_take]; omega
    have hseti : (listed.setIfInBounds i true).getD i false = true := by simp [Array.getD, hsz, hlt]
    rw [hlen_i] at hst
    unfold wpOp
    simp only [ho]
    unfold StepTo at hst
    rw [← hwant] at hst
    split
    · rename_i hw
      rw [if_pos hw] at hst
      refine .inl (wp_carry (R := fun v w' => p.2.rel v w' ∧ S w' ∧ (EsP mk E I i ρ) w w') hexec size_eq (hst _ fun v w' h1 h2 h3 => ⟨v, rfl, h1, h2, h3⟩) fun v w' ⟨h1, h2, h3⟩ => go v w' h1 h2 (fun c hc hcm => ?_) fun j q F d hj hjm hq hf hd => ?_)
      · rcases hmi : mk i with _ | _
        · unfold EsP at h3
          rw [hmi] at h3
          refine hIE _ _ _ _ (hS0 c hc fun m hm => ?_) h3
          rw [← hcm m hm, getD_set_ne false (fun e => by rw [← e, hmi] at hm; cases hm)]
        · unfold EsP at h3
          rw [hmi] at h3
          have hci := (hcm i hmi).1 hseti
          have hceq : c = cntM mk i + 1 := by
            apply Classical.byContradiction
            intro hne
            have h1i : cntM mk (i + 1) = cntM mk i + 1 := by rw [cntM, hmi]; rfl
            obtain ⟨m', hm1, hm2, hm3, hm4⟩ := cntM_next (mk := mk) (a := i + 1) (b := n) (by omega)
            have hl := (hcm m' hm3).2 (by omega)
            rw [getD_set_ne false (by omega), later m' hm3 (by omega) (hmk.fix i hmi)] at hl
            cases hl
          rw [hceq]
          exact h3
      rcases hmi : mk i with _ | _
      · unfold EsP at h3
        rw [hmi] at h3
        exact F.keep _ _ _ (hF j q F d hj (fun m hm h => hset' m (hjm m hm h)) hq hf hd) h3
      · exfalso
        rcases Nat.lt_trichotomy j i with h | h | h
        · have := hjm i hmi h
          rw [hseti] at this
          cases this
        · rw [h, h0'] at hj; cases hj
        · have := reach_closed hdown' 6 j i (hmk.after i j hmi h (by have := (List.getElem?_eq_some_iff.1 hq).1; omega) (hp.flt j q hq ⟨F, hf⟩)) hj
          rw [h0'] at this
          cases this
    · rename_i hw
      rw [if_neg hw] at hst
      have hni : mk i = false := by
        rcases hmi : mk i with _ | _
        · rfl
        · exact absurd (by simp [Region.wanted, hmk.gd i _ hmi ho]) hw
      exact go undef w hst hS (fun c hc hcm => hS0 c hc fun m hm => by rw [← hcm m hm, getD_set_ne false (fun e => by rw [← e, hni] at hm; cases hm)]) fun j q F d hj hjm hq hf hd => hF j q F d hj (fun m hm h => hset' m (hjm m hm h)) hq hf hd

/-- the same, that nothing looks into -/
structure WalkP (P : Program) (ops : Array Oper) (S : World → Prop) (I : Nat → Env → World → Prop) (E : World → World → Prop) (mk fl : Nat → Bool) (Z : (Env → Act) → List (Tmp × Fact E) → Prop) (k : Nat) (l : List Oper) (A : Env → Act) (Fs : List (Tmp × Fact E)) : Prop where
  out : SettleP P ops S I E mk fl Z k l A Fs

/-- THE RULE, with marks and a tail of n operations ahead of it -/
theorem wp_walk_ph {id : Nat} {a : Act} {w : World} {l : List Oper} (n : Nat) (mk fl : Nat → Bool) (ms : List Nat) (hms : ∀ m, mk m = true → m ∈ ms) (hm : P.follows .mixedOrders = true) (hB : tailB l.toArray n = true) (hmk : markPB l.toArray n mk fl ms = true) (L : List Tmp) (hLB : labB l.toArray n ms L = true) (E : World → World → Prop) (S : World → Prop) (I : Nat → Env → World → Prop) (hS : S w.drew) (hS0 : ∀ ρ, I 0 ρ w.drew) (hIE : ∀ c ρ w w', I c ρ w → E w w' → I c ρ w') (hI0 : ∀ ρ ρ' w, I 0 ρ w → I 0 ρ' w) (hIρ : ∀ c ρ ρ' w, (∀ t ∈ L, ρ t = ρ' t) → I c ρ w → I c ρ' w)
    (h : WalkP P l.toArray S I E mk fl (fun A Fs => ∀ ρ w', S w' → I (cntM mk n) ρ w' → (∀ t F, (t, F) ∈ Fs → F.holds (ρ t) w') → wpList P l.toArray Q (l.drop n) (A ρ) w') 0 (l.take n) (fun _ => a) []) : (Code.region id l.toArray true).wp P Q a w := by
  simp only [tailB, Bool.and_eq_true, decide_eq_true_eq] at hB
  obtain ⟨⟨⟨⟨hn, hlin⟩, hs⟩, hc⟩, hq⟩ := hB
  obtain ⟨full, hp, he, hZ⟩ := settleP_plan (l.take n) [] ⟨(fun _ h => by cases h), (fun j p h => by simp at h), (fun pre p post he => by simp at he)⟩ h.out
  have inv0 : HeadInv .any l.toArray n (Array.replicate l.toArray.size false) :=
    ⟨by simp, fun j oj _ hl => (by rw [getD_replicate_false] at hl; cases hl), fun t _ ht => getD_in (by simpa using ht) (getD_replicate_false _ _)⟩
  have := any_order_ph (P := P) (Q := Q) hn (by simpa using he) (linearN_of hlin) hs hc (fun listed hsz h1 h2 => by
    have hn' := hn
    rw [show listed = (Array.replicate n true) ++ (Array.replicate (l.toArray.size - n) false) from getD_ext (by simp only [Array.size_append, Array.size_replicate]; omega) fun i => by
      rw [Array.getD_eq_getD_getElem? (xs := _ ++ _), Array.getElem?_append]
      rcases Nat.lt_or_ge i n with h | h
      · rw [h1 i h]
        simp [h]
      · rw [h2 i h]
        simp only [Array.size_replicate, Nat.not_lt.2 h, if_false, Array.getElem?_replicate]
        split <;> rfl]
    exact hq) (markedP_of hms hmk) hp hIE hI0 hIρ (labB_spec hms hLB) hZ n _ a w.drew (fun _ => undef) inv0 ⟨List.range n, by simp, fun i hi _ => List.mem_range.2 hi⟩ ⟨rfl, rfl, fun _ _ => rfl, fun i p t hi => ?_⟩ hS (fun c hc hcm => ?_) fun i p F d hi => ?_
  · refine wp_region_any hm ?_
    rwa [show n + (l.toArray.size - n) = l.toArray.size by omega] at this
  · exfalso; rw [getD_replicate_false] at hi; cases hi
  · rcases c with _ | c
    · exact hS0 _
    · obtain ⟨m0, -, hm0, hmk0, hc0⟩ := cntM_next (mk := mk) (a := 0) (b := n) (by simp [cntM]; omega)
      have := (hcm m0 hmk0).2 (by rw [hc0]; simp [cntM])
      rw [getD_replicate_false] at this
      cases this
  · exfalso; rw [getD_replicate_false] at hi; cases hi
variable {Z : (Env → Act) → List (Tmp × Fact E) → Prop} {o : Oper} {rest : List Oper} {A : Env → Act} {Fs : List (Tmp × Fact E)} {k : Nat}
theorem psettle_nil (h : Z A Fs) : WalkP P ops S I E mk fl Z k [] A Fs := ⟨h⟩
theorem psettle_skip (hmk : mk k = false) (hw : ∀ ρ, Region.wanted o (yielded ops (A ρ).tmps) = false) (h : WalkP P ops S I E mk fl Z (k + 1) rest (fun ρ => (A ρ).put o.dst undef) Fs) : WalkP P ops S I E mk fl Z k (o :: rest) A Fs :=
  ⟨.inl ⟨undef, fun ρ w _ _ _ => by unfold StepTo; rw [if_neg (by rw [hw]; simp)], by rw [hmk]; exact h.out⟩⟩
theorem psettle_run {v : Value} (hmk : mk k = false) (hE : ∀ w, S w → E w w) (hw : ∀ ρ, Region.wanted o (yielded ops (A ρ).tmps) = true)
    (hr : ∀ ρ w, S w → FactsOK (o.looksAt ops) ρ w (cond (fl k) [] Fs) → PreP mk fl I k ρ w → (execOp (A ρ).eval o).run P w = .ok (.value v) w) (h : WalkP P ops S I E mk fl Z (k + 1) rest (fun ρ => (A ρ).put o.dst v) Fs) : WalkP P ops S I E mk fl Z k (o :: rest) A Fs :=
  ⟨.inl ⟨v, fun ρ w hS hF hP => by
    unfold StepTo
    rw [if_pos (hw ρ)]
    unfold EsP
    rw [hmk]
    intro K hK
    unfold Oper.wp
    rw [hr ρ w hS hF hP]
    exact hK v w rfl hS (hE w hS), by rw [hmk]; exact h.out⟩⟩
theorem psettle_step {v : Value} (hmk : mk k = false) (hw : ∀ ρ, Region.wanted o (yielded ops (A ρ).tmps) = true)
    (hc : ∀ ρ w, S w → FactsOK (o.looksAt ops) ρ w (cond (fl k) [] Fs) → PreP mk fl I k ρ w → ∀ K : Act → World → Prop, (∀ w', S w' → E w w' → K ((A ρ).put o.dst v) w') → o.wp P (A ρ) w K (fun _ _ _ => False)) (h : WalkP P ops S I E mk fl Z (k + 1) rest (fun ρ => (A ρ).put o.dst v) Fs) : WalkP P ops S I E mk fl Z k (o :: rest) A Fs :=
  ⟨.inl ⟨v, fun ρ w hS hF hP => by
    unfold StepTo
    rw [if_pos (hw ρ)]
    unfold EsP
    rw [hmk]
    exact fun K hK => hc ρ w hS hF hP K fun w' h1 h2 => hK v w' rfl h1 h2, by rw [hmk]; exact h.out⟩⟩
theorem psettle_known {d : Tmp} (F : Fact E) (hmk : mk k = false) (hfl : fl k = false) (hd : o.dst = some d) (hw : ∀ ρ, Region.wanted o (yielded ops (A ρ).tmps) = true)
    (hc : ∀ ρ w, S w → FactsOK (o.looksAt ops) ρ w (cond (fl k) [] Fs) → PreP mk fl I k ρ w → ∀ K : Act → World → Prop, (∀ v w', F.holds v w' → S w' → E w w' → K ((A ρ).put o.dst v) w') → o.wp P (A ρ) w K (fun _ _ _ => False)) (h : WalkP P ops S I E mk fl Z (k + 1) rest (fun ρ => (A ρ).put (some d) (ρ d)) ((d, F) :: Fs)) : WalkP P ops S I E mk fl Z k (o :: rest) A Fs :=
  ⟨.inr ⟨d, F, hd, hfl, fun ρ w hS hF hP => by
    unfold StepTo
    rw [if_pos (hw ρ)]
    unfold EsP
    rw [hmk]
    exact fun K hK => hc ρ w hS hF hP K hK, by rw [hmk]; exact h.out⟩⟩
/-- a mark: what was known is forgotten -/
theorem psettle_mark {d : Tmp} (F : Fact E) (hmk : mk k = true) (hfl : fl k = false) (hd : o.dst = some d) (hw : ∀ ρ, Region.wanted o (yielded ops (A ρ).tmps) = true)
    (hc : ∀ ρ w, S w → FactsOK (o.looksAt ops) ρ w (cond (fl k) [] Fs) → PreP mk fl I k ρ w → ∀ K : Act → World → Prop, (∀ v w', F.holds v w' → S w' → I (cntM mk k + 1) ρ w' → K ((A ρ).put o.dst v) w') → o.wp P (A ρ) w K (fun _ _ _ => False)) (h : WalkP P ops S I E mk fl Z (k + 1) rest (fun ρ => (A ρ).put (some d) (ρ d)) [(d, F)]) : WalkP P ops S I E mk fl Z k (o :: rest) A Fs :=
  ⟨.inr ⟨d, F, hd, hfl, fun ρ w hS hF hP => by
    unfold StepTo
    rw [if_pos (hw ρ)]
    unfold EsP
    rw [hmk]
    exact fun K hK => hc ρ w hS hF hP K fun v w' h1 h2 h3 => hK v w' h1 h2 h3, by rw [hmk]; exact h.out⟩⟩
/-- a mark whose value is known, or that has none -/
theorem psettle_turn {v : Value} (hmk : mk k = true) (hw : ∀ ρ, Region.wanted o (yielded ops (A ρ).tmps) = true)
    (hc : ∀ ρ w, S w → FactsOK (o.looksAt ops) ρ w (cond (fl k) [] Fs) → PreP mk fl I k ρ w → ∀ K : Act → World → Prop, (∀ w', S w' → I (cntM mk k + 1) ρ w' → K ((A ρ).put o.dst v) w') → o.wp P (A ρ) w K (fun _ _ _ => False)) (h : WalkP P ops S I E mk fl Z (k + 1) rest (fun ρ => (A ρ).put o.dst v) []) : WalkP P ops S I E mk fl Z k (o :: rest) A Fs :=
  ⟨.inl ⟨v, fun ρ w hS hF hP => by
    unfold StepTo
    rw [if_pos (hw ρ)]
    unfold EsP
    rw [hmk]
    exact fun K hK => hc ρ w hS hF hP K fun w' h1 h2 => hK v w' rfl h1 h2, by rw [hmk]; exact h.out⟩⟩
end
end Go.Proofs.YtfjmhmfkhgjnhaaDoor


namespace Go.Proofs.YtfjmhmfkhgjnhaaDoor
set_option linter.unusedVariables false
set_option linter.unusedSimpArgs false
set_option maxRecDepth 100000
open Go.RowKit

theorem info_int' : (Tryd.prog.info? 3).map (fun i => (i.zero, i.size, i.bytes)) = some (some (.int .i64 0), 1, 8) := by kernel_rfl
def hnats (l : List Nat) : List Value := l.map fun (x : Nat) => Value.int .i64 (x : Int)
theorem hnats_length (l : List Nat) : (hnats l).length = l.length := by simp [hnats]
theorem hnats_at {l : List Nat} {i : Nat} (h : i < l.length) : (hnats l)[i]? = some (.int .i64 (Hp.at_ l i : Int)) := by
  unfold hnats
  rw [List.getElem?_map, Hp.at_get h]
  rfl
theorem hnats_set (l : List Nat) (i x : Nat) : (hnats l).set i (.int .i64 (x : Int)) = hnats (l.set i x) := by simp [hnats, List.map_set]
theorem hp_cell {w : World} {B g n c : Nat} {e : TypeId} {xs : List Value} (h : w.ownsRow B e 1 (.slice (some ⟨g, 0, none⟩) n c) n xs) {j : Nat} {u : Value} (hj : xs[j]? = some u) : w.cell? ⟨g, j, none⟩ = some u := by
  obtain ⟨cs, hB, -, ht, -⟩ := row_blk h
  rw [hB.cell]
  rw [← ht, List.getElem?_take] at hj
  split at hj
  · exact hj
  · cases hj

/-- a store into a row of the call's own, as one operation -/
theorem wp_set_row {P : Program} {w : World} {B g n c : Nat} {e : TypeId} {xs : List Value} {o : Oper} {a : Act} {K : Act → World → Prop} {Q : Exit → Act → World → Prop} (h : w.ownsRow B e 1 (.slice (some ⟨g, 0, none⟩) n c) n xs) (x y : Operand) (i : Nat) (u : Value) {ty : TypeId} (hi : (P.info? ty).map (·.size) = some 1) (hk : i < n) (hu : u.cells = #[u]) (h1 : u.oneCell' = true)
    (ho : o.op = .store ty x y) (hx : a.eval x = .pointer (some ⟨g, i, none⟩)) (hy : a.eval y = u)
    (hK : ∀ w', w'.ownsRow B e 1 (.slice (some ⟨g, 0, none⟩) n c) n (xs.set i u) → w.grownBy w' (some g) → K (a.put o.dst undef) w') : o.wp P a w K Q := by
  obtain ⟨cs, hB, hl, rfl, hn, hm, hb⟩ := row_blk h
  rw [Nat.mul_one] at hl
  have hk' : i < cs.length := by omega
  obtain ⟨inf, hii, his⟩ := Option.map_eq_some_iff.1 hi
  have := run_storeCells_at P g i e [u] 0 cs.toArray w hB (by simp; omega) (by simpa using h1)
  simp only [Nat.add_zero, List.length_singleton] at this
  have hrun : (storeVar ty ⟨g, i, none⟩ u).run P w = .ok () (w.setRow g (cs.take i ++ [u] ++ cs.drop (i + 1)).toArray) := by
    simp [storeVar, sizeOf, typeInfo, hii, his, hu, this]
  have e1 : cs.take i ++ [u] ++ cs.drop (i + 1) = cs.set i u := by
    rw [List.set_eq_take_append_cons_drop, if_pos hk']
    simp
  rw [e1] at hrun
  unfold Oper.wp execOp
  simp only [ho, hx, hy, Instr.storeAt, Instr.sureAddr, Sem.run_bind, Sem.run_pure, Result.andThen_ok, hrun]
  refine hK _ ?_ (grown_setRow _ _ _)
  have := row_of_blk (size := 1) (c := c) (n := n) (hB.row (cs.set i u)) (by simpa using hl) hb hn hm
  rw [List.take_set] at this
  exact this

/-- the heap at p has l in the row u -/
structure HpR (w : World) (B p : Nat) (u : Value) (l : List Nat) : Prop where
  blk : Blk w p 90 [u]
  row : w.ownsRow B 3 1 u l.length (hnats l)
  base : B ≤ w.heap.size
def HpT (p : Nat) (u : Value) (k : Nat) : Prop := k = p ∨ u.ownBlock = some k
theorem HpR.ne {w : World} {B p : Nat} {u : Value} {l : List Nat} (h : HpR w B p u l) : u.ownBlock ≠ some p := own_blk_ne h.row h.blk (by decide)

set_option maxHeartbeats 2000000 in
theorem push_any (w : World) (B p : Nat) (u : Value) (l : List Nat) (x : Nat) (hR : HpR w B p u l) (hOk : Hp.Ok l) (hn : l.length ≤ 1000000) :
    Calls Tryd.prog 51 #[.pointer (some ⟨p, 0, none⟩), .int .i64 (x : Int)] w fun e w' => e = .returned (.tuple #[]) ∧ ∃ u' l', HpR w' B p u' l' ∧ Hp.Ok l' ∧ l'.Perm (x :: l) ∧ Keeps (HpT p u) w w' ∧ (u'.ownBlock = u.ownBlock ∨ ∀ k, u'.ownBlock = some k → w.heap.size ≤ k) := by
  have hne := hR.ne
  obtain ⟨hB, hrow, hbase⟩ := hR
  have c0 : w.cell? ⟨p, 0, none⟩ = some u := by rw [hB.cell]; rfl
  have hpl := hB.lt
  obtain ⟨A, c, rfl, hle, hm⟩ := own_slice hrow
  unfold maxLen at hm
  have n63 : l.length + 1 ≤ maxLen := by unfold maxLen; omega
  have n47 : (l.length + 1) * 8 ≤ 140737488355328 := by omega
  obtain ⟨N, hN⟩ : ∃ N, N = l.length + 1 := ⟨_, rfl⟩
  have hN1 : 1 ≤ N := by omega
  have hN2 : N ≤ 1000001 := by omega
  have HN := Lib.hid hN
  clear hN
  go_enter Tryd.func51, Tryd.ntmps51
  go_wp2_with (first | (at_builtin; refine wp_push_at _ _ _ _ (by first | rfl | simp) _ _ _ _ _ _ Tryd.underlying26 info_int' rfl (by decide) hrow [.int .i64 (x : Int)] rfl (by simp [Value.oneCell']) n63 n47 hbase rfl rfl rfl rfl ?_; intro v7 w7 hr7 hg7 hv7 hb7; have hB7 := hB.grown hg7 (fun e => hne e.symm); rw [← HN.out] at hr7; obtain ⟨g7, c7, rfl, hle7, hm7, hgb7, hgl7⟩ := own_addr hr7 hN1; unfold maxLen at hm7) | (refine wpl_set_blk hB7 0 (.slice (some ⟨g7, 0, none⟩) N c7) (by kernel_rfl) (by simp) (by rfl) (by rfl) (by rfl) (by rfl) (by rfl) (by rfl) ?_; intro w8 hB8 hg8; have cc8 : w8.cell? ⟨p, 0, none⟩ = some (.slice (some ⟨g7, 0, none⟩) N c7) := (by rw [hB8.cell]; rfl); have hpl8 := hB8.lt) | fail)
  have hup0 : Hp.Up (l ++ [x]) l.length := Hp.push_up hOk x
  have hr8 : w8.ownsRow B 3 1 (.slice (some ⟨g7, 0, none⟩) N c7) N (hnats (l ++ [x])) := by
    have := own_keeps hr7 (Keeps.of_grown hg8) (fun j hj e => by
      have h1 := own_blk_ne hr7 hB7 (by decide)
      rw [hj] at h1
      exact h1 e)
    simpa [hnats] using this
  have hk8 : Keeps (HpT p (.slice A l.length c)) w w8 := ((Keeps.of_grown hg7).mono (fun i e => .inr e.symm)).trans ((Keeps.of_grown hg8).mono (fun i e => .inl (by injection e)))
  have hnew : (Value.slice (some ⟨g7, 0, none⟩) N c7).ownBlock = (Value.slice A l.length c).ownBlock ∨ ∀ k, (Value.slice (some ⟨g7, 0, none⟩) N c7).ownBlock = some k → w.heap.size ≤ k := hv7.imp id (fun e k hk => by rw [e] at hk; injection hk with hk; omega)
  have hgT : HpT p (.slice A l.length c) g7 ∨ w.heap.size ≤ g7 := by
    rcases hnew with e | e
    · exact .inl (.inr (by rw [← e]; rfl))
    · exact .inr (e g7 rfl)
  clear hr7 hB7 hg7 hv7 hg8 hB
  have hM := Lib.hid (And.intro hk8 (And.intro hnew hgT))
  go_loopw [4] (fun i wr => ∃ (k : Nat) (l' : List Nat), k < N ∧ i = .int .i64 (k : Int) ∧ Blk wr p 90 [.slice (some ⟨g7, 0, none⟩) N c7] ∧ wr.ownsRow B 3 1 (.slice (some ⟨g7, 0, none⟩) N c7) N (hnats l') ∧ Hp.Up l' k ∧ l'.Perm (x :: l) ∧ Keeps (HpT p (.slice A l.length c)) w wr) (fun i _ => (intOf i).toNat)
  case atStart => exact ⟨l.length, l ++ [x], by have := HN.out; omega, congrArg (Value.int .i64) (by have := HN.out; omega), hB8, hr8, hup0, List.perm_append_singleton x l, hk8⟩
  case round =>
    obtain ⟨k, l', hk, rfl, hBk, hrk, hUp, hPm, hKk⟩ := hrel
    have hl' : l'.length = N := by have := hPm.length_eq; rw [HN.out]; simpa using this
    have cp : wr.cell? ⟨p, 0, none⟩ = some (.slice (some ⟨g7, 0, none⟩) N c7) := by rw [hBk.cell]; rfl
    have hplk := hBk.lt
    have hglk : g7 < wr.heap.size := (hrk.lt g7 rfl).2
    have hbase' := Nat.le_trans hbase hKk.size
    by_cases h0 : k = 0
    · subst h0
      have hOk' := hUp.done (.inl rfl)
      have HE := Lib.hid (And.intro hBk (And.intro hrk (And.intro hOk' (And.intro hPm (And.intro hKk (And.intro hl' hbase'))))))
      clear hBk hrk hUp hOk' hPm hKk hl' hB8 hr8 hup0 hk8 hnew hgT hrow hbase hbase'
      go_wp2
      go_end0
      exact ⟨rfl, _, l', ⟨HE.out.1, by rw [HE.out.2.2.2.2.2.1]; exact HE.out.2.1, HE.out.2.2.2.2.2.2⟩, HE.out.2.2.1, HE.out.2.2.2.1, HE.out.2.2.2.2.1, hM.out.2.1⟩
    · have hk1 : 1 ≤ k := by omega
      have cu := hp_cell hrk (hnats_at (l := l') (i := (k - 1) / 2) (by omega))
      have ck := hp_cell hrk (hnats_at (l := l') (i := k) (by omega))
      generalize hxu : Hp.at_ l' ((k - 1) / 2) = xu at cu
      generalize hxk : Hp.at_ l' k = xk at ck
      have HX := Lib.hid (And.intro hxu hxk)
      clear h0 hxu hxk hB8 hr8 hup0 hk8 hnew hgT hrow
      go_wp2_with fail
      rw [show (((k : Int) - 1) / 2) = (((k - 1) / 2 : Nat) : Int) by omega]
      obtain ⟨q, hq⟩ : ∃ q, q = (k - 1) / 2 := ⟨_, rfl⟩
      rw [← hq] at cu HX ⊢
      have hqm : q < N := by omega
      have HQ := Lib.hid hq
      clear hq
      have keepS : ∀ w', Below wr.heap.size wr w' → (Below wr.heap.size wr w' ∧ w'.cell? ⟨p, 0, none⟩ = some (.slice (some ⟨g7, 0, none⟩) N c7) ∧ w'.cell? ⟨g7, q, none⟩ = some (.int .i64 (xu : Int)) ∧ w'.cell? ⟨g7, k, none⟩ = some (.int .i64 (xk : Int))) := fun w' hb =>
        ⟨hb, (hb.cell (p := ⟨p, 0, none⟩) hplk).trans cp, (hb.cell (p := ⟨g7, q, none⟩) hglk).trans cu, (hb.cell (p := ⟨g7, k, none⟩) hglk).trans ck⟩
      have hS0 := keepS _ (below_drew (Below.refl _ _))
      clear cp cu ck
      refine wp_walk (by kernel_rfl) (by kernel_rfl) (fun _ _ => True) (fun w' => (Below wr.heap.size wr w' ∧ w'.cell? ⟨p, 0, none⟩ = some (.slice (some ⟨g7, 0, none⟩) N c7) ∧ w'.cell? ⟨g7, q, none⟩ = some (.int .i64 (xu : Int)) ∧ w'.cell? ⟨g7, k, none⟩ = some (.int .i64 (xk : Int)))) hS0 ?_
      repeat (first | (refine settle_skip (fun _ => by rfl) ?_; (simp only [Act.put, List.setIfInBounds_toArray, List.set_cons_zero, List.set_cons_succ])) | (refine' settle_run (fun _ _ => trivial) (fun _ => by rfl) ?_ ?_; rotate_left; (focus (intro ρ w hS hF; (try dsimp only at hS); go_split_ands; go_simp; try with_reducible rfl)); (simp only [Act.put, List.setIfInBounds_toArray, List.set_cons_zero, List.set_cons_succ])))
      refine settle_nil ?_
      intro ρ w4 hS _
      have hb4 := hS.1
      have S4 := keepS _ (below_drew hb4)
      rcases hle4 : decide (xu ≤ xk) with _ | _
      · have hlt4 : xk < xu := by have := of_decide_eq_false hle4; omega
        clear hS S4
        have hS4 := keepS _ (below_drew hb4)
        dsimp only
        go_wp2_with fail
        have hne5 := own_blk_ne hrk hBk (by decide)
        have hne6 : p ≠ g7 := fun e => hne5 (by rw [e]; rfl)
        have hr4 := own_keeps hrk (Keeps.of_below hb4 (fun _ => False)) (fun _ _ => id)
        have keepP : ∀ w', Keeps (fun i => i = g7) w4 w' → (Keeps (fun i => i = g7) w4 w' ∧ w'.cell? ⟨p, 0, none⟩ = some (.slice (some ⟨g7, 0, none⟩) N c7)) := fun w' hk => ⟨hk, by rw [((hBk.below hb4).keeps hk (fun e => hne6 e)).cell]; rfl⟩
        have hP0 := keepP _ ((Keeps.refl _ w4).drewN 1)
        have hI0 : w4.drew.ownsRow B 3 1 (.slice (some ⟨g7, 0, none⟩) N c7) N (hnats l') ∧ w4.drew.cell? ⟨g7, q, none⟩ = some (.int .i64 (xu : Int)) ∧ w4.drew.cell? ⟨g7, k, none⟩ = some (.int .i64 (xk : Int)) := ⟨hr4.drew, hS4.2.2.1, hS4.2.2.2⟩
        refine wp_walk_ph 27 (fun i => ([25] : List Nat).contains i) (fun i => ([9] : List Nat).contains i) [25] (by intro m h; simpa using h) (by kernel_rfl) (by kernel_rfl) (by kernel_rfl) [] (by kernel_rfl) (fun w w' => Below w.heap.size w w') (fun w' => (Keeps (fun i => i = g7) w4 w' ∧ w'.cell? ⟨p, 0, none⟩ = some (.slice (some ⟨g7, 0, none⟩) N c7))) (fun c _ w' => match c with | 0 => (w'.ownsRow B 3 1 (.slice (some ⟨g7, 0, none⟩) N c7) N (hnats l') ∧ w'.cell? ⟨g7, q, none⟩ = some (.int .i64 (xu : Int)) ∧ w'.cell? ⟨g7, k, none⟩ = some (.int .i64 (xk : Int))) | _ + 1 => w'.ownsRow B 3 1 (.slice (some ⟨g7, 0, none⟩) N c7) N ((hnats l').set q (.int .i64 (xk : Int)))) hP0 (fun _ => hI0) (fun c ρ w w' h k => by cases c with | zero => exact ⟨own_keeps h.1 (Keeps.of_below k (fun _ => False)) (fun _ _ => id), (k.cell (p := ⟨g7, q, none⟩) (h.1.lt g7 rfl).2).trans h.2.1, (k.cell (p := ⟨g7, _, none⟩) (h.1.lt g7 rfl).2).trans h.2.2⟩ | succ c => exact own_keeps h (Keeps.of_below k (fun _ => False)) (fun _ _ => id)) (fun _ _ _ h => h) (fun c ρ ρ' w hL h => by cases c with | zero => exact h | succ c => exact h) ?_
        simp only [List.length_cons, List.length_nil, Nat.reduceAdd, Nat.reduceSub, List.take_succ_cons, List.take_zero, List.drop_succ_cons, List.drop_zero]
        repeat (first | (refine psettle_skip (by rfl) (fun _ => by rfl) ?_; (simp only [Act.put, List.setIfInBounds_toArray, List.set_cons_zero, List.set_cons_succ])) | (refine' psettle_run (by rfl) (fun _ _ => Below.refl _ _) (fun _ => by rfl) ?_ ?_; rotate_left; (focus (intro ρ w hS hF hP; (try dsimp only at hS); go_split_ands; go_simp; try with_reducible rfl)); (simp only [Act.put, List.setIfInBounds_toArray, List.set_cons_zero, List.set_cons_succ])))
        (refine' psettle_run (by rfl) (fun _ _ => Below.refl _ _) (fun _ => by rfl) ?_ ?_; rotate_left; (focus (intro ρ w hS hF hP; have hI : (w.ownsRow B 3 1 (.slice (some ⟨g7, 0, none⟩) N c7) N (hnats l') ∧ w.cell? ⟨g7, q, none⟩ = some (.int .i64 (xu : Int)) ∧ w.cell? ⟨g7, k, none⟩ = some (.int .i64 (xk : Int))) := hP (by rfl); go_split_ands; go_simp; try with_reducible rfl)); (simp only [Act.put, List.setIfInBounds_toArray, List.set_cons_zero, List.set_cons_succ]))
        repeat (first | (refine psettle_skip (by rfl) (fun _ => by rfl) ?_; (simp only [Act.put, List.setIfInBounds_toArray, List.set_cons_zero, List.set_cons_succ])) | (refine' psettle_run (by rfl) (fun _ _ => Below.refl _ _) (fun _ => by rfl) ?_ ?_; rotate_left; (focus (intro ρ w hS hF hP; (try dsimp only at hS); go_split_ands; go_simp; try with_reducible rfl)); (simp only [Act.put, List.setIfInBounds_toArray, List.set_cons_zero, List.set_cons_succ])))
        (refine' psettle_run (by rfl) (fun _ _ => Below.refl _ _) (fun _ => by rfl) ?_ ?_; rotate_left; (focus (intro ρ w hS hF hP; have hI : (w.ownsRow B 3 1 (.slice (some ⟨g7, 0, none⟩) N c7) N (hnats l') ∧ w.cell? ⟨g7, q, none⟩ = some (.int .i64 (xu : Int)) ∧ w.cell? ⟨g7, k, none⟩ = some (.int .i64 (xk : Int))) := hP (by rfl); go_split_ands; go_simp; try with_reducible rfl)); (simp only [Act.put, List.setIfInBounds_toArray, List.set_cons_zero, List.set_cons_succ]))
        repeat (first | (refine psettle_skip (by rfl) (fun _ => by rfl) ?_; (simp only [Act.put, List.setIfInBounds_toArray, List.set_cons_zero, List.set_cons_succ])) | (refine' psettle_run (by rfl) (fun _ _ => Below.refl _ _) (fun _ => by rfl) ?_ ?_; rotate_left; (focus (intro ρ w hS hF hP; (try dsimp only at hS); go_split_ands; go_simp; try with_reducible rfl)); (simp only [Act.put, List.setIfInBounds_toArray, List.set_cons_zero, List.set_cons_succ])))
        (refine psettle_turn (v := undef) (by rfl) (fun _ => by rfl) ?_ ?_; (focus (intro ρ w hS hF hP K hK; (simp only [Act.put, List.setIfInBounds_toArray, List.set_cons_zero, List.set_cons_succ] at hK); (have hI : (w.ownsRow B 3 1 (.slice (some ⟨g7, 0, none⟩) N c7) N (hnats l') ∧ w.cell? ⟨g7, q, none⟩ = some (.int .i64 (xu : Int)) ∧ w.cell? ⟨g7, k, none⟩ = some (.int .i64 (xk : Int))) := hP (by rfl); refine wp_set_row hI.1 (.tmp 66) (.tmp 58) q (.int .i64 (xk : Int)) (by kernel_rfl) hqm rfl rfl rfl rfl rfl ?_; intro w' hr' hg'; exact hK _ (keepP _ (hS.1.trans ((Keeps.of_grown hg').mono fun i hi => by injection hi))) hr'))); (simp only [Act.put, List.setIfInBounds_toArray, List.set_cons_zero, List.set_cons_succ]))
        repeat (first | (refine psettle_skip (by rfl) (fun _ => by rfl) ?_; (simp only [Act.put, List.setIfInBounds_toArray, List.set_cons_zero, List.set_cons_succ])) | (refine' psettle_run (by rfl) (fun _ _ => Below.refl _ _) (fun _ => by rfl) ?_ ?_; rotate_left; (focus (intro ρ w hS hF hP; (try dsimp only at hS); go_split_ands; go_simp; try with_reducible rfl)); (simp only [Act.put, List.setIfInBounds_toArray, List.set_cons_zero, List.set_cons_succ])))
        refine psettle_nil ?_
        intro ρ w5 hS hI _
        have hk5 := hS.1
        have hr5 : w5.ownsRow B 3 1 (.slice (some ⟨g7, 0, none⟩) N c7) N ((hnats l').set q (.int .i64 (xk : Int))) := hI
        have hB5 := (hBk.below hb4).keeps hk5 (fun e => hne6 e)
        clear hS hI hP0 hI0 keepP keepS hS4 hS0
        dsimp only
        go_wp2_with (first | (refine wpl_set_row hr5 k (.int .i64 (xu : Int)) (by kernel_rfl) (by omega) (by rfl) (by rfl) (by rfl) (by rfl) (by rfl) (by rfl) ?_; intro w7 hr7 hg7) | fail)
        have hB7 := hB5.grown hg7 (fun e => hne6 (by injection e))
        have hgT : ∀ i, i < w.heap.size → i = g7 → HpT p (.slice A l.length c) i := fun i hi e => by
          subst e
          exact hM.out.2.2.resolve_right (by omega)
        have hK7 := ((hKk.step (Keeps.of_below hb4 (fun _ => False)) (fun i _ h => h.elim)).step hk5 hgT).step (Keeps.of_grown hg7) (fun i hi e => hgT i hi (by injection e))
        have hU7 := hUp.step (by omega) (by rw [← HQ.out, HX.out.1, HX.out.2]; exact hlt4)
        have hP7 := (Hp.swap_perm (l := l') (i := (k - 1) / 2) (j := k) (by omega) (by omega)).trans hPm
        have hr7' : w7.ownsRow B 3 1 (.slice (some ⟨g7, 0, none⟩) N c7) N (hnats (Hp.swap l' ((k - 1) / 2) k)) := by
          unfold Hp.swap
          rw [← hnats_set, ← hnats_set, ← HQ.out, HX.out.1, HX.out.2]
          exact hr7
        have HE := Lib.hid (And.intro hB7 (And.intro hr7' (And.intro hU7 (And.intro hP7 hK7))))
        clear hB7 hr7' hU7 hP7 hK7 hr7 hr5 hg7 hB5 hgT hk5
        go_roundw
        case rel => exact ⟨q, _, hqm, by go_num, HE.out.1, HE.out.2.1, by rw [HQ.out]; exact HE.out.2.2.1, HE.out.2.2.2.1, HE.out.2.2.2.2⟩
        case measure => simp [intOf]; have := HQ.out; omega
      · have hOk' := hUp.done (.inr (by rw [← HQ.out, HX.out.1, HX.out.2]; exact of_decide_eq_true hle4))
        have hr5 := own_keeps hrk (Keeps.of_below hb4 (fun _ => False)) (fun _ _ => id)
        have hB5 := hBk.below hb4
        have hK5 := hKk.step (Keeps.of_below hb4 (fun _ => False)) (fun i _ h => h.elim)
        have hbase5 := Nat.le_trans hbase' hb4.size
        have HE := Lib.hid (And.intro hB5 (And.intro hr5 (And.intro hOk' (And.intro hPm (And.intro hK5 (And.intro hl' hbase5))))))
        clear hS S4 hS0 keepS hb4 hr5 hB5 hK5 hbase5 hOk'
        dsimp only
        go_wp2

        refine bodyPost_ret (results_none rfl _ _ _) rfl ?_
        exact ⟨rfl, _, l', ⟨HE.out.1, by rw [HE.out.2.2.2.2.2.1]; exact HE.out.2.1, HE.out.2.2.2.2.2.2⟩, HE.out.2.2.1, HE.out.2.2.2.1, HE.out.2.2.2.2.1, hM.out.2.1⟩
end Go.Proofs.YtfjmhmfkhgjnhaaDoor


namespace Go.Proofs.YtfjmhmfkhgjnhaaDoor
set_option linter.unusedVariables false
set_option linter.unusedSimpArgs false
set_option maxRecDepth 100000
open Go.RowKit

theorem own_short {w : World} {B g n c k : Nat} {e : TypeId} {xs : List Value} (h : w.ownsRow B e 1 (.slice (some ⟨g, 0, none⟩) n c) n xs) (hk : k ≤ n) : w.ownsRow B e 1 (.slice (some ⟨g, 0, none⟩) k c) k (xs.take k) := by
  obtain ⟨cs, hB, hl, rfl, hn, hm, hb⟩ := row_blk h
  have := row_of_blk (size := 1) (c := c) (n := k) hB hl hb (by omega) hm
  simpa [List.take_take, Nat.min_eq_left hk] using this

namespace Hp
/-- the least one of i and the first s below it -/
def lowS (l : L) (i : Nat) : Nat → Nat
  | 0 => i
  | 1 => if 2 * i + 1 < l.length ∧ at_ l (2 * i + 1) < at_ l i then 2 * i + 1 else i
  | _ => low l i
theorem lowS_step (l : L) (i s : Nat) (hs : s < 2) (h : 2 * i + 1 + s < l.length) : lowS l i (s + 1) = if at_ l (2 * i + 1 + s) < at_ l (lowS l i s) then 2 * i + 1 + s else lowS l i s := by
  match s, hs with
  | 0, _ =>
    simp only [lowS, Nat.add_zero] at h ⊢
    by_cases h2 : at_ l (2 * i + 1) < at_ l i
    · rw [if_pos ⟨h, h2⟩, if_pos h2]
    · rw [if_neg (fun x => h2 x.2), if_neg h2]
  | 1, _ =>
    have h' : 2 * i + 2 < l.length := by omega
    show (if 2 * i + 2 < l.length ∧ at_ l (2 * i + 2) < at_ l (lowS l i 1) then 2 * i + 2 else lowS l i 1) = if at_ l (2 * i + 2) < at_ l (lowS l i 1) then 2 * i + 2 else lowS l i 1
    generalize lowS l i 1 = a
    by_cases h2 : at_ l (2 * i + 2) < at_ l a
    · rw [if_pos ⟨h', h2⟩, if_pos h2]
    · rw [if_neg (fun x => h2 x.2), if_neg h2]
theorem lowS_end (l : L) (i s : Nat) (hs : s ≤ 2) (h : s = 2 ∨ l.length ≤ 2 * i + 1 + s) : low l i = lowS l i s := by
  match s, hs with
  | 0, _ =>
    have : l.length ≤ 2 * i + 1 := by omega
    simp only [lowS, low]
    rw [if_neg (fun x => by omega), if_neg (fun x => by omega)]
  | 1, _ =>
    have : l.length ≤ 2 * i + 2 := by omega
    simp only [lowS, low]
    rw [if_neg (fun x => by omega)]
  | 2, _ => rfl
theorem lowS_lt (l : L) (i s : Nat) (hs : s ≤ 2) (hi : i < l.length) : lowS l i s < l.length := by
  match s, hs with
  | 0, _ => exact hi
  | 1, _ => simp only [lowS]; split <;> omega
  | 2, _ =>
    have h0 := (low_cases l i).1
    simp only [lowS]
    omega
end Hp


set_option maxHeartbeats 4000000 in
theorem pop_any (w : World) (B p : Nat) (u : Value) (l : List Nat) (hR : HpR w B p u l) (hn : l.length ≤ 1000000) (h0 : 0 < l.length) :
    Calls Tryd.prog 67 #[.pointer (some ⟨p, 0, none⟩)] w fun e w' => e = .returned (.int .i64 (Hp.at_ l 0 : Int)) ∧ ∃ u', HpR w' B p u' (Hp.pop l) ∧ Keeps (HpT p u) w w' ∧ u'.ownBlock = u.ownBlock := by
  have hne := hR.ne
  obtain ⟨hB, hrow, hbase⟩ := hR
  have c0 : w.cell? ⟨p, 0, none⟩ = some u := by rw [hB.cell]; rfl
  have hpl := hB.lt
  obtain ⟨g, c, rfl, hle, hm, hgb, hgl⟩ := own_addr hrow h0
  unfold maxLen at hm
  have hpg : p ≠ g := fun e => hne (by rw [e]; rfl)
  obtain ⟨N, hN⟩ : ∃ N, N = l.length := ⟨_, rfl⟩
  have f0 := hp_cell hrow (hnats_at (l := l) (i := 0) h0)
  have f1 := hp_cell hrow (hnats_at (l := l) (i := l.length - 1) (by omega))
  rw [← hN] at hrow c0 hle hn h0 f1 hB
  have HN := Lib.hid hN
  obtain ⟨M, hM⟩ : ∃ M, M = N - 1 := ⟨_, rfl⟩
  rw [← hM] at f1
  have hMN : M < N := by omega
  have HM := Lib.hid hM
  generalize hx0 : Hp.at_ l 0 = x0 at f0
  generalize hx1 : Hp.at_ l M = x1 at f1
  have HX := Lib.hid (And.intro hx0 hx1)
  have keepS : ∀ w', Below w.heap.size w w' → (Below w.heap.size w w' ∧ w'.cell? ⟨p, 0, none⟩ = some (.slice (some ⟨g, 0, none⟩) N c) ∧ w'.cell? ⟨g, 0, none⟩ = some (.int .i64 (x0 : Int)) ∧ w'.cell? ⟨g, M, none⟩ = some (.int .i64 (x1 : Int))) := fun w' hb =>
    ⟨hb, (hb.cell (p := ⟨p, 0, none⟩) hpl).trans c0, (hb.cell (p := ⟨g, 0, none⟩) hgl).trans f0, (hb.cell (p := ⟨g, M, none⟩) hgl).trans f1⟩
  have hS0 := keepS _ (below_drew (Below.refl _ _))
  clear hN hM hx0 hx1 f0 f1 c0
  go_enter Tryd.func67, Tryd.ntmps67
  go_wp2_with fail
  refine wp_walk (by kernel_rfl) (by kernel_rfl) (fun _ _ => True) (fun w' => (Below w.heap.size w w' ∧ w'.cell? ⟨p, 0, none⟩ = some (.slice (some ⟨g, 0, none⟩) N c) ∧ w'.cell? ⟨g, 0, none⟩ = some (.int .i64 (x0 : Int)) ∧ w'.cell? ⟨g, M, none⟩ = some (.int .i64 (x1 : Int)))) hS0 ?_
  repeat (first | (refine settle_skip (fun _ => by rfl) ?_; (simp only [Act.put, List.setIfInBounds_toArray, List.set_cons_zero, List.set_cons_succ])) | (refine' settle_run (fun _ _ => trivial) (fun _ => by rfl) ?_ ?_; rotate_left; (focus (intro ρ w hS hF; (try dsimp only at hS); go_split_ands; go_simp; try with_reducible rfl)); (simp only [Act.put, List.setIfInBounds_toArray, List.set_cons_zero, List.set_cons_succ])))
  refine settle_nil ?_
  intro ρ w1 hS _
  have hb1 := hS.1
  have hS1 := keepS _ (below_drew hb1)
  clear hS hS0
  dsimp only
  go_wp2_with fail
  have hwr : IntKind.i64.wrap ((N : Int) - 1) = (M : Int) := by
    have := HM.out
    rw [IntKind.wrap_i64]
    omega
  rw [hwr]
  clear hwr
  refine wp_walk_last (by kernel_rfl) (by kernel_rfl) (fun _ _ => True) (fun w' => (Below w.heap.size w w' ∧ w'.cell? ⟨p, 0, none⟩ = some (.slice (some ⟨g, 0, none⟩) N c) ∧ w'.cell? ⟨g, 0, none⟩ = some (.int .i64 (x0 : Int)) ∧ w'.cell? ⟨g, M, none⟩ = some (.int .i64 (x1 : Int)))) hS1 ?_
  simp only [List.length_cons, List.length_nil, Nat.reduceAdd, Nat.reduceSub, List.take_succ_cons, List.take_zero, List.drop_succ_cons, List.drop_zero]
  repeat (first | (refine settle_skip (fun _ => by rfl) ?_; (simp only [Act.put, List.setIfInBounds_toArray, List.set_cons_zero, List.set_cons_succ])) | (refine' settle_run (fun _ _ => trivial) (fun _ => by rfl) ?_ ?_; rotate_left; (focus (intro ρ w hS hF; (try dsimp only at hS); go_split_ands; go_simp; try with_reducible rfl)); (simp only [Act.put, List.setIfInBounds_toArray, List.set_cons_zero, List.set_cons_succ])))
  refine settle_nil ?_
  intro ρ w2 hS _
  have hb2 := hS.1
  have hr2 := own_keeps hrow (Keeps.of_below hb2 (fun _ => False)) (fun _ _ => id)
  have hB2 := hB.below hb2
  clear hS hS1 keepS
  dsimp only
  have hpl2 := hB2.lt
  go_wp2_with (first | (refine wpl_set_row hr2 0 (.int .i64 (x1 : Int)) (by kernel_rfl) (by omega) (by rfl) (by rfl) (by rfl) (by rfl) (by rfl) (by rfl) ?_; intro w3 hr3 hg3; have hB3 := hB2.grown hg3 (fun e => hpg (by injection e)); have c3 : w3.cell? ⟨p, 0, none⟩ = some (.slice (some ⟨g, 0, none⟩) N c) := (by rw [hB3.cell]; rfl); have hpl3 := hB3.lt) | (refine wpl_set_blk hB3 0 (.slice (some ⟨g, 0, none⟩) M c) (by kernel_rfl) (by simp) (by rfl) (by rfl) (by rfl) (by rfl) (by rfl) (by rfl) ?_; intro w4 hB4 hg4) | fail)
  have hr4 : w4.ownsRow B 3 1 (.slice (some ⟨g, 0, none⟩) M c) M (hnats (Hp.cut l)) := by
    have h1 := own_keeps (own_short hr3 (Nat.le_of_lt hMN)) (Keeps.of_grown hg4) (fun j hj e => hpg (by
      have e1 : j = g := by simpa [Value.ownBlock] using hj.symm
      have e2 : j = p := by simpa using e
      rw [← e2, e1]))
    have e : ((hnats l).set 0 (.int .i64 (x1 : Int))).take M = hnats (Hp.cut l) := by
      unfold Hp.cut
      rw [hnats_set, ← HX.out.2, HM.out, HN.out]
      simp [hnats, List.map_take]
    rw [e] at h1
    exact h1
  have hk4 : Keeps (fun k => k = p ∨ k = g) w w4 := ((Keeps.of_below hb2 (fun k => k = p ∨ k = g)).step (Keeps.of_grown hg3) (fun i _ e => .inr (by injection e))).step (Keeps.of_grown hg4) (fun i _ e => .inl (by injection e))
  have hz4 := Nat.le_trans hbase hk4.size
  have hlc : (Hp.cut l).length = M := by rw [Hp.cut_length, HM.out, HN.out]
  have HS := Lib.hid (And.intro hB4 (And.intro hr4 (And.intro hk4 (And.intro hz4 hlc))))
  clear hr2 hB2 hr3 hB3 c3 hg3 hg4 hr4 hB4 hk4 hz4 hlc hrow hB hne hpl hpl2 hpl3
  go_loopw [5] (fun i wr => ∃ (i' : Nat) (l' : List Nat) (f : Nat), i = .int .i64 (i' : Int) ∧ l'.length = M ∧ (i' < M ∨ i' = 0) ∧ Hp.down f l' i' = Hp.pop l ∧ M < f + i' ∧ Blk wr p 90 [.slice (some ⟨g, 0, none⟩) M c] ∧ wr.ownsRow B 3 1 (.slice (some ⟨g, 0, none⟩) M c) M (hnats l') ∧ Keeps (fun k => k = p ∨ k = g) w wr ∧ B ≤ wr.heap.size) (fun i _ => M - (intOf i).toNat)
  case atStart => exact ⟨0, Hp.cut l, (Hp.cut l).length + 1, rfl, HS.out.2.2.2.2, .inr rfl, rfl, by have := HS.out.2.2.2.2; omega, HS.out.1, HS.out.2.1, HS.out.2.2.1, HS.out.2.2.2.1⟩
  case round =>
    obtain ⟨i, l', f, rfl, hll, hiM0, hd, hf, hBw, hrw, hkw, hzw⟩ := hrel
    obtain ⟨W5, hW5⟩ : ∃ W5, W5 = wr := ⟨_, rfl⟩
    subst hW5
    clear HS
    have hi1 : i ≤ 1000000 := by omega
    go_wp2_with fail
    go_loopw [6, 7] (fun a b wr => ∃ s : Nat, s ≤ 2 ∧ a = .int .i64 (Hp.lowS l' i s : Int) ∧ b = .int .i64 ((2 * i + 1 + s : Nat) : Int) ∧ Below W5.heap.size W5 wr) (fun _ b _ => 2 * i + 4 - (intOf b).toNat)
    case atStart => exact ⟨0, by omega, rfl, by go_num, Below.refl _ _⟩
    case round =>
      obtain ⟨s, hs2, rfl, rfl, hbs⟩ := hrel
      obtain ⟨k, hk⟩ : ∃ k, k = 2 * i + 1 + s := ⟨_, rfl⟩
      rw [← hk]
      by_cases hs : s = 2
      · have hk1 : 2 * i + 2 < k := by omega
        clear hk
        have hlow := Hp.lowS_end l' i s hs2 (.inl hs)
        obtain ⟨f, rfl⟩ : ∃ f', f = f' + 1 := ⟨f - 1, by omega⟩
        by_cases hlj : Hp.lowS l' i s = i
        · have hpop : l' = Hp.pop l := by rw [← hd]; unfold Hp.down; rw [if_pos (by rw [hlow]; exact hlj)]
          have hB6 := hBw.below hbs
          have hr6 := own_keeps hrw (Keeps.of_below hbs (fun _ => False)) (fun _ _ => id)
          have hk6 := hkw.step (Keeps.of_below hbs (fun _ => False)) (fun _ _ h => h.elim)
          have hz6 := Nat.le_trans hzw hbs.size
          have HE := Lib.hid (And.intro hB6 (And.intro hr6 (And.intro hk6 (And.intro hz6 (And.intro hpop hll)))))
          rw [hlj]
          clear hB6 hr6 hk6 hz6 hpop hlow hlj hd hll hBw hrw hkw hbs
          go_wp2_with fail
          go_ret
          exact ⟨rfl, .slice (some ⟨g, 0, none⟩) M c, ⟨HE.out.1, by rw [← HE.out.2.2.2.2.1, HE.out.2.2.2.2.2]; exact HE.out.2.1, HE.out.2.2.2.1⟩, HE.out.2.2.1.mono (fun i h => h.imp id (fun e => by rw [e]; rfl)), rfl⟩
        · obtain ⟨hc1, -, -⟩ := Hp.low_cases l' i
          rw [hlow] at hc1
          obtain ⟨hij, hjl, -⟩ := hc1.resolve_left hlj
          have hd2 : Hp.down f (Hp.swap l' i (Hp.lowS l' i s)) (Hp.lowS l' i s) = Hp.pop l := by
            rw [← hd]
            conv => rhs; unfold Hp.down
            rw [hlow, if_neg hlj]
          obtain ⟨j, hj⟩ : ∃ j, j = Hp.lowS l' i s := ⟨_, rfl⟩
          rw [← hj] at hij hjl hd2 hlj ⊢
          clear hlow hj
          rw [hll] at hjl
          have hij2 : i < j := by omega
          have hiM : i < M := by omega
          have hne4 : ((j : Int) == (i : Int)) = false := by simp; omega
          have ci := hp_cell hrw (hnats_at (l := l') (i := i) (by omega))
          have cj := hp_cell hrw (hnats_at (l := l') (i := j) (by omega))
          generalize hxi : Hp.at_ l' i = xi at ci
          generalize hxj : Hp.at_ l' j = xj at cj
          have hgw : g < W5.heap.size := (hrw.lt g rfl).2
          have hr4 := own_keeps hrw (Keeps.of_below hbs (fun _ => False)) (fun _ _ => id)
          have hB4 := hBw.below hbs
          have keepP : ∀ w', Keeps (fun i => i = g) wr w' → (Keeps (fun i => i = g) wr w' ∧ w'.cell? ⟨p, 0, none⟩ = some (.slice (some ⟨g, 0, none⟩) M c)) := fun w' hk => ⟨hk, by rw [(hB4.keeps hk (fun e => hpg e)).cell]; rfl⟩
          have hP0 := keepP _ ((Keeps.refl _ wr).drewN 1)
          have hI0 : wr.drew.ownsRow B 3 1 (.slice (some ⟨g, 0, none⟩) M c) M (hnats l') ∧ wr.drew.cell? ⟨g, i, none⟩ = some (.int .i64 (xi : Int)) ∧ wr.drew.cell? ⟨g, j, none⟩ = some (.int .i64 (xj : Int)) := ⟨hr4.drew, (hbs.cell (p := ⟨g, i, none⟩) hgw).trans ci, (hbs.cell (p := ⟨g, j, none⟩) hgw).trans cj⟩
          have HX2 := Lib.hid (And.intro hxi hxj)
          clear hxi hxj ci cj
          go_wp2_with fail
          refine wp_walk_ph 27 (fun i => ([25] : List Nat).contains i) (fun i => ([9] : List Nat).contains i) [25] (by intro m h; simpa using h) (by kernel_rfl) (by kernel_rfl) (by kernel_rfl) [] (by kernel_rfl) (fun w w' => Below w.heap.size w w') (fun w' => (Keeps (fun i => i = g) wr w' ∧ w'.cell? ⟨p, 0, none⟩ = some (.slice (some ⟨g, 0, none⟩) M c))) (fun c' _ w' => match c' with | 0 => (w'.ownsRow B 3 1 (.slice (some ⟨g, 0, none⟩) M c) M (hnats l') ∧ w'.cell? ⟨g, i, none⟩ = some (.int .i64 (xi : Int)) ∧ w'.cell? ⟨g, j, none⟩ = some (.int .i64 (xj : Int))) | _ + 1 => w'.ownsRow B 3 1 (.slice (some ⟨g, 0, none⟩) M c) M ((hnats l').set i (.int .i64 (xj : Int)))) hP0 (fun _ => hI0) (fun c ρ w w' h k => by cases c with | zero => exact ⟨own_keeps h.1 (Keeps.of_below k (fun _ => False)) (fun _ _ => id), (k.cell (p := ⟨g, i, none⟩) (h.1.lt g rfl).2).trans h.2.1, (k.cell (p := ⟨g, j, none⟩) (h.1.lt g rfl).2).trans h.2.2⟩ | succ c => exact own_keeps h (Keeps.of_below k (fun _ => False)) (fun _ _ => id)) (fun _ _ _ h => h) (fun c ρ ρ' w hL h => by cases c with | zero => exact h | succ c => exact h) ?_
          simp only [List.length_cons, List.length_nil, Nat.reduceAdd, Nat.reduceSub, List.take_succ_cons, List.take_zero, List.drop_succ_cons, List.drop_zero]
          repeat (first | (refine psettle_skip (by rfl) (fun _ => by rfl) ?_; (simp only [Act.put, List.setIfInBounds_toArray, List.set_cons_zero, List.set_cons_succ])) | (refine' psettle_run (by rfl) (fun _ _ => Below.refl _ _) (fun _ => by rfl) ?_ ?_; rotate_left; (focus (intro ρ w hS hF hP; (try dsimp only at hS); go_split_ands; go_simp; try with_reducible rfl)); (simp only [Act.put, List.setIfInBounds_toArray, List.set_cons_zero, List.set_cons_succ])))
          (refine' psettle_run (by rfl) (fun _ _ => Below.refl _ _) (fun _ => by rfl) ?_ ?_; rotate_left; (focus (intro ρ w hS hF hP; have hI : (w.ownsRow B 3 1 (.slice (some ⟨g, 0, none⟩) M c) M (hnats l') ∧ w.cell? ⟨g, i, none⟩ = some (.int .i64 (xi : Int)) ∧ w.cell? ⟨g, j, none⟩ = some (.int .i64 (xj : Int))) := hP (by rfl); go_split_ands; go_simp; try with_reducible rfl)); (simp only [Act.put, List.setIfInBounds_toArray, List.set_cons_zero, List.set_cons_succ]))
          repeat (first | (refine psettle_skip (by rfl) (fun _ => by rfl) ?_; (simp only [Act.put, List.setIfInBounds_toArray, List.set_cons_zero, List.set_cons_succ])) | (refine' psettle_run (by rfl) (fun _ _ => Below.refl _ _) (fun _ => by rfl) ?_ ?_; rotate_left; (focus (intro ρ w hS hF hP; (try dsimp only at hS); go_split_ands; go_simp; try with_reducible rfl)); (simp only [Act.put, List.setIfInBounds_toArray, List.set_cons_zero, List.set_cons_succ])))
          (refine' psettle_run (by rfl) (fun _ _ => Below.refl _ _) (fun _ => by rfl) ?_ ?_; rotate_left; (focus (intro ρ w hS hF hP; have hI : (w.ownsRow B 3 1 (.slice (some ⟨g, 0, none⟩) M c) M (hnats l') ∧ w.cell? ⟨g, i, none⟩ = some (.int .i64 (xi : Int)) ∧ w.cell? ⟨g, j, none⟩ = some (.int .i64 (xj : Int))) := hP (by rfl); go_split_ands; go_simp; try with_reducible rfl)); (simp only [Act.put, List.setIfInBounds_toArray, List.set_cons_zero, List.set_cons_succ]))
          repeat (first | (refine psettle_skip (by rfl) (fun _ => by rfl) ?_; (simp only [Act.put, List.setIfInBounds_toArray, List.set_cons_zero, List.set_cons_succ])) | (refine' psettle_run (by rfl) (fun _ _ => Below.refl _ _) (fun _ => by rfl) ?_ ?_; rotate_left; (focus (intro ρ w hS hF hP; (try dsimp only at hS); go_split_ands; go_simp; try with_reducible rfl)); (simp only [Act.put, List.setIfInBounds_toArray, List.set_cons_zero, List.set_cons_succ])))
          (refine psettle_turn (v := undef) (by rfl) (fun _ => by rfl) ?_ ?_; (focus (intro ρ w hS hF hP K hK; (simp only [Act.put, List.setIfInBounds_toArray, List.set_cons_zero, List.set_cons_succ] at hK); (have hI : (w.ownsRow B 3 1 (.slice (some ⟨g, 0, none⟩) M c) M (hnats l') ∧ w.cell? ⟨g, i, none⟩ = some (.int .i64 (xi : Int)) ∧ w.cell? ⟨g, j, none⟩ = some (.int .i64 (xj : Int))) := hP (by rfl); refine wp_set_row hI.1 (.tmp 101) (.tmp 93) i (.int .i64 (xj : Int)) (by kernel_rfl) hiM rfl rfl rfl rfl rfl ?_; intro w' hr' hg'; exact hK _ (keepP _ (hS.1.trans ((Keeps.of_grown hg').mono fun i hi => by injection hi))) hr'))); (simp only [Act.put, List.setIfInBounds_toArray, List.set_cons_zero, List.set_cons_succ]))
          repeat (first | (refine psettle_skip (by rfl) (fun _ => by rfl) ?_; (simp only [Act.put, List.setIfInBounds_toArray, List.set_cons_zero, List.set_cons_succ])) | (refine' psettle_run (by rfl) (fun _ _ => Below.refl _ _) (fun _ => by rfl) ?_ ?_; rotate_left; (focus (intro ρ w hS hF hP; (try dsimp only at hS); go_split_ands; go_simp; try with_reducible rfl)); (simp only [Act.put, List.setIfInBounds_toArray, List.set_cons_zero, List.set_cons_succ])))
          refine psettle_nil ?_
          intro ρ w5 hS hI _
          have hk5 := hS.1
          have hr5 : w5.ownsRow B 3 1 (.slice (some ⟨g, 0, none⟩) M c) M ((hnats l').set i (.int .i64 (xj : Int))) := hI
          have hB5 := hB4.keeps hk5 (fun e => hpg e)
          clear hS hI hP0 hI0 keepP hr4
          dsimp only
          go_wp2_with (first | (refine wpl_set_row hr5 j (.int .i64 (xi : Int)) (by kernel_rfl) (by omega) (by rfl) (by rfl) (by rfl) (by rfl) (by rfl) (by rfl) ?_; intro w7 hr7 hg7) | fail)
          have hB7 := hB5.grown hg7 (fun e => hpg (by injection e))
          have hK7 := ((hkw.step (Keeps.of_below hbs (fun _ => False)) (fun i _ h => h.elim)).step hk5 (fun i _ e => .inr e)).step (Keeps.of_grown hg7) (fun i _ e => .inr (by injection e))
          have hr7' : w7.ownsRow B 3 1 (.slice (some ⟨g, 0, none⟩) M c) M (hnats (Hp.swap l' i j)) := by
            unfold Hp.swap
            rw [← hnats_set, ← hnats_set, HX2.out.1, HX2.out.2]
            exact hr7
          have hz7 := Nat.le_trans (Nat.le_trans (Nat.le_trans hzw hbs.size) hk5.size) hg7.size
          have hl7 : (Hp.swap l' i j).length = M := by rw [Hp.swap_length]; exact hll
          have HE := Lib.hid (And.intro hB7 (And.intro hr7' (And.intro hd2 (And.intro hl7 (And.intro hK7 hz7)))))
          clear hB7 hr7' hd2 hl7 hK7 hr7 hr5 hg7 hB5 hk5 hz7 hB4 hBw hrw hkw hbs hd hll
          go_roundw
          case rel => exact ⟨j, _, f, by go_num, HE.out.2.2.2.1, .inl hjl, HE.out.2.2.1, by omega, HE.out.1, HE.out.2.1, HE.out.2.2.2.2.1, HE.out.2.2.2.2.2⟩
          case measure => simp [intOf]; omega
      · by_cases hkM : k < M
        · have hk2 : k ≤ 2 * i + 2 := by omega
          have hst := Hp.lowS_step l' i s (by omega) (by rw [hll]; omega)
          have hal := Hp.lowS_lt l' i s hs2 (by omega)
          rw [← hk] at hst
          obtain ⟨a, ha⟩ : ∃ a, a = Hp.lowS l' i s := ⟨_, rfl⟩
          rw [← ha] at hst hal ⊢
          rw [hll] at hal
          have ck := hp_cell hrw (hnats_at (l := l') (i := k) (by omega))
          have ca := hp_cell hrw (hnats_at (l := l') (i := a) (by omega))
          generalize Hp.at_ l' k = xk at ck hst
          generalize Hp.at_ l' a = xa at ca hst
          have cp : W5.cell? ⟨p, 0, none⟩ = some (.slice (some ⟨g, 0, none⟩) M c) := by rw [hBw.cell]; rfl
          have hgw : g < W5.heap.size := (hrw.lt g rfl).2
          have hpw := hBw.lt
          have keepS : ∀ w', Below W5.heap.size W5 w' → (Below W5.heap.size W5 w' ∧ w'.cell? ⟨p, 0, none⟩ = some (.slice (some ⟨g, 0, none⟩) M c) ∧ w'.cell? ⟨g, k, none⟩ = some (.int .i64 (xk : Int)) ∧ w'.cell? ⟨g, a, none⟩ = some (.int .i64 (xa : Int))) := fun w' hb =>
            ⟨hb, (hb.cell (p := ⟨p, 0, none⟩) hpw).trans cp, (hb.cell (p := ⟨g, k, none⟩) hgw).trans ck, (hb.cell (p := ⟨g, a, none⟩) hgw).trans ca⟩
          have hS0 := keepS _ (below_drew hbs)
          have HKk := Lib.hid (And.intro hk (And.intro hst hs))
          clear hk hst hs ha ck ca cp
          go_wp2_with fail
          refine wp_walk (by kernel_rfl) (by kernel_rfl) (fun _ _ => True) (fun w' => (Below W5.heap.size W5 w' ∧ w'.cell? ⟨p, 0, none⟩ = some (.slice (some ⟨g, 0, none⟩) M c) ∧ w'.cell? ⟨g, k, none⟩ = some (.int .i64 (xk : Int)) ∧ w'.cell? ⟨g, a, none⟩ = some (.int .i64 (xa : Int)))) hS0 ?_
          repeat (first | (refine settle_skip (fun _ => by rfl) ?_; (simp only [Act.put, List.setIfInBounds_toArray, List.set_cons_zero, List.set_cons_succ])) | (refine' settle_run (fun _ _ => trivial) (fun _ => by rfl) ?_ ?_; rotate_left; (focus (intro ρ w hS hF; (try dsimp only at hS); go_split_ands; go_simp; try with_reducible rfl)); (simp only [Act.put, List.setIfInBounds_toArray, List.set_cons_zero, List.set_cons_succ])))
          refine settle_nil ?_
          intro ρ w6 hS _
          have hb6 := hS.1
          clear hS hS0 keepS hbs
          dsimp only
          rcases hless : decide (xk < xa) with _ | _
          · have HQ := Lib.hid hless
            go_wp2_with fail
            go_roundw
            case rel => exact ⟨s + 1, by have := HKk.out.2.2; omega, congrArg (Value.int .i64) (by rw [HKk.out.2.1, if_neg (of_decide_eq_false HQ.out)]), congrArg (Value.int .i64) (by have := HKk.out.1; omega), hb6⟩
            case measure => simp [intOf]; omega
          · have HQ := Lib.hid hless
            go_wp2_with fail
            go_roundw
            case rel => exact ⟨s + 1, by have := HKk.out.2.2; omega, congrArg (Value.int .i64) (by rw [HKk.out.2.1, if_pos (of_decide_eq_true HQ.out)]), congrArg (Value.int .i64) (by have := HKk.out.1; omega), hb6⟩
            case measure => simp [intOf]; omega
        · have hk2 : k ≤ 2 * i + 2 := by omega
          have hkM2 : M ≤ k := by omega
          have hor : l'.length ≤ 2 * i + 1 + s := by rw [hll]; omega
          clear hk hkM
          have hlow := Hp.lowS_end l' i s hs2 (.inr hor)
          obtain ⟨f, rfl⟩ : ∃ f', f = f' + 1 := ⟨f - 1, by omega⟩
          by_cases hlj : Hp.lowS l' i s = i
          · have hpop : l' = Hp.pop l := by rw [← hd]; unfold Hp.down; rw [if_pos (by rw [hlow]; exact hlj)]
            have hB6 := hBw.below hbs
            have hr6 := own_keeps hrw (Keeps.of_below hbs (fun _ => False)) (fun _ _ => id)
            have hk6 := hkw.step (Keeps.of_below hbs (fun _ => False)) (fun _ _ h => h.elim)
            have hz6 := Nat.le_trans hzw hbs.size
            have HE := Lib.hid (And.intro hB6 (And.intro hr6 (And.intro hk6 (And.intro hz6 (And.intro hpop hll)))))
            rw [hlj]
            clear hB6 hr6 hk6 hz6 hpop hlow hlj hd hll hBw hrw hkw hbs
            go_wp2_with fail
            go_ret
            exact ⟨rfl, .slice (some ⟨g, 0, none⟩) M c, ⟨HE.out.1, by rw [← HE.out.2.2.2.2.1, HE.out.2.2.2.2.2]; exact HE.out.2.1, HE.out.2.2.2.1⟩, HE.out.2.2.1.mono (fun i h => h.imp id (fun e => by rw [e]; rfl)), rfl⟩
          · obtain ⟨hc1, -, -⟩ := Hp.low_cases l' i
            rw [hlow] at hc1
            obtain ⟨hij, hjl, -⟩ := hc1.resolve_left hlj
            have hd2 : Hp.down f (Hp.swap l' i (Hp.lowS l' i s)) (Hp.lowS l' i s) = Hp.pop l := by
              rw [← hd]
              conv => rhs; unfold Hp.down
              rw [hlow, if_neg hlj]
            obtain ⟨j, hj⟩ : ∃ j, j = Hp.lowS l' i s := ⟨_, rfl⟩
            rw [← hj] at hij hjl hd2 hlj ⊢
            clear hlow hj
            rw [hll] at hjl
            have hij2 : i < j := by omega
            have hiM : i < M := by omega
            have hne4 : ((j : Int) == (i : Int)) = false := by simp; omega
            have ci := hp_cell hrw (hnats_at (l := l') (i := i) (by omega))
            have cj := hp_cell hrw (hnats_at (l := l') (i := j) (by omega))
            generalize hxi : Hp.at_ l' i = xi at ci
            generalize hxj : Hp.at_ l' j = xj at cj
            have hgw : g < W5.heap.size := (hrw.lt g rfl).2
            have hr4 := own_keeps hrw (Keeps.of_below hbs (fun _ => False)) (fun _ _ => id)
            have hB4 := hBw.below hbs
            have keepP : ∀ w', Keeps (fun i => i = g) wr w' → (Keeps (fun i => i = g) wr w' ∧ w'.cell? ⟨p, 0, none⟩ = some (.slice (some ⟨g, 0, none⟩) M c)) := fun w' hk => ⟨hk, by rw [(hB4.keeps hk (fun e => hpg e)).cell]; rfl⟩
            have hP0 := keepP _ ((Keeps.refl _ wr).drewN 1)
            have hI0 : wr.drew.ownsRow B 3 1 (.slice (some ⟨g, 0, none⟩) M c) M (hnats l') ∧ wr.drew.cell? ⟨g, i, none⟩ = some (.int .i64 (xi : Int)) ∧ wr.drew.cell? ⟨g, j, none⟩ = some (.int .i64 (xj : Int)) := ⟨hr4.drew, (hbs.cell (p := ⟨g, i, none⟩) hgw).trans ci, (hbs.cell (p := ⟨g, j, none⟩) hgw).trans cj⟩
            have HX2 := Lib.hid (And.intro hxi hxj)
            clear hxi hxj ci cj
            go_wp2_with fail
            refine wp_walk_ph 27 (fun i => ([25] : List Nat).contains i) (fun i => ([9] : List Nat).contains i) [25] (by intro m h; simpa using h) (by kernel_rfl) (by kernel_rfl) (by kernel_rfl) [] (by kernel_rfl) (fun w w' => Below w.heap.size w w') (fun w' => (Keeps (fun i => i = g) wr w' ∧ w'.cell? ⟨p, 0, none⟩ = some (.slice (some ⟨g, 0, none⟩) M c))) (fun c' _ w' => match c' with | 0 => (w'.ownsRow B 3 1 (.slice (some ⟨g, 0, none⟩) M c) M (hnats l') ∧ w'.cell? ⟨g, i, none⟩ = some (.int .i64 (xi : Int)) ∧ w'.cell? ⟨g, j, none⟩ = some (.int .i64 (xj : Int))) | _ + 1 => w'.ownsRow B 3 1 (.slice (some ⟨g, 0, none⟩) M c) M ((hnats l').set i (.int .i64 (xj : Int)))) hP0 (fun _ => hI0) (fun c ρ w w' h k => by cases c with | zero => exact ⟨own_keeps h.1 (Keeps.of_below k (fun _ => False)) (fun _ _ => id), (k.cell (p := ⟨g, i, none⟩) (h.1.lt g rfl).2).trans h.2.1, (k.cell (p := ⟨g, j, none⟩) (h.1.lt g rfl).2).trans h.2.2⟩ | succ c => exact own_keeps h (Keeps.of_below k (fun _ => False)) (fun _ _ => id)) (fun _ _ _ h => h) (fun c ρ ρ' w hL h => by cases c with | zero => exact h | succ c => exact h) ?_
            simp only [List.length_cons, List.length_nil, Nat.reduceAdd, Nat.reduceSub, List.take_succ_cons, List.take_zero, List.drop_succ_cons, List.drop_zero]
            repeat (first | (refine psettle_skip (by rfl) (fun _ => by rfl) ?_; (simp only [Act.put, List.setIfInBounds_toArray, List.set_cons_zero, List.set_cons_succ])) | (refine' psettle_run (by rfl) (fun _ _ => Below.refl _ _) (fun _ => by rfl) ?_ ?_; rotate_left; (focus (intro ρ w hS hF hP; (try dsimp only at hS); go_split_ands; go_simp; try with_reducible rfl)); (simp only [Act.put, List.setIfInBounds_toArray, List.set_cons_zero, List.set_cons_succ])))
            (refine' psettle_run (by rfl) (fun _ _ => Below.refl _ _) (fun _ => by rfl) ?_ ?_; rotate_left; (focus (intro ρ w hS hF hP; have hI : (w.ownsRow B 3 1 (.slice (some ⟨g, 0, none⟩) M c) M (hnats l') ∧ w.cell? ⟨g, i, none⟩ = some (.int .i64 (xi : Int)) ∧ w.cell? ⟨g, j, none⟩ = some (.int .i64 (xj : Int))) := hP (by rfl); go_split_ands; go_simp; try with_reducible rfl)); (simp only [Act.put, List.setIfInBounds_toArray, List.set_cons_zero, List.set_cons_succ]))
            repeat (first | (refine psettle_skip (by rfl) (fun _ => by rfl) ?_; (simp only [Act.put, List.setIfInBounds_toArray, List.set_cons_zero, List.set_cons_succ])) | (refine' psettle_run (by rfl) (fun _ _ => Below.refl _ _) (fun _ => by rfl) ?_ ?_; rotate_left; (focus (intro ρ w hS hF hP; (try dsimp only at hS); go_split_ands; go_simp; try with_reducible rfl)); (simp only [Act.put, List.setIfInBounds_toArray, List.set_cons_zero, List.set_cons_succ])))
            (refine' psettle_run (by rfl) (fun _ _ => Below.refl _ _) (fun _ => by rfl) ?_ ?_; rotate_left; (focus (intro ρ w hS hF hP; have hI : (w.ownsRow B 3 1 (.slice (some ⟨g, 0, none⟩) M c) M (hnats l') ∧ w.cell? ⟨g, i, none⟩ = some (.int .i64 (xi : Int)) ∧ w.cell? ⟨g, j, none⟩ = some (.int .i64 (xj : Int))) := hP (by rfl); go_split_ands; go_simp; try with_reducible rfl)); (simp only [Act.put, List.setIfInBounds_toArray, List.set_cons_zero, List.set_cons_succ]))
            repeat (first | (refine psettle_skip (by rfl) (fun _ => by rfl) ?_; (simp only [Act.put, List.setIfInBounds_toArray, List.set_cons_zero, List.set_cons_succ])) | (refine' psettle_run (by rfl) (fun _ _ => Below.refl _ _) (fun _ => by rfl) ?_ ?_; rotate_left; (focus (intro ρ w hS hF hP; (try dsimp only at hS); go_split_ands; go_simp; try with_reducible rfl)); (simp only [Act.put, List.setIfInBounds_toArray, List.set_cons_zero, List.set_cons_succ])))
            (refine psettle_turn (v := undef) (by rfl) (fun _ => by rfl) ?_ ?_; (focus (intro ρ w hS hF hP K hK; (simp only [Act.put, List.setIfInBounds_toArray, List.set_cons_zero, List.set_cons_succ] at hK); (have hI : (w.ownsRow B 3 1 (.slice (some ⟨g, 0, none⟩) M c) M (hnats l') ∧ w.cell? ⟨g, i, none⟩ = some (.int .i64 (xi : Int)) ∧ w.cell? ⟨g, j, none⟩ = some (.int .i64 (xj : Int))) := hP (by rfl); refine wp_set_row hI.1 (.tmp 101) (.tmp 93) i (.int .i64 (xj : Int)) (by kernel_rfl) hiM rfl rfl rfl rfl rfl ?_; intro w' hr' hg'; exact hK _ (keepP _ (hS.1.trans ((Keeps.of_grown hg').mono fun i hi => by injection hi))) hr'))); (simp only [Act.put, List.setIfInBounds_toArray, List.set_cons_zero, List.set_cons_succ]))
            repeat (first | (refine psettle_skip (by rfl) (fun _ => by rfl) ?_; (simp only [Act.put, List.setIfInBounds_toArray, List.set_cons_zero, List.set_cons_succ])) | (refine' psettle_run (by rfl) (fun _ _ => Below.refl _ _) (fun _ => by rfl) ?_ ?_; rotate_left; (focus (intro ρ w hS hF hP; (try dsimp only at hS); go_split_ands; go_simp; try with_reducible rfl)); (simp only [Act.put, List.setIfInBounds_toArray, List.set_cons_zero, List.set_cons_succ])))
            refine psettle_nil ?_
            intro ρ w5 hS hI _
            have hk5 := hS.1
            have hr5 : w5.ownsRow B 3 1 (.slice (some ⟨g, 0, none⟩) M c) M ((hnats l').set i (.int .i64 (xj : Int))) := hI
            have hB5 := hB4.keeps hk5 (fun e => hpg e)
            clear hS hI hP0 hI0 keepP hr4
            dsimp only
            go_wp2_with (first | (refine wpl_set_row hr5 j (.int .i64 (xi : Int)) (by kernel_rfl) (by omega) (by rfl) (by rfl) (by rfl) (by rfl) (by rfl) (by rfl) ?_; intro w7 hr7 hg7) | fail)
            have hB7 := hB5.grown hg7 (fun e => hpg (by injection e))
            have hK7 := ((hkw.step (Keeps.of_below hbs (fun _ => False)) (fun i _ h => h.elim)).step hk5 (fun i _ e => .inr e)).step (Keeps.of_grown hg7) (fun i _ e => .inr (by injection e))
            have hr7' : w7.ownsRow B 3 1 (.slice (some ⟨g, 0, none⟩) M c) M (hnats (Hp.swap l' i j)) := by
              unfold Hp.swap
              rw [← hnats_set, ← hnats_set, HX2.out.1, HX2.out.2]
              exact hr7
            have hz7 := Nat.le_trans (Nat.le_trans (Nat.le_trans hzw hbs.size) hk5.size) hg7.size
            have hl7 : (Hp.swap l' i j).length = M := by rw [Hp.swap_length]; exact hll
            have HE := Lib.hid (And.intro hB7 (And.intro hr7' (And.intro hd2 (And.intro hl7 (And.intro hK7 hz7)))))
            clear hB7 hr7' hd2 hl7 hK7 hr7 hr5 hg7 hB5 hk5 hz7 hB4 hBw hrw hkw hbs hd hll
            go_roundw
            case rel => exact ⟨j, _, f, by go_num, HE.out.2.2.2.1, .inl hjl, HE.out.2.2.1, by omega, HE.out.1, HE.out.2.1, HE.out.2.2.2.2.1, HE.out.2.2.2.2.2⟩
            case measure => simp [intOf]; omega
end Go.Proofs.YtfjmhmfkhgjnhaaDoor


namespace Go.Proofs.YtfjmhmfkhgjnhaaDoor
set_option linter.unusedVariables false
set_option linter.unusedSimpArgs false
set_option maxRecDepth 100000
open Go.RowKit

theorem Hp.pop_length {l : List Nat} (h : l ≠ []) : (Hp.pop l).length + 1 = l.length := by
  have h1 := (Hp.cut_perm h).length_eq
  have h2 : (Hp.pop l).length = (Hp.cut l).length := by
    unfold Hp.pop
    have : ∀ (f : Nat) (l : Hp.L) (i : Nat), (Hp.down f l i).length = l.length := by
      intro f
      induction f with
      | zero => exact fun _ _ => rfl
      | succ f ih =>
        intro l i
        unfold Hp.down
        split
        · rfl
        · rw [ih, Hp.swap_length]
    exact this _ _ _
  simp only [List.length_cons] at h1
  omega

theorem Hp.take_more (m : Nat) (l : List Nat) (h : l ≠ []) : Hp.take (m + 1) l = (Hp.at_ l 0 :: (Hp.take m (Hp.pop l)).1, (Hp.take m (Hp.pop l)).2) := by
  rw [Hp.take, if_neg h]
/-- how far it is: a is taken, l' is left -/
structure Hp.Far (n : Nat) (l a l' : List Nat) : Prop where
  le : a.length ≤ n
  fst : (Hp.take n l).1 = a ++ (Hp.take (n - a.length) l').1
  snd : (Hp.take n l).2 = (Hp.take (n - a.length) l').2
  len : a.length + l'.length ≤ l.length
theorem Hp.Far.step {n : Nat} {l a l' : List Nat} (h : Hp.Far n l a l') (hn : a.length < n) (hl : l' ≠ []) : Hp.Far n l (a ++ [Hp.at_ l' 0]) (Hp.pop l') := by
  have e : n - a.length = (n - (a ++ [Hp.at_ l' 0]).length) + 1 := by simp; omega
  have h1 := h.fst
  have h2 := h.snd
  rw [e, Hp.take_more _ _ hl] at h1 h2
  refine ⟨by simp; omega, ?_, ?_, ?_⟩
  · rw [h1]; simp
  · rw [h2]
  · have := Hp.pop_length hl
    have := h.len
    simp
    omega
theorem Hp.Far.done {n : Nat} {l a l' : List Nat} (h : Hp.Far n l a l') (hn : a.length = n ∨ l' = []) : (Hp.take n l).1 = a ∧ (Hp.take n l).2 = l' := by
  rcases hn with hn | hn
  · have h1 := h.fst
    have h2 := h.snd
    rw [hn, Nat.sub_self] at h1 h2
    exact ⟨by rw [h1]; simp [Hp.take], by rw [h2]; simp [Hp.take]⟩
  · subst hn
    have e : ∀ m, Hp.take m ([] : List Nat) = ([], []) := fun m => by cases m <;> simp [Hp.take]
    exact ⟨by rw [h.fst, e]; simp, by rw [h.snd, e]⟩

set_option maxHeartbeats 2000000 in
theorem htake_any (w : World) (B p : Nat) (u : Value) (l : List Nat) (n : Nat) (hR : HpR w B p u l) (hn : l.length ≤ 1000000) (hn2 : n ≤ 1000000) :
    Calls Tryd.prog 52 #[.pointer (some ⟨p, 0, none⟩), .int .i64 (n : Int)] w fun e w' => ∃ v, e = .returned v ∧ w'.ownsRow w.heap.size 3 1 v (Hp.take n l).1.length (hnats (Hp.take n l).1) ∧ ∃ u', HpR w' B p u' (Hp.take n l).2 ∧ Keeps (HpT p u) w w' ∧ u'.ownBlock = u.ownBlock := by
  have hpl := hR.blk.lt
  have hul : ∀ k, u.ownBlock = some k → k < w.heap.size := fun k hk => (hR.row.lt k hk).2
  have H0 := Lib.hid hR
  clear hR
  go_enter Tryd.func52, Tryd.ntmps52
  go_wp2_with fail
  go_loopw [5] (fun o wr => ∃ (a l' : List Nat) (u' : Value), Hp.Far n l a l' ∧ wr.ownsRow w.heap.size 3 1 o a.length (hnats a) ∧ HpR wr B p u' l' ∧ Keeps (HpT p u) w wr ∧ u'.ownBlock = u.ownBlock) (fun o _ => n - slLen o)
  case atStart => exact ⟨[], l, u, ⟨Nat.zero_le _, rfl, rfl, by simp⟩, World.ownsRow_nil _ _ _ _, H0.out, Keeps.refl _ _, rfl⟩
  case round =>
    obtain ⟨a, l', u', hF, ho, hR, hk, hu⟩ := hrel
    have hsz := hk.size
    have hFl := hF.len
    have hFn := hF.le
    obtain ⟨Ao, co, rfl, -, -⟩ := own_slice ho
    obtain ⟨Au, cu, rfl, -, -⟩ := own_slice hR.row
    have c0 : wr.cell? ⟨p, 0, none⟩ = some (.slice Au l'.length cu) := by rw [hR.blk.cell]; rfl
    have hplr := hR.blk.lt
    by_cases han : a.length < n
    · by_cases hl0 : 0 < l'.length
      · have hne' : l' ≠ [] := by intro e; rw [e] at hl0; simp at hl0
        have hpop := pop_any wr B p _ l' hR (by omega) hl0
        have hF' := hF.step han hne'
        have HE := Lib.hid (And.intro hF' (And.intro ho (And.intro hk hu)))
        clear hF hF' ho hR hk hu hne'
        go_wp2_with fail
        refine hpop.mono ?_
        rintro _ w3 ⟨rfl, u3, hR3, hk3, hu3⟩
        have hT : ∀ i, HpT p (.slice Au l'.length cu) i → HpT p u i := fun i h => h.imp id (fun e => by rw [← HE.out.2.2.2]; exact e)
        have hK3 := HE.out.2.2.1.trans (hk3.mono hT)
        have ho3 := own_keeps HE.out.2.1 hk3 (fun i hi h => by
          have h1 := (HE.out.2.1.lt i hi).1
          rcases hT i h with e | e
          · omega
          · have := hul i e; omega)
        have hbase3 := Nat.le_trans hsz hk3.size
        have n63 : a.length + 1 ≤ maxLen := by unfold maxLen; omega
        have n47 : (a.length + 1) * 8 ≤ 140737488355328 := by omega
        obtain ⟨x, hx⟩ : ∃ x, x = Hp.at_ l' 0 := ⟨_, rfl⟩
        rw [← hx]
        have HX := Lib.hid (And.intro hx (And.intro hR3 (And.intro hK3 (hu3.trans HE.out.2.2.2))))
        clear hpop hx hR3 hk3 hK3 hu3 hT
        go_wp2_with (first | (at_builtin; refine wp_push_at _ _ _ _ (by first | rfl | simp) _ _ _ _ _ _ Tryd.underlying26 info_int' rfl (by decide) ho3 [.int .i64 (x : Int)] rfl (by simp [Value.oneCell']) n63 n47 hbase3 rfl rfl rfl rfl ?_; intro v7 w7 hr7 hg7 hv7 hb7) | fail)
        have hR7 : HpR w7 B p u3 (Hp.pop l') := by
          have hR3 := HX.out.2.1
          have hne1 : ∀ i, (Value.slice Ao a.length co).ownBlock = some i → w.heap.size ≤ i := own_ge ho3
          refine ⟨hR3.blk.grown hg7 (fun e => by have := hne1 p e.symm; omega), own_keeps hR3.row (Keeps.of_grown hg7) (fun i hi e => ?_), Nat.le_trans hR3.base hg7.size⟩
          have h1 := hne1 i e.symm
          have h2 := hul i (by rw [← HX.out.2.2.2]; exact hi)
          omega
        have hK7 := HX.out.2.2.1.step (Keeps.of_grown hg7) (fun i hi e => by have := own_ge ho3 i e.symm; omega)
        have HP := Lib.hid (And.intro hr7 (And.intro hR7 hK7))
        have hlen7 := own_len hr7
        clear hr7 hg7 hv7 hb7 hR7 hK7 ho3
        go_roundw
        case rel => exact ⟨a ++ [x], _, u3, by rw [HX.out.1]; exact HE.out.1, by have := HP.out.1; simpa [hnats] using this, HP.out.2.1, HP.out.2.2, HX.out.2.2.2⟩
        case measure => rw [hlen7]; simp only [slLen]; omega
      · have hnil : l' = [] := List.eq_nil_of_length_eq_zero (by omega)
        have hl00 : l'.length = 0 := by omega
        have hd := hF.done (.inr hnil)
        have HE := Lib.hid (And.intro hd (And.intro ho (And.intro hR (And.intro hk hu))))
        clear hd hF ho hR hk hu hnil hl0
        go_wp2_with fail
        go_ret
        exact ⟨_, rfl, by rw [HE.out.1.1]; exact HE.out.2.1, _, by rw [HE.out.1.2]; exact HE.out.2.2.1, HE.out.2.2.2.1, HE.out.2.2.2.2⟩
    · have hd := hF.done (.inl (by omega))
      have HE := Lib.hid (And.intro hd (And.intro ho (And.intro hR (And.intro hk hu))))
      clear hd hF ho hR hk hu
      go_wp2_with fail
      go_ret
      exact ⟨_, rfl, by rw [HE.out.1.1]; exact HE.out.2.1, _, by rw [HE.out.1.2]; exact HE.out.2.2.1, HE.out.2.2.2.1, HE.out.2.2.2.2⟩
end Go.Proofs.YtfjmhmfkhgjnhaaDoor
