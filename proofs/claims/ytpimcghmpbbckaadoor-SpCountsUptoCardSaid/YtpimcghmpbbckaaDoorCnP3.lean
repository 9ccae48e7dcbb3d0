/-
  Two rows of the call's own that are appended to in one statement, in whatever order. No program is named here.
-/
import Derived.Test.YtpimcghmpbbckaaDoorCnP2
import Derived.Deep.DeepCutAuto
import Derived.Lib.Hide
import Derived.Laws.Bits64b
import Derived.BigQuiet
import Derived.Test.YtpimcghmpbbckaaDoorCnP1

namespace Go.Proofs.YtpimcghmpbbckaaDoor
set_option linter.unusedVariables false
set_option linter.unusedSimpArgs false
set_option maxRecDepth 100000
open Go.RowKit

def edc (e : Gr.Ed) : List Value := [.int .i64 (e.1 : Int), .int .i64 (e.2 : Int)]
def edcs (l : List Gr.Ed) : List Value := l.flatMap edc
theorem info_sint : (Tryd.prog.info? 32).map (fun i => (i.zero, i.size, i.bytes)) = some (some (.slice none 0 0), 1, 24) := by kernel_rfl
theorem ilist_length (l : List Nat) : (ilist l).length = l.length := by simp [ilist, ints_length]

def irw (v : Value) (l : List Nat) : Rw := ⟨3, 1, v, l.length, ilist l⟩
def wrw (v : Value) (ws : List Int) : Rw := ⟨3, 1, v, ws.length, ints .i64 ws⟩
/-- how many each one waits for; what each one leads to -/
def tkR (wv : Value) (ws : List Int) (vs : List Value) (L : List (List Nat)) : List Rw := wrw wv ws :: List.zipWith irw vs L
theorem zip_set {α β γ : Type} (f : α → β → γ) : ∀ (l : List α) (m : List β) (i : Nat) (a : α) (b : β), (List.zipWith f l m).set i (f a b) = List.zipWith f (l.set i a) (m.set i b)
  | [], _, _, _, _ => rfl
  | _ :: _, [], i, _, _ => by cases i <;> rfl
  | x :: l, y :: m, 0, _, _ => rfl
  | x :: l, y :: m, i + 1, a, b => by simp [zip_set f l m i a b]
theorem tkR_w (wv : Value) (ws ws' : List Int) (vs : List Value) (L : List (List Nat)) : (tkR wv ws vs L).set 0 (wrw wv ws') = tkR wv ws' vs L := rfl
theorem tkR_i (wv : Value) (ws : List Int) (vs : List Value) (L : List (List Nat)) (i : Nat) (v : Value) (l : List Nat) : (tkR wv ws vs L).set (i + 1) (irw v l) = tkR wv ws (vs.set i v) (L.set i l) := by
  unfold tkR
  rw [List.set_cons_succ, zip_set]
theorem tkR_get (wv : Value) (ws : List Int) (vs : List Value) (L : List (List Nat)) (i : Nat) (v : Value) (l : List Nat) (hv : vs[i]? = some v) (hl : L[i]? = some l) : (tkR wv ws vs L)[i + 1]? = some (irw v l) := by
  unfold tkR
  rw [List.getElem?_cons_succ, List.getElem?_zipWith, hv, hl]
/-- both are made -/
theorem tk_start {B q r : Nat} {w1 w2 : World} {N : Nat} (h1 : w1.ownsRow B 3 1 (.slice (some ⟨q, 0, none⟩) N N) N (List.replicate N (.int .i64 0))) (hb : Below w1.heap.size w1 w2) (hr : r = w1.heap.size) (h2 : Blk w2 r 32 (List.replicate N (.slice none 0 0))) (hB : B ≤ w1.heap.size) :
    Own B w2 r 32 (List.replicate N (.slice none 0 0)) (tkR (.slice (some ⟨q, 0, none⟩) N N) (Gr.wl N []) (List.replicate N (.slice none 0 0)) (Gr.nl N [])) := by
  have hw : Gr.wl N [] = List.replicate N 0 := by
    apply List.ext_getElem
    · simp [Gr.wl]
    · intro i h h'; simp [Gr.wl, Gr.wt]
  have hn : Gr.nl N [] = List.replicate N [] := by
    apply List.ext_getElem
    · simp [Gr.nl]
    · intro i h h'; simp [Gr.nl, Gr.next]
  have hz : List.zipWith irw (List.replicate N (.slice none 0 0)) (List.replicate N []) = List.replicate N (irw (.slice none 0 0) []) := by simp
  have hq := h1.lt q rfl
  unfold tkR
  rw [hw, hn, hz]
  refine ⟨h2, fun s hs => ?_, fun i j s t hi hj hij => ?_, fun s hs => ?_, Nat.le_trans hB hb.size, by omega⟩
  · rcases List.mem_cons.1 hs with rfl | hs
    · have := own_keeps h1 (Keeps.of_below hb (fun _ => False)) (fun _ _ => id)
      show w2.ownsRow _ _ _ _ _ _
      simpa [wrw, ints] using this
    · rw [(List.mem_replicate.1 hs).2]
      exact World.ownsRow_nil _ _ _ _
  · intro k hk hk'
    cases i with
    | zero =>
      cases j with
      | zero => exact hij rfl
      | succ j =>
        rw [List.getElem?_cons_succ, List.getElem?_replicate] at hj
        split at hj
        · injection hj with hj; subst hj; simp [irw, Value.ownBlock] at hk'
        · cases hj
    | succ i =>
      rw [List.getElem?_cons_succ, List.getElem?_replicate] at hi
      split at hi
      · injection hi with hi; subst hi; simp [irw, Value.ownBlock] at hk
      · cases hi
  · rcases List.mem_cons.1 hs with rfl | hs
    · intro e
      have : q = r := by simpa [wrw, Value.ownBlock] using e
      omega
    · rw [(List.mem_replicate.1 hs).2]
      simp [irw, Value.ownBlock]

theorem own_cell {w : World} {B g n c : Nat} {e : TypeId} {xs : List Value} (h : w.ownsRow B e 1 (.slice (some ⟨g, 0, none⟩) n c) n xs) {j : Nat} {u : Value} (hj : xs[j]? = some u) : w.cell? ⟨g, j, none⟩ = some u := by
  obtain ⟨cs, hB, -, ht, -⟩ := row_blk h
  rw [hB.cell]
  rw [← ht, List.getElem?_take] at hj
  split at hj
  · exact hj
  · cases hj
theorem row_set {w : World} {B g n c : Nat} {e : TypeId} {xs : List Value} (h : w.ownsRow B e 1 (.slice (some ⟨g, 0, none⟩) n c) n xs) (i : Nat) (u : Value) : (w.setCell ⟨g, i, none⟩ u).ownsRow B e 1 (.slice (some ⟨g, 0, none⟩) n c) n (xs.set i u) := by
  obtain ⟨cs, hB, hl, ht, hn, hm, hb⟩ := row_blk h
  have := row_of_blk (size := 1) (c := c) (n := n) (hB.set_ i u) (by simpa using hl) hb hn hm
  rw [List.take_set, ht] at this
  exact this
theorem row_frozen {w : World} {B g n c : Nat} {e : TypeId} {xs : List Value} (h : w.ownsRow B e 1 (.slice (some ⟨g, 0, none⟩) n c) n xs) (i : Nat) : w.frozen? ⟨g, i, none⟩ = false := by
  obtain ⟨cs, hB, -⟩ := row_blk h
  exact hB.frozen i
/-- a slice as long as it may be: its block is known whole -/
theorem row_whole {w : World} {B g n : Nat} {e : TypeId} {xs : List Value} (h : w.ownsRow B e 1 (.slice (some ⟨g, 0, none⟩) n n) n xs) : Blk w g e xs := by
  obtain ⟨cs, hB, hl, ht, -⟩ := row_blk h
  rw [← ht, List.take_of_length_le (by omega)]
  exact hB

theorem SlU.far {S : Nat → Prop} {w w' : World} {v : Value} {xs : List Nat} (h : SlU w v xs) (k : Keeps S w w') (hf : xs ≠ [] → ∀ p, ptr v = some p → ¬ S p.block) : SlU w' v xs := by
  obtain ⟨⟨A, c, rfl, h1, h2, h3, b, o, h4, h5⟩, h6⟩ := h
  refine ⟨⟨A, c, rfl, h1, h2, h3, b, o, fun hn => ⟨(h4 hn).1, Nat.lt_of_lt_of_le (h4 hn).2 k.size⟩, fun j u hu => ?_⟩, h6⟩
  have hn : nats xs ≠ [] := fun e => by rw [e] at hu; simp at hu
  obtain ⟨hA, hb⟩ := h4 hn
  exact (World.cell?_of_block (a := ⟨b, o + j, none⟩) (k.block b hb (hf (fun e => hn (by rw [e]; rfl)) _ (by rw [hA]; rfl)))).trans (h5 j u hu)
/-- a slice of words that lies in none of these blocks -/
def FarU (T : Nat → Prop) (v : Value) (xs : List Nat) : Prop := xs ≠ [] → ∀ p, ptr v = some p → ¬ T p.block
theorem FarU.new {T : Nat → Prop} {B : Nat} {v : Value} {xs : List Nat} (h : New B v) (hT : ∀ k, T k → k < B) : FarU T v xs := fun _ p hp hk => by
  have h1 := hT _ hk
  have h2 := h p hp
  omega
theorem FarU.step {T T' : Nat → Prop} {w : World} {v : Value} {xs : List Nat} (h : FarU T v xs) (hu : SlU w v xs) (hT : ∀ k, T' k → T k ∨ w.heap.size ≤ k) : FarU T' v xs := fun hn p hp hk => by
  obtain ⟨⟨A, c, rfl, h1, h2, h3, b, o, h4, h5⟩, h6⟩ := hu
  obtain ⟨hA, hb⟩ := h4 (fun e => hn (by simpa [nats] using e))
  have hp' : A = some p := hp
  rcases hT _ hk with hk | hk
  · exact h hn p hp hk
  · rw [hp'] at hA
    injection hA with hA
    rw [hA] at hk
    simp at hk
    omega
theorem OwnTo.cons_nil {B g : Nat} {w0 w : World} {T0 : Nat → Prop} {t : TypeId} {cs : List Value} {rs : List Rw} (h : OwnTo B w0 T0 w g t cs rs) : OwnTo B w0 T0 w g t cs (irw (.slice none 0 0) [] :: rs) := by
  refine ⟨⟨h.own.blk, fun r hr => ?_, fun i j r s hi hj hij => ?_, fun r hr => ?_, h.own.base, h.own.lo⟩, h.kp, fun k hk => h.nw k ?_⟩
  · rcases List.mem_cons.1 hr with rfl | hr
    · exact World.ownsRow_nil _ _ _ _
    · exact h.own.rows r hr
  · cases i with
    | zero =>
      injection hi with hi
      subst hi
      intro k hk
      simp [irw, Value.ownBlock] at hk
    | succ i =>
      cases j with
      | zero =>
        injection hj with hj
        subst hj
        intro k hk
        simp [irw, Value.ownBlock]
      | succ j => exact h.own.ap i j r s hi hj (fun e => hij (by rw [e]))
  · rcases List.mem_cons.1 hr with rfl | hr
    · simp [irw, Value.ownBlock]
    · exact h.own.ng r hr
  · rcases hk with rfl | ⟨r, hr, hk⟩
    · exact .inl rfl
    · rcases List.mem_cons.1 hr with rfl | hr
      · simp [irw, Value.ownBlock] at hk
      · exact .inr ⟨r, hr, hk⟩
/-- how many each one waits for, when these are out -/
def wo (N : Nat) (es : List Gr.Ed) (out : List Nat) : List Int := (List.range N).map fun m => ((Gr.wt es out m : Nat) : Int)

set_option maxHeartbeats 4000000 in
theorem take_any (N : Nat) (es : List Gr.Ed) (w : World) (A : Option Addr) (c : Nat) (hN : N ≤ 200) (hes : ∀ e ∈ es, e.1 < N ∧ e.2 < N) (hA : SlV w 2 (.slice A es.length c) es.length (edcs es)) (hle : es.length ≤ 1099511627776) (hT : Tab w) :
    Calls Tryd.prog 38 #[.agg #[.int .i64 (N : Int), .slice A es.length c]] w fun e w' => ∃ u, e = .returned u ∧ w'.ownsRow w.heap.size 3 1 u (Gr.take N es).length (ilist (Gr.take N es)) ∧ Below w.heap.size w w' := by
  have HES := Lib.hid hes
  have x0 := Blk.new w 24 [.int .i64 (N : Int), .slice A es.length c]
  have hb0 : Below w.heap.size w (w.alloc (.cells #[.int .i64 (N : Int), .slice A es.length c] 24)) := below_alloc (Below.refl _ _) _
  clear hes
  go_enter Tryd.func38, Tryd.ntmps38
  have n47 : 8 * N ≤ 281474976710656 := by omega
  have n47' : 24 * N ≤ 281474976710656 := by omega
  have n63 : N ≤ 9223372036854775807 := by omega
  have hz0 : (w.alloc (.cells #[.int .i64 (N : Int), .slice A es.length c] 24)).heap.size = w.heap.size + 1 := by simp
  have c00 : (w.alloc (.cells #[.int .i64 (N : Int), .slice A es.length c] 24)).cell? ⟨w.heap.size, 0, none⟩ = some (.int .i64 (N : Int)) := (x0.cell 0).trans rfl
  have HZ0 := Lib.hid hz0
  clear hz0
  go_wp2_with (first | (at_make; refine wp_make _ 32 3 (.int .i64 0) 8 N Tryd.underlying32 info_int rfl (by omega) (by omega) n47 n63 rfl rfl rfl rfl ?_; intro w1 hown1 hb1 hs1; have x1 := x0.below hb1; have c10 : w1.cell? ⟨w.heap.size, 0, none⟩ = some (.int .i64 (N : Int)) := (x1.cell 0).trans rfl; have c11 : w1.cell? ⟨w.heap.size, 1, none⟩ = some (.slice A es.length c) := (x1.cell 1).trans rfl) | (at_make; refine wp_make _ 26 32 (.slice none 0 0) 24 N Tryd.underlying26 info_sint rfl (by omega) (by omega) n47' n63 rfl rfl rfl rfl ?_; intro w2 hown2 hb2 hs2; have x2 := x1.below hb2; have c20 : w2.cell? ⟨w.heap.size, 0, none⟩ = some (.int .i64 (N : Int)) := (x2.cell 0).trans rfl; have c21 : w2.cell? ⟨w.heap.size, 1, none⟩ = some (.slice A es.length c) := (x2.cell 1).trans rfl) | fail)
  have hO : Own (w.heap.size + 1) w2 (w.heap.size + 1 + 1) 32 (List.replicate N (.slice none 0 0)) (tkR (.slice (some ⟨w.heap.size + 1, 0, none⟩) N N) (Gr.wl N []) (List.replicate N (.slice none 0 0)) (Gr.nl N [])) := by
    have hz := HZ0.out
    rw [hz] at hown1 hs1
    have hw := row_whole hown2
    rw [hs1] at hw
    exact tk_start hown1 hb2 hs1.symm hw (by omega)
  have hb02 : Below w.heap.size w w2 := below_next hb2 (below_next hb1 hb0)
  have hQ2 : w.heap.size + 1 + 1 < w2.heap.size := hO.blk.lt
  obtain ⟨Q, hQ⟩ : ∃ Q, Q = w.heap.size := ⟨_, rfl⟩
  rw [← hQ] at hO hQ2 ⊢
  have HQ := Lib.hid hQ
  clear hown1 hown2 hb1 hb2 hs1 hs2 x0 hb0 n47 n47' n63 c00 c10 c11 c20 c21 x1 HZ0 hQ
  have keepB : ∀ (vs : List Value) (rs : List Rw) (wr : World), OwnTo (Q + 1) w2 (Tw (Q + 1 + 1) (tkR (.slice (some ⟨Q + 1, 0, none⟩) N N) (Gr.wl N []) (List.replicate N (.slice none 0 0)) (Gr.nl N []))) wr (Q + 1 + 1) 32 vs rs → Below w.heap.size w wr := fun _ _ wr h => hb02.trans ((hO.below h.kp).mono (by rw [HQ.out]; omega))
  have HK := Lib.hid keepB
  clear keepB
  go_loopw [23] (fun i wr => ∃ (k : Nat) (vs : List Value), k ≤ es.length ∧ i = .int .i64 (k : Int) ∧ vs.length = N ∧ OwnTo (Q + 1) w2 (Tw (Q + 1 + 1) (tkR (.slice (some ⟨Q + 1, 0, none⟩) N N) (Gr.wl N []) (List.replicate N (.slice none 0 0)) (Gr.nl N []))) wr (Q + 1 + 1) 32 vs (tkR (.slice (some ⟨Q + 1, 0, none⟩) N N) (Gr.wl N (es.take k)) vs (Gr.nl N (es.take k)))) (fun i _ => es.length - (intOf i).toNat)
  case atStart => exact ⟨0, _, Nat.zero_le _, rfl, by simp, OwnTo.start hO⟩
  case round =>
    obtain ⟨k, vs, hk, rfl, hvl, hOk⟩ := hrel
    have hbw := HK.out _ _ wr hOk
    by_cases hlt : k < es.length
    · obtain ⟨⟨a, b⟩, hx⟩ : ∃ x, es[k]? = some x := ⟨_, List.getElem?_eq_getElem hlt⟩
      obtain ⟨ha, hb⟩ := HES.out _ (List.mem_of_getElem? hx)
      have gx := flat_get edc 2 (fun _ => rfl) es k
      have g1 := gx 0 _ hx (by omega)
      have g2 := gx 1 _ hx (by omega)
      obtain ⟨A', c', he, -, -, -, hcc⟩ := hA.below hbw
      injection he with e1 e2 e3
      subst e1 e3
      obtain ⟨g, o, rfl, hgl, hcell⟩ := hcc.at_ (fun e => by rw [show List.flatMap edc es = edcs es from rfl, e] at g1; simp [edc] at g1)
      have d0 : wr.cell? ⟨g, o + k * 2, none⟩ = some (.int .i64 (a : Int)) := (hcell _ _ g1).trans rfl
      have d1 : wr.cell? ⟨g, o + k * 2 + 1, none⟩ = some (.int .i64 (b : Int)) := by rw [Nat.add_assoc]; exact hcell _ _ g2
      have htk := Gr.take_snoc hx
      have hw1 := Gr.wl_one N (es.take k) a b
      have hn1 := Gr.nl_one N (es.take k) a b
      rw [← htk] at hw1 hn1
      obtain ⟨U, hU⟩ : ∃ U, U = Gr.wt (es.take k) [] b := ⟨_, rfl⟩
      rw [← hU] at hw1
      have hUb : U ≤ 1099511627776 := by rw [hU]; exact Nat.le_trans (Gr.wt_le _ _ _) (by rw [List.length_take]; omega)
      have hwl : (Gr.wl N (es.take k)).length = N := by simp [Gr.wl]
      have hTA := hOk.later (below_alloc (Below.refl _ _) (.cells #[.int .i64 (a : Int), .int .i64 (b : Int)] 34))
      have hE := Blk.new wr 34 [.int .i64 (a : Int), .int .i64 (b : Int)]
      have r0 := hTA.own.row 0 rfl
      unfold Rw.at_ wrw at r0
      rw [hwl] at r0
      have c0 := own_cell r0 (j := b) (u := .int .i64 (U : Int)) (by
        show (List.map _ _)[b]? = _
        rw [List.getElem?_map, show (Gr.wl N (es.take k))[b]? = some (U : Int) by rw [hU]; exact Gr.map_get _ _ _ hb]
        rfl)
      obtain ⟨v, hv⟩ : ∃ v, vs[a]? = some v := ⟨_, List.getElem?_eq_getElem (by omega)⟩
      have hnx : (Gr.nl N (es.take k))[a]? = some (Gr.next (es.take k) a) := Gr.map_get _ _ _ ha
      have hnl : (Gr.next (es.take k) a).length ≤ 1099511627776 := by
        have := List.length_filter_le (fun e : Gr.Ed => e.1 == a) (es.take k)
        rw [List.length_take] at this
        unfold Gr.next
        rw [List.length_map]
        omega
      obtain ⟨nx, hnxq⟩ : ∃ nx, nx = Gr.next (es.take k) a := ⟨_, rfl⟩
      rw [← hnxq] at hnx hn1 hnl
      clear hnxq
      have hvne : v.ownBlock ≠ some wr.heap.size := fun e => by
        have := ((hOk.own.row (a + 1) (tkR_get _ _ _ _ a v nx hv hnx)).lt _ e).2
        omega
      have HX := Lib.hid (And.intro hw1 (And.intro hn1 (And.intro hwl (And.intro hv hnx))))
      clear hv hnx
      have HO := Lib.hid hO
      have hlw : Q + 1 + 1 < wr.heap.size := Nat.lt_of_lt_of_le hQ2 hOk.kp.size
      clear hOk htk hw1 hn1 hx gx g1 g2 hcc hcell e2 hA hO hwl hU hbw
      go_upto_region 6 with (fail)
      have hb5 : Below wr.heap.size wr (wr.alloc (.cells #[.int .i64 (a : Int), .int .i64 (b : Int)] 34)) := below_alloc (Below.refl _ _) _
      generalize (wr.alloc (.cells #[.int .i64 (a : Int), .int .i64 (b : Int)] 34)) = W5 at hTA hE r0 c0 hb5 ⊢
      have e0 : W5.cell? ⟨wr.heap.size, 0, none⟩ = some (.int .i64 (a : Int)) := (hE.cell 0).trans rfl
      have e1 : W5.cell? ⟨wr.heap.size, 1, none⟩ = some (.int .i64 (b : Int)) := (hE.cell 1).trans rfl
      clear d0 d1
      have f0 := row_frozen r0 b
      have hr6 := row_set r0 b (.int .i64 ((U : Int) + 1))
      have hg6 := grown_setCell W5 (Q + 1) b (.int .i64 ((U : Int) + 1))
      go_wp2_with fail
      obtain ⟨w6, hw6⟩ : ∃ w6, w6 = W5.setCell ⟨Q + 1, b, none⟩ (.int .i64 ((U : Int) + 1)) := ⟨_, rfl⟩
      rw [← hw6] at hr6 hg6 ⊢
      clear hw6 c0 f0
      have hT6 : OwnTo (Q + 1) w2 (Tw (Q + 1 + 1) (tkR (.slice (some ⟨Q + 1, 0, none⟩) N N) (Gr.wl N []) (List.replicate N (.slice none 0 0)) (Gr.nl N []))) w6 (Q + 1 + 1) 32 vs (tkR (.slice (some ⟨Q + 1, 0, none⟩) N N) (Gr.wl N (es.take (k + 1))) vs (Gr.nl N (es.take k))) := by
        rw [← ints_set, ← HX.out.1] at hr6
        have hl1 : (Gr.wl N (es.take (k + 1))).length = N := by simp [Gr.wl]
        have h1 : W5.grownBy w6 (wrw (.slice (some ⟨Q + 1, 0, none⟩) N N) (Gr.wl N (es.take k))).v.ownBlock := hg6
        have hp := (hTA.own.put (i := 0) rfl (v' := .slice (some ⟨Q + 1, 0, none⟩) N N) (n' := N) hr6 h1 (.inl rfl)).1
        have := hTA.step (hTA.own.put_to (i := 0) rfl (v' := .slice (some ⟨Q + 1, 0, none⟩) N N) (n' := N) hr6 h1 (.inl rfl) hp (World.grownBy.refl w6 _))
        have e : (tkR (.slice (some ⟨Q + 1, 0, none⟩) N N) (Gr.wl N (es.take k)) vs (Gr.nl N (es.take k))).set 0 ⟨3, 1, .slice (some ⟨Q + 1, 0, none⟩) N N, N, ints .i64 (Gr.wl N (es.take (k + 1)))⟩ = tkR (.slice (some ⟨Q + 1, 0, none⟩) N N) (Gr.wl N (es.take (k + 1))) vs (Gr.nl N (es.take k)) := by
          show _ = wrw _ _ :: _
          unfold wrw
          rw [hl1]
          rfl
        exact e ▸ this
      have hE6 := hE.grown hg6 (by intro e; injection e with e; omega)
      clear hTA r0 hr6 hg6 hE e0 e1
      have hget := tkR_get (.slice (some ⟨Q + 1, 0, none⟩) N N) (Gr.wl N (es.take (k + 1))) vs (Gr.nl N (es.take k)) a v nx HX.out.2.2.2.1 HX.out.2.2.2.2
      have rv : w6.ownsRow (Q + 1) 3 1 v nx.length (ilist nx) := hT6.own.row (a + 1) hget
      have hng : v.ownBlock ≠ some (Q + 1 + 1) := hT6.own.ng _ (List.mem_of_getElem? hget)
      obtain ⟨VB, cb, rfl, -, -⟩ := own_slice rv
      have hR : ∀ w', Below w6.heap.size w6 w' → w'.ownsRow (Q + 1) 3 1 (.slice VB nx.length cb) nx.length (ilist nx) ∧ Q + 1 ≤ w'.heap.size := fun w' hb => ⟨(hT6.own.later hb).row (a + 1) hget, (hT6.own.later hb).base⟩
      have keepS : ∀ w', Keeps (fun k => (Value.slice VB nx.length cb).ownBlock = some k) w6 w' → Keeps (fun k => (Value.slice VB nx.length cb).ownBlock = some k) w6 w' ∧ w'.cell? ⟨Q + 1 + 1, a, none⟩ = some (.slice VB nx.length cb) ∧ w'.cell? ⟨wr.heap.size, 0, none⟩ = some (.int .i64 (a : Int)) ∧ w'.cell? ⟨wr.heap.size, 1, none⟩ = some (.int .i64 (b : Int)) := fun w' k =>
        ⟨k, ((hT6.own.blk.keeps k hng).cell a).trans HX.out.2.2.2.1, ((hE6.keeps k hvne).cell 0).trans rfl, ((hE6.keeps k hvne).cell 1).trans rfl⟩
      have hS1 := keepS _ ((Keeps.refl _ w6).drewN 1)
      have hn63 : nx.length + 1 ≤ maxLen := by unfold maxLen; omega
      have hn47 : (nx.length + 1) * 8 ≤ 140737488355328 := by omega
      have HT := Lib.hid (And.intro hT6 hget)
      clear hT6 rv hE6 hget hng hvne
      refine wp_walk_mt 13 (fun i => ([11] : List Nat).contains i) (fun i => ([0,1,2,12] : List Nat).contains i) [11] (by intro m h; simpa using h) (by kernel_rfl) (by kernel_rfl) (by kernel_rfl) (fun w w' => Below w.heap.size w w')  (fun w' => Keeps (fun k => (Value.slice VB nx.length cb).ownBlock = some k) w6 w' ∧ w'.cell? ⟨Q + 1 + 1, a, none⟩ = some (.slice VB nx.length cb) ∧ w'.cell? ⟨wr.heap.size, 0, none⟩ = some (.int .i64 (a : Int)) ∧ w'.cell? ⟨wr.heap.size, 1, none⟩ = some (.int .i64 (b : Int))) (fun w' => Below w6.heap.size w6 w') hS1 (below_drew (Below.refl _ _)) (fun _ _ h h' => below_next h' h) ?_
      simp only [List.length_cons, List.length_nil, Nat.reduceAdd, Nat.reduceSub, List.take_succ_cons, List.take_zero, List.drop_succ_cons, List.drop_zero]
      repeat (first | (refine nsettle_skip (by rfl) (fun _ => by rfl) ?_; (simp only [Act.put, List.setIfInBounds_toArray, List.set_cons_zero, List.set_cons_succ])) | (refine' nsettle_run (by rfl) (fun _ _ => Below.refl _ _) (fun _ => by rfl) ?_ ?_; rotate_left; (focus (intro ρ w hS hF hP; (try dsimp only at hS); go_split_ands; go_simp; try with_reducible rfl)); (simp only [Act.put, List.setIfInBounds_toArray, List.set_cons_zero, List.set_cons_succ])))
      (refine nsettle_known (FSl 1 1 [.int .i64 (b : Int)]) (by rfl) (by rfl) (by rfl) (fun _ => by rfl)  ?_ ?_; (focus (intro ρ w hS hF hP K hK; (simp only [Act.put, List.setIfInBounds_toArray, List.set_cons_zero, List.set_cons_succ] at hK); go_simp; exact hK _ _ (SlV.lit w [.int .i64 (b : Int)] 3 1 1 rfl (by decide)) (keepS _ (hS.1.alloc _)) (below_alloc (Below.refl _ _) _))); (simp only [Act.put, List.setIfInBounds_toArray, List.set_cons_zero, List.set_cons_succ]))
      (refine nsettle_mark (FPush w6 (Q + 1) 3 1 (.slice VB nx.length cb) (nx.length + 1) (ilist nx ++ [.int .i64 (b : Int)])) (by rfl) (by rfl) (by rfl) (fun _ => by rfl) ?_ ?_; (focus (intro ρ w hS hF hP K hK; refine oper_append (.tmp 41) (.tmp 44) (Q + 1) _ _ _ _ _ Tryd.underlying32 info_int rfl (by decide) (hR w (hP (by rfl))).1 (hF.1 (by rfl)) (by simp [Value.oneCell']) hn63 hn47 (hR w (hP (by rfl))).2 rfl rfl rfl ?_; intro v' w' hown hg hv _; exact hK v' w' ⟨w, hP (by rfl), hg, hown, hv.imp id fun e => ⟨_, Nat.le_refl _, e⟩⟩ (keepS _ (hS.1.trans ((Keeps.of_grown hg).mono fun i hi => hi.symm))))); (simp only [Act.put, List.setIfInBounds_toArray, List.set_cons_zero, List.set_cons_succ]))
      repeat (first | (refine nsettle_skip (by rfl) (fun _ => by rfl) ?_; (simp only [Act.put, List.setIfInBounds_toArray, List.set_cons_zero, List.set_cons_succ])) | (refine' nsettle_run (by rfl) (fun _ _ => Below.refl _ _) (fun _ => by rfl) ?_ ?_; rotate_left; (focus (intro ρ w hS hF hP; (try dsimp only at hS); go_split_ands; go_simp; try with_reducible rfl)); (simp only [Act.put, List.setIfInBounds_toArray, List.set_cons_zero, List.set_cons_succ])))
      refine nsettle_nil ?_
      intro ρ w7 hS hF
      obtain ⟨wa, ha1, ha2, ha3, ha4⟩ := hF 45 (FPush w6 (Q + 1) 3 1 (.slice VB nx.length cb) (nx.length + 1) (ilist nx ++ [.int .i64 (b : Int)])) (by repeat (first | exact List.mem_cons_self | apply List.mem_cons_of_mem))
      clear hF hS hS1 keepS hR
      dsimp only
      generalize ρ 44 = v44
      generalize ρ 45 = v4 at ha3 ha4 ⊢
      have hx4 : wa.grownBy w7 (irw (.slice VB nx.length cb) nx).v.ownBlock := ha2
      have ho4 : w7.ownsRow (Q + 1) 3 1 v4 (nx ++ [b]).length (ilist (nx ++ [b])) := by simpa [ilist, ints] using ha3
      have hB4 := ((HT.out.1.own.later ha1).put (i := a + 1) HT.out.2 ho4 hx4 ha4).1
      have hend : ∀ w8, Blk w8 (Q + 1 + 1) 32 (vs.set a v4) → w7.grownBy w8 (some (Q + 1 + 1)) → OwnTo (Q + 1) w2 (Tw (Q + 1 + 1) (tkR (.slice (some ⟨Q + 1, 0, none⟩) N N) (Gr.wl N []) (List.replicate N (.slice none 0 0)) (Gr.nl N []))) w8 (Q + 1 + 1) 32 (vs.set a v4) (tkR (.slice (some ⟨Q + 1, 0, none⟩) N N) (Gr.wl N (es.take (k + 1))) (vs.set a v4) (Gr.nl N (es.take (k + 1)))) := fun w8 b8 g8 => by
        have := (HT.out.1.later ha1).step ((HT.out.1.own.later ha1).put_to (i := a + 1) HT.out.2 ho4 hx4 ha4 b8 g8)
        have e := tkR_i (.slice (some ⟨Q + 1, 0, none⟩) N N) (Gr.wl N (es.take (k + 1))) vs (Gr.nl N (es.take k)) a v4 (nx ++ [b])
        rw [← HX.out.2.1] at e
        exact e ▸ this
      obtain ⟨V4, c4, rfl, -, -⟩ := own_slice ha3
      clear ha1 ha2 ha3 ha4 hx4 ho4
      have hva : a < vs.length := by omega
      refine wpl_set_blk hB4 a _ (by kernel_rfl) hva rfl rfl rfl rfl rfl rfl ?_
      intro w8 hB8 hg8
      have T8 := hend w8 hB8 hg8
      have HT8 := Lib.hid T8
      clear hB4 hB8 hg8 hend T8 HT
      go_wp2_with fail
      go_roundw
      case rel => exact ⟨k + 1, _, by omega, by go_num, by simpa using hvl, HT8.out⟩
      case measure => simp [intOf]; omega
    · obtain rfl : k = es.length := by omega
      rw [List.take_length] at hOk
      clear hA
      go_wp2_with fail
      obtain ⟨wz, rfl⟩ : ∃ wz : World, wz = wr := ⟨_, rfl⟩
      have hwl : (Gr.wl N es).length = N := by simp [Gr.wl]
      have r0 := hOk.own.row 0 rfl
      unfold Rw.at_ wrw at r0
      rw [hwl] at r0
      have hcz : ∀ m, m < N → ∀ w', Below wz.heap.size wz w' → w'.cell? ⟨Q + 1, m, none⟩ = some (.int .i64 ((Gr.wt es [] m : Nat) : Int)) := fun m hm w' hb => by
        have c0 := own_cell r0 (j := m) (u := .int .i64 ((Gr.wt es [] m : Nat) : Int)) (by
          show (List.map _ _)[m]? = _
          rw [List.getElem?_map, show (Gr.wl N es)[m]? = some ((Gr.wt es [] m : Nat) : Int) from Gr.map_get _ _ _ hm]
          rfl)
        exact (hb.cell (p := ⟨Q + 1, m, none⟩) (r0.lt _ rfl).2).trans c0
      have HR := Lib.hid (And.intro r0 hwl)
      clear r0 hwl
      go_loopw [8, 50] (fun u i wr => ∃ (k : Nat) (s : List Nat), k ≤ N ∧ i = .int .i64 (k : Int) ∧ SlU wr u s ∧ New wz.heap.size u ∧ Gr.R0 N es k s ∧ Below wz.heap.size wz wr) (fun _ i _ => N - (intOf i).toNat)
      case atStart => exact ⟨0, [], Nat.zero_le _, rfl, SlU.nil _, New.nil _ _ _, Gr.R0.zero _ _, Below.refl _ _⟩
      case round =>
        obtain ⟨k, s, hk, rfl, hu, hnw, hs, hbz⟩ := hrel
        by_cases hlt : k < N
        · have c0 := hcz k hlt _ hbz
          obtain ⟨U, hU⟩ : ∃ U, U = Gr.wt es [] k := ⟨_, rfl⟩
          rw [← hU] at c0
          have HU := Lib.hid hU
          obtain ⟨A8, c8, rfl⟩ := slU_form hu
          by_cases h0 : U = 0
          · subst h0
            have hadd := put_new wr _ s k hu (by omega) (Nat.le_trans hs.length (by omega))
            have HS := Lib.hid (And.intro (hs.add hlt HU.out.symm) hbz)
            clear hU hu hnw hs hcz hbz
            go_wp2_with fail
            refine hadd.mono ?_
            rintro e w5 ⟨u, rfl, ⟨hu5, hn5⟩, hb5⟩
            obtain ⟨A9, c9, rfl⟩ := slU_form hu5
            have H5 := Lib.hid (And.intro hu5 (And.intro (hn5.mono HS.out.2.size) (below_next hb5 HS.out.2)))
            clear hu5 hn5 hb5 hadd c0
            go_wp2_with fail
            go_roundw
            case rel => exact ⟨k + 1, _, by omega, by go_num, H5.out.1, H5.out.2.1, HS.out.1, H5.out.2.2⟩
            case measure => simp [intOf]; omega
          · have g0 : ((U : Int) == 0) = false := by simp; omega
            have HS := Lib.hid (And.intro (hs.stay (by rw [← HU.out]; exact h0)) (And.intro hu (And.intro hnw hbz)))
            clear hU hu hnw hs hcz hbz h0
            go_wp2_with fail
            go_roundw
            case rel => exact ⟨k + 1, _, by omega, by go_num, HS.out.2.1, HS.out.2.2.1, HS.out.1, HS.out.2.2.2⟩
            case measure => simp [intOf]; omega
        · obtain rfl : N = k := by omega
          have hrs := hs.rs
          have hO3 := hOk.later hbz
          obtain ⟨A8, c8, rfl⟩ := slU_form hu
          clear hcz
          go_wp2_with fail
          have hO4 := hO3.cons_nil
          have hfar : FarU (Tw (Q + 1 + 1) (irw (.slice none 0 0) [] :: tkR (.slice (some ⟨Q + 1, 0, none⟩) N N) (Gr.wl N es) vs (Gr.nl N es))) (.slice A8 s.length c8) s := by
            refine FarU.new hnw fun k hk => ?_
            rcases hk with rfl | ⟨r, hr, hk⟩
            · exact hOk.own.blk.lt
            · rcases List.mem_cons.1 hr with rfl | hr
              · simp [irw, Value.ownBlock] at hk
              · exact hOk.own.lt (.inr ⟨r, hr, hk⟩)
          obtain ⟨wy, rfl⟩ : ∃ wy : World, wy = wr := ⟨_, rfl⟩
          clear hnw hO3 hOk hs
          go_loopw [7, 8] (fun u7 u8 wr => ∃ (out s : List Nat), Gr.Good N es out ∧ Gr.Rs N es out s ∧ SlU wr u8 s ∧ FarU (Tw (Q + 1 + 1) (irw u7 out :: tkR (.slice (some ⟨Q + 1, 0, none⟩) N N) (wo N es out) vs (Gr.nl N es))) u8 s ∧ OwnTo (Q + 1) w2 (Tw (Q + 1 + 1) (tkR (.slice (some ⟨Q + 1, 0, none⟩) N N) (Gr.wl N []) (List.replicate N (.slice none 0 0)) (Gr.nl N []))) wr (Q + 1 + 1) 32 vs (irw u7 out :: tkR (.slice (some ⟨Q + 1, 0, none⟩) N N) (wo N es out) vs (Gr.nl N es)) ∧ Gr.run N es (N - out.length) out = Gr.take N es) (fun u7 _ _ => N - slLen u7)
          case atStart => exact ⟨[], s, Gr.Good.nil N es, hrs, hu, hfar, hO4, rfl⟩
          case round =>
            clear hu hfar hO4 hrs hbz
            obtain ⟨out, s, hgd, hrs, hu, hfar, hOo, hrun⟩ := hrel
            have hbo := HK.out _ _ _ hOo
            obtain ⟨A8, c8, rfl⟩ := slU_form hu
            by_cases h0 : s = []
            · have hnone := hrs.none h0
              rw [Gr.run_end hnone] at hrun
              have ro : wr.ownsRow (Q + 1) 3 1 u7 out.length (ilist out) := hOo.own.row 0 rfl
              subst h0
              obtain ⟨A7, c7, rfl, -, -⟩ := own_slice ro
              have HE := Lib.hid (And.intro ro (And.intro hbo hrun))
              clear ro hbo hrun hgd hrs hu hfar hOo hnone
              go_wp2_with fail
              all_goals go_ret
              all_goals exact ⟨_, rfl, by rw [← HE.out.2.2]; exact own_base HE.out.1 (by have := HQ.out; omega), HE.out.2.1⟩
            · obtain ⟨n, r, hls⟩ : ∃ n r, Bs.ls 0 s = n :: r := by
                cases hl : Bs.ls 0 s with
                | nil => exact absurd (Bs.ls_none hrs.toGs hl) h0
                | cons n r => exact ⟨n, r, rfl⟩
              have hnx := hrs.some hls
              have hlt := (Gr.nxt_some hnx).1
              have hno := (Gr.nxt_some hnx).2.1
              have hgd' := hgd.snoc hnx
              have hol : out.length < N := by have := hgd'.length; simp at this; omega
              have hrun' : Gr.run N es (N - (out ++ [n]).length) (out ++ [n]) = Gr.take N es := by
                rw [← hrun]
                obtain ⟨d, hd⟩ : ∃ d, N - out.length = d + 1 := ⟨N - out.length - 1, by omega⟩
                rw [hd, Gr.run_more hnx]
                congr 1
                simp
                omega
              have hj0 := hrs.without hN hnx
              have hsl : s.length ≤ 200 := Nat.le_trans hrs.length hN
              have hTw : Tab wr := fun j hj => (hbo.cell (p := ⟨0, j, none⟩) hT.lt).trans (hT j hj)
              have hfi := first_any wr _ s hu hTw (by omega)
              rw [hls] at hfi
              have hpos : 0 < s.length := List.length_pos_iff.2 h0
              have ro : wr.ownsRow (Q + 1) 3 1 u7 out.length (ilist out) := hOo.own.row 0 rfl
              obtain ⟨A7, c7, rfl, -, -⟩ := own_slice ro
              have HG := Lib.hid (And.intro hgd' (And.intro hrun' (And.intro hj0 (And.intro hnx (And.intro hno hgd)))))
              have HU := Lib.hid (And.intro hu hfar)
              clear hgd' hrun' hj0 hnx hno hgd hrun hrs hls hu hfar hbo hTw h0 ro
              go_wp2_with fail
              refine hfi.mono ?_
              rintro e w5 ⟨⟨r5, rfl, h5⟩, hb5⟩
              obtain rfl : r5 = (n : Int) := h5
              have hO5 := hOo.later hb5
              have hu5 := HU.out.1.below hb5
              clear hfi hOo
              have ro : w5.ownsRow (Q + 1) 3 1 (.slice A7 out.length c7) out.length (ilist out) := hO5.own.row 0 rfl
              have hn63 : out.length + 1 ≤ maxLen := by unfold maxLen; omega
              have hn47 : (out.length + 1) * 8 ≤ 140737488355328 := by omega
              have hbase := hO5.own.base
              have HO5 := Lib.hid (And.intro hO5 (And.intro hu5 hb5))
              clear hO5 hu5 hb5
              go_wp2_with (first | (at_builtin; refine wp_push w5 _ _ (Q + 1) _ _ _ _ _ Tryd.underlying32 info_int rfl (by decide) ro [.int .i64 (n : Int)] rfl (by simp [Value.oneCell']) hn63 hn47 hbase rfl rfl rfl rfl ?_; intro v6 w6 hown6 hg6 hv6 hb6; obtain ⟨V6, c6, rfl, _, _⟩ := own_slice hown6) | fail)
              have hT6 : OwnTo (Q + 1) w2 (Tw (Q + 1 + 1) (tkR (.slice (some ⟨Q + 1, 0, none⟩) N N) (Gr.wl N []) (List.replicate N (.slice none 0 0)) (Gr.nl N []))) w6 (Q + 1 + 1) 32 vs (irw (.slice V6 (out.length + 1) c6) (out ++ [n]) :: tkR (.slice (some ⟨Q + 1, 0, none⟩) N N) (wo N es out) vs (Gr.nl N es)) ∧ (∀ k, Tw (Q + 1 + 1) (irw (.slice V6 (out.length + 1) c6) (out ++ [n]) :: tkR (.slice (some ⟨Q + 1, 0, none⟩) N N) (wo N es out) vs (Gr.nl N es)) k → Tw (Q + 1 + 1) (irw (.slice A7 out.length c7) out :: tkR (.slice (some ⟨Q + 1, 0, none⟩) N N) (wo N es out) vs (Gr.nl N es)) k ∨ w5.heap.size ≤ k) ∧ SlU w6 (.slice A8 s.length c8) s := by
                have hx : w5.grownBy w6 (irw (.slice A7 out.length c7) out).v.ownBlock := hg6
                have ho : w6.ownsRow (Q + 1) 3 1 (.slice V6 (out.length + 1) c6) (out ++ [n]).length (ilist (out ++ [n])) := by simpa [ilist, ints] using hown6
                have hvv : (Value.slice V6 (out.length + 1) c6).ownBlock = (irw (.slice A7 out.length c7) out).v.ownBlock ∨ ∃ k, w5.heap.size ≤ k ∧ (Value.slice V6 (out.length + 1) c6).ownBlock = some k := hv6.imp id fun e => ⟨_, Nat.le_succ _, e⟩
                have hp := (HO5.out.1.own.put (i := 0) rfl ho hx hvv).1
                have ht := HO5.out.1.own.put_to (i := 0) rfl ho hx hvv hp (World.grownBy.refl w6 _)
                have hf : FarU (Tw (Q + 1 + 1) (irw (.slice A7 out.length c7) out :: tkR (.slice (some ⟨Q + 1, 0, none⟩) N N) (wo N es out) vs (Gr.nl N es))) (.slice A8 s.length c8) s := HU.out.2
                exact ⟨HO5.out.1.step ht, ht.nw, HO5.out.2.1.far ht.kp hf⟩
              have hofc := of_any (w6.alloc (.cells #[.int .i64 (n : Int)] 3)) (.slice (some ⟨w6.heap.size, 0, none⟩) 1 1) [(n : Int)] (SlV.lit w6 [.int .i64 (n : Int)] 3 1 1 rfl (by decide))
              refine hofc.mono ?_
              rintro e w7 ⟨u7, rfl, hu7, hb7⟩
              have hb67 := below_next hb7 (below_alloc (Below.refl w6.heap.size w6) (.cells #[.int .i64 (n : Int)] 3))
              have hle7 := less_new w7 _ _ s (Bs.of_ [(n : Int)]) (hT6.2.2.below hb67) hu7 (by omega) (Nat.le_trans (Bs.of_length _) (by decide))
              obtain ⟨A9, c9, rfl⟩ := slU_form hu7
              have H6 := Lib.hid (And.intro hT6 hb67)
              clear hofc hu7 hb7 hb67 hT6 hown6 hg6 hv6 hb6 hbase ro
              go_wp2_with fail
              refine hle7.mono ?_
              rintro e w8 ⟨u8, rfl, ⟨hu8, hn8⟩, hb8⟩
              have e0 : wo N es out = Gr.wj N es out n 0 := (Gr.wj_zero N es out n).symm
              have hO7 := H6.out.1.1.later H6.out.2
              have hfar8 : FarU (Tw (Q + 1 + 1) (irw (.slice V6 (out.length + 1) c6) (out ++ [n]) :: tkR (.slice (some ⟨Q + 1, 0, none⟩) N N) (wo N es out) vs (Gr.nl N es))) u8 (Bs.op Bs.fless s (Bs.of_ [(n : Int)])) := FarU.new hn8 fun k hk => hO7.own.lt hk
              have hO8 := hO7.later hb8
              rw [e0] at hfar8 hO8
              obtain ⟨nx, hnx⟩ : ∃ nx, nx = Gr.next es n := ⟨_, rfl⟩
              have hnl : (Gr.nl N es)[n]? = some nx := by rw [hnx]; exact Gr.map_get _ _ _ hlt
              obtain ⟨vn, hvn⟩ : ∃ v, vs[n]? = some v := ⟨_, List.getElem?_eq_getElem (by omega)⟩
              have hrw : ∀ (o : Value) (l : List Nat) (ws : List Int), (irw o l :: tkR (.slice (some ⟨Q + 1, 0, none⟩) N N) ws vs (Gr.nl N es))[n + 1 + 1]? = some (irw vn nx) := fun o l ws => tkR_get (.slice (some ⟨Q + 1, 0, none⟩) N N) ws vs (Gr.nl N es) n vn nx hvn hnl
              have rn : w8.ownsRow (Q + 1) 3 1 vn nx.length (ilist nx) := hO8.own.row (n + 1 + 1) (hrw _ _ _)
              have c21 : w8.cell? ⟨Q + 1 + 1, n, none⟩ = some vn := (hO8.own.blk.cell n).trans hvn
              obtain ⟨VB, cb, rfl, -, -⟩ := own_slice rn
              obtain ⟨A10, c10, rfl⟩ := slU_form hu8
              have HN := Lib.hid (And.intro hnx (And.intro hnl (And.intro hvn hrw)))
              have H8 := Lib.hid (And.intro hu8 (And.intro hfar8 hO8))
              have hnxl : nx.length ≤ 1099511627776 := by
                rw [hnx]
                unfold Gr.next
                rw [List.length_map]
                exact Nat.le_trans (List.length_filter_le _ _) hle
              clear hu8 hn8 hb8 hle7 e0 hO7 hfar8 hO8 hnx hnl hvn hrw rn
              go_wp2_with fail
              clear c21
              go_loopw [8, 80] (fun u i wr => ∃ (j : Nat) (s : List Nat), j ≤ nx.length ∧ i = .int .i64 (j : Int) ∧ SlU wr u s ∧ FarU (Tw (Q + 1 + 1) (irw (.slice V6 (out.length + 1) c6) (out ++ [n]) :: tkR (.slice (some ⟨Q + 1, 0, none⟩) N N) (Gr.wj N es out n j) vs (Gr.nl N es))) u s ∧ Gr.Rj N es out n j s ∧ OwnTo (Q + 1) w2 (Tw (Q + 1 + 1) (tkR (.slice (some ⟨Q + 1, 0, none⟩) N N) (Gr.wl N []) (List.replicate N (.slice none 0 0)) (Gr.nl N []))) wr (Q + 1 + 1) 32 vs (irw (.slice V6 (out.length + 1) c6) (out ++ [n]) :: tkR (.slice (some ⟨Q + 1, 0, none⟩) N N) (Gr.wj N es out n j) vs (Gr.nl N es))) (fun _ i _ => nx.length - (intOf i).toNat)
              case atStart => exact ⟨0, _, Nat.zero_le _, rfl, H8.out.1, H8.out.2.1, HG.out.2.2.1, H8.out.2.2⟩
              case round =>
                clear H8
                obtain ⟨j, s, hj, rfl, hu, hfar, hrj, hO9⟩ := hrel
                by_cases hjl : j < nx.length
                · obtain ⟨m, hm⟩ : ∃ m, nx[j]? = some m := ⟨_, List.getElem?_eq_getElem hjl⟩
                  have hm' : (Gr.next es n)[j]? = some m := by rw [← HN.out.1]; exact hm
                  have hmN : m < N := (HES.out _ (Gr.mem_next.1 (List.mem_of_getElem? hm'))).2
                  have rn : wr.ownsRow (Q + 1) 3 1 (.slice VB nx.length cb) nx.length (ilist nx) := hO9.own.row (n + 1 + 1) (HN.out.2.2.2 _ _ _)
                  have gm : (ilist nx)[j]? = some (.int .i64 (m : Int)) := by
                    show (List.map _ (List.map _ _))[j]? = _
                    rw [List.getElem?_map, List.getElem?_map, hm]
                    rfl
                  obtain ⟨gb, go, hVB, hgl, hgc⟩ := (Cells.of_own rn).at_ (fun e => by rw [e] at gm; simp at gm)
                  have c1 := hgc _ _ gm
                  subst hVB
                  have hwl : (Gr.wj N es out n j).length = N := by simp [Gr.wj]
                  have r0 := hO9.own.row 1 rfl
                  unfold Rw.at_ wrw at r0
                  rw [hwl] at r0
                  obtain ⟨X, hX⟩ : ∃ X : Int, X = ((Gr.wt es out m : Nat) : Int) - ((((Gr.next es n).take j).count m : Nat) : Int) := ⟨_, rfl⟩
                  have c0 := own_cell r0 (j := m) (u := .int .i64 X) (by
                    show (List.map _ _)[m]? = _
                    rw [List.getElem?_map, Gr.wj_get hmN, hX]
                    rfl)
                  have hX0 : 0 ≤ X := by
                    have h1 := Gr.count_le HG.out.2.2.2.2.1 es m
                    have h2 : ((Gr.next es n).take j).count m ≤ (Gr.next es n).count m := List.Sublist.count_le m (List.take_sublist _ _)
                    omega
                  have hX1 : X ≤ 1099511627776 := by
                    have := Gr.wt_le es out m
                    omega
                  have f0 := row_frozen r0 m
                  have hr9 := row_set r0 m (.int .i64 (X - 1))
                  have hg9 := grown_setCell wr (Q + 1) m (.int .i64 (X - 1))
                  have H9 := Lib.hid (And.intro hu (And.intro hfar (And.intro hrj (And.intro hO9 (And.intro hX hm')))))
                  have hsl9 : s.length ≤ 200 := Nat.le_trans hrj.length hN
                  obtain ⟨A11, c11, rfl⟩ := slU_form hu
                  clear hu hfar hrj hO9 hX hm hm' gm hgc rn r0 hwl
                  go_upto_region 25 with (fail)
                  obtain ⟨w9, hw9⟩ : ∃ w9, w9 = wr.setCell ⟨Q + 1, m, none⟩ (.int .i64 (X - 1)) := ⟨_, rfl⟩
                  rw [← hw9] at hr9 hg9 ⊢
                  have hws : Gr.wj N es out n (j + 1) = (Gr.wj N es out n j).set m (X - 1) := by rw [Gr.wj_step H9.out.2.2.2.2.2, H9.out.2.2.2.2.1]
                  have c2 := own_cell hr9 (j := m) (u := .int .i64 (X - 1)) (List.getElem?_set_self (by rw [ints_length]; simp [Gr.wj]; exact hmN))
                  have hT9 : OwnTo (Q + 1) w2 (Tw (Q + 1 + 1) (tkR (.slice (some ⟨Q + 1, 0, none⟩) N N) (Gr.wl N []) (List.replicate N (.slice none 0 0)) (Gr.nl N []))) w9 (Q + 1 + 1) 32 vs (irw (.slice V6 (out.length + 1) c6) (out ++ [n]) :: tkR (.slice (some ⟨Q + 1, 0, none⟩) N N) (Gr.wj N es out n (j + 1)) vs (Gr.nl N es)) ∧ SlU w9 (.slice A11 s.length c11) s ∧ FarU (Tw (Q + 1 + 1) (irw (.slice V6 (out.length + 1) c6) (out ++ [n]) :: tkR (.slice (some ⟨Q + 1, 0, none⟩) N N) (Gr.wj N es out n (j + 1)) vs (Gr.nl N es))) (.slice A11 s.length c11) s := by
                    rw [← ints_set, ← hws] at hr9
                    have hl1 : (Gr.wj N es out n (j + 1)).length = N := by simp [Gr.wj]
                    have h1 : wr.grownBy w9 (wrw (.slice (some ⟨Q + 1, 0, none⟩) N N) (Gr.wj N es out n j)).v.ownBlock := hg9
                    have hO := H9.out.2.2.2.1
                    have hp := (hO.own.put (i := 1) rfl (v' := .slice (some ⟨Q + 1, 0, none⟩) N N) (n' := N) hr9 h1 (.inl rfl)).1
                    have ht := hO.own.put_to (i := 1) rfl (v' := .slice (some ⟨Q + 1, 0, none⟩) N N) (n' := N) hr9 h1 (.inl rfl) hp (World.grownBy.refl w9 _)
                    have e : (irw (.slice V6 (out.length + 1) c6) (out ++ [n]) :: tkR (.slice (some ⟨Q + 1, 0, none⟩) N N) (Gr.wj N es out n j) vs (Gr.nl N es)).set 1 ⟨3, 1, .slice (some ⟨Q + 1, 0, none⟩) N N, N, ints .i64 (Gr.wj N es out n (j + 1))⟩ = (irw (.slice V6 (out.length + 1) c6) (out ++ [n]) :: tkR (.slice (some ⟨Q + 1, 0, none⟩) N N) (Gr.wj N es out n (j + 1)) vs (Gr.nl N es)) := by
                      show _ = irw _ _ :: wrw _ _ :: _
                      unfold wrw
                      rw [hl1]
                      rfl
                    have ht' : OwnTo (Q + 1) wr (Tw (Q + 1 + 1) (irw (.slice V6 (out.length + 1) c6) (out ++ [n]) :: tkR (.slice (some ⟨Q + 1, 0, none⟩) N N) (Gr.wj N es out n j) vs (Gr.nl N es))) w9 (Q + 1 + 1) 32 vs (irw (.slice V6 (out.length + 1) c6) (out ++ [n]) :: tkR (.slice (some ⟨Q + 1, 0, none⟩) N N) (Gr.wj N es out n (j + 1)) vs (Gr.nl N es)) := e ▸ ht
                    exact ⟨hO.step ht', H9.out.1.far ht'.kp H9.out.2.1, H9.out.2.1.step H9.out.1 ht'.nw⟩
                  clear hr9 hg9 hw9 c0 c1 f0 hws
                  generalize hY : X - 1 = Y at c2 ⊢
                  have HY := Lib.hid hY
                  have HT9 := Lib.hid hT9
                  clear hY hX0 hX1 hT9
                  by_cases hy : Y = 0
                  · subst hy
                    have hadd := put_new w9 _ s m HT9.out.2.1 (by omega) (by omega)
                    go_wp2_with fail
                    refine hadd.mono ?_
                    rintro e w10 ⟨u10, rfl, ⟨hu10, hn10⟩, hb10⟩
                    have hrj' := H9.out.2.2.1.add HG.out.2.2.2.2.2 (fun e he => (HES.out e he).2) HG.out.2.2.2.1 H9.out.2.2.2.2.2 (by have := H9.out.2.2.2.2.1; have := HY.out; omega)
                    have hO10 := HT9.out.1.later hb10
                    have hf10 : FarU (Tw (Q + 1 + 1) (irw (.slice V6 (out.length + 1) c6) (out ++ [n]) :: tkR (.slice (some ⟨Q + 1, 0, none⟩) N N) (Gr.wj N es out n (j + 1)) vs (Gr.nl N es))) u10 (Bs.put s m) := FarU.new hn10 fun k hk => HT9.out.1.own.lt hk
                    obtain ⟨A12, c12, rfl⟩ := slU_form hu10
                    have HF := Lib.hid (And.intro hu10 (And.intro hf10 (And.intro hrj' hO10)))
                    clear hu10 hn10 hb10 hadd hrj' hO10 hf10 c2
                    go_wp2_with fail
                    go_roundw
                    case rel => exact ⟨j + 1, _, by omega, by go_num, HF.out.1, HF.out.2.1, HF.out.2.2.1, HF.out.2.2.2⟩
                    case measure => simp [intOf]; omega
                  · have gy : (Y == 0) = false := by simpa using hy
                    have hrj' := H9.out.2.2.1.stay HG.out.2.2.2.2.2 (fun e he => (HES.out e he).2) HG.out.2.2.2.1 H9.out.2.2.2.2.2 (fun h => hy (by have := H9.out.2.2.2.2.1; have := HY.out; omega))
                    have HF := Lib.hid hrj'
                    clear hrj' hy
                    go_wp2_with fail
                    go_roundw
                    case rel => exact ⟨j + 1, _, by omega, by go_num, HT9.out.2.1, HT9.out.2.2, HF.out, HT9.out.1⟩
                    case measure => simp [intOf]; omega
                · obtain rfl : j = nx.length := by omega
                  have hnn : nx.length = (Gr.next es n).length := by rw [HN.out.1]
                  rw [hnn] at hrj hfar hO9
                  have e1 : Gr.wj N es out n (Gr.next es n).length = wo N es (out ++ [n]) := Gr.wj_full HG.out.2.2.2.2.1
                  rw [e1] at hfar hO9
                  obtain ⟨A12, c12, rfl⟩ := slU_form hu
                  have HF := Lib.hid (And.intro hu (And.intro hfar (And.intro (hrj.full HG.out.2.2.2.2.1) hO9)))
                  clear hu hfar hrj hO9 e1 hnn
                  go_wp2_with fail
                  go_roundw
                  case rel => exact ⟨out ++ [n], _, HG.out.1, HF.out.2.2.1, HF.out.1, HF.out.2.1, HF.out.2.2.2, HG.out.2.1⟩
                  case measure => simp [slLen]; omega
end Go.Proofs.YtpimcghmpbbckaaDoor


namespace Go.Proofs.YtpimcghmpbbckaaDoor
set_option linter.unusedVariables false
set_option linter.unusedSimpArgs false
set_option maxRecDepth 100000
open Go.RowKit

namespace Gr
abbrev Er := Int × Int
def okE (n : Int) (e : Er) : Bool := !(decide (e.1 < 0) || decide (e.2 < 0) || decide (n ≤ e.1) || decide (n ≤ e.2))
def okG (n : Int) (es : List Er) : Bool := !(decide (n < 0)) && !(decide (200 < n)) && es.all (okE n)
def nat (es : List Er) : List Ed := es.map fun e => (e.1.toNat, e.2.toNat)
/-- what is wrong with a graph -/
def wrong (n : Int) (es : List Er) : Int := if okG n es then (if (take n.toNat (nat es)).length < n.toNat then 3 else 0) else 2
theorem okG_iff {n : Int} {es : List Er} : okG n es = true ↔ 0 ≤ n ∧ n ≤ 200 ∧ ∀ e ∈ es, 0 ≤ e.1 ∧ 0 ≤ e.2 ∧ e.1 < n ∧ e.2 < n := by
  unfold okG
  rw [Bool.and_eq_true, Bool.and_eq_true, List.all_eq_true]
  simp only [okE, Bool.not_eq_true', Bool.or_eq_false_iff, decide_eq_false_iff_not]
  constructor
  · rintro ⟨⟨a, b⟩, c⟩
    exact ⟨by omega, by omega, fun e he => by have := c e he; omega⟩
  · rintro ⟨a, b, c⟩
    exact ⟨⟨by omega, by omega⟩, fun e he => by have := c e he; omega⟩
theorem nat_ok {n : Int} {es : List Er} (h : okG n es = true) : ∃ N : Nat, n = (N : Int) ∧ N ≤ 200 ∧ (∀ e ∈ nat es, e.1 < N ∧ e.2 < N) ∧ (nat es).length = es.length ∧ es.map (fun e => ((e.1 : Int), (e.2 : Int))) = (nat es).map fun e => ((e.1 : Int), (e.2 : Int)) := by
  obtain ⟨a, b, c⟩ := okG_iff.1 h
  obtain ⟨N, rfl⟩ := Int.eq_ofNat_of_zero_le a
  refine ⟨N, rfl, by omega, fun e he => ?_, by simp [nat], ?_⟩
  · obtain ⟨x, hx, rfl⟩ := List.mem_map.1 he
    have := c x hx
    exact ⟨by show x.1.toNat < N; omega, by show x.2.toNat < N; omega⟩
  · unfold nat
    rw [List.map_map]
    refine List.map_congr_left fun e he => ?_
    have := c e he
    show (e.1, e.2) = (((e.1.toNat : Nat) : Int), ((e.2.toNat : Nat) : Int))
    rw [Int.toNat_of_nonneg this.1, Int.toNat_of_nonneg this.2.1]
end Gr
def erc (e : Gr.Er) : List Value := [.int .i64 e.1, .int .i64 e.2]
def ercs (l : List Gr.Er) : List Value := l.flatMap erc
theorem ercs_nat {n : Int} {es : List Gr.Er} (h : Gr.okG n es = true) : ercs es = edcs (Gr.nat es) := by
  obtain ⟨_, _, c⟩ := Gr.okG_iff.1 h
  unfold ercs edcs Gr.nat
  rw [List.flatMap_map, List.flatMap_def, List.flatMap_def]
  congr 1
  refine List.map_congr_left fun e he => ?_
  have := c e he
  show [Value.int .i64 e.1, .int .i64 e.2] = [.int .i64 ((e.1.toNat : Nat) : Int), .int .i64 ((e.2.toNat : Nat) : Int)]
  rw [Int.toNat_of_nonneg this.1, Int.toNat_of_nonneg this.2.1]

def FTk (base : Nat) (l : List Nat) : Fact (fun w w' => Below w.heap.size w w') := ⟨fun v w => w.ownsRow base 3 1 v l.length (ilist l), fun _ _ _ h k => own_keeps h (Keeps.of_below k (fun _ => False)) (fun _ _ => id)⟩

set_option maxHeartbeats 4000000 in
theorem wrong_any (n : Int) (es : List Gr.Er) (w : World) (A : Option Addr) (c : Nat) (hA : SlV w 2 (.slice A es.length c) es.length (ercs es)) (hle : es.length ≤ 1099511627776) (hT : Tab w) :
    Calls Tryd.prog 14 #[.agg #[.int .i64 n, .slice A es.length c]] w fun e w' => e = .returned (.int .i64 (Gr.wrong n es)) ∧ Below w.heap.size w w' := by
  have x0 := Blk.new w 24 [.int .i64 n, .slice A es.length c]
  have hb0 : Below w.heap.size w (w.alloc (.cells #[.int .i64 n, .slice A es.length c] 24)) := below_alloc (Below.refl _ _) _
  obtain ⟨R, hR⟩ : ∃ R, R = Gr.wrong n es := ⟨_, rfl⟩
  rw [← hR]
  have HR := Lib.hid hR
  clear hR
  rcases h1 : decide (n < 0) with _ | _
  · rcases h2 : decide (200 < n) with _ | _
    · go_enter Tryd.func14, Tryd.ntmps14
      go_upto_region 3 with (fail)
      generalize (w.alloc (.cells #[.int .i64 n, .slice A es.length c] 24)) = W0 at x0 hb0 ⊢
      have d0 : W0.cell? ⟨w.heap.size, 0, none⟩ = some (.int .i64 n) := (x0.cell 0).trans rfl
      have d1 : W0.cell? ⟨w.heap.size, 1, none⟩ = some (.slice A es.length c) := (x0.cell 1).trans rfl
      go_wp2_with fail
      clear d0 d1
      go_loopw [16] (fun i wr => ∃ k : Nat, k ≤ es.length ∧ i = .int .i64 (k : Int) ∧ (∀ e ∈ es.take k, Gr.okE n e = true) ∧ Below W0.heap.size W0 wr) (fun i _ => es.length - (intOf i).toNat)
      case atStart => exact ⟨0, Nat.zero_le _, rfl, by simp, Below.refl _ _⟩
      case round =>
        obtain ⟨k, hk, rfl, hok, hb⟩ := hrel
        have hbw := below_next hb hb0
        have x1 := x0.below hb
        by_cases hlt : k < es.length
        · obtain ⟨⟨a, b⟩, hx⟩ : ∃ x, es[k]? = some x := ⟨_, List.getElem?_eq_getElem hlt⟩
          have gx := flat_get erc 2 (fun _ => rfl) es k
          have g1 := gx 0 _ hx (by omega)
          have g2 := gx 1 _ hx (by omega)
          obtain ⟨A', c', he, -, -, -, hcc⟩ := hA.below hbw
          injection he with e1 e2 e3
          subst e1 e3
          obtain ⟨g, o, rfl, hgl, hcell⟩ := hcc.at_ (fun e => by rw [show List.flatMap erc es = ercs es from rfl, e] at g1; simp [erc] at g1)
          have d0 : wr.cell? ⟨g, o + k * 2, none⟩ = some (.int .i64 a) := (hcell _ _ g1).trans rfl
          have d1 : wr.cell? ⟨g, o + k * 2 + 1, none⟩ = some (.int .i64 b) := by rw [Nat.add_assoc]; exact hcell _ _ g2
          have htk := Gr.take_snoc hx
          have hbad : Gr.okE n (a, b) = false → R = 2 := fun hf => by
            rw [HR.out]
            unfold Gr.wrong
            have : Gr.okG n es = false := by
              unfold Gr.okG
              rw [List.all_eq_false.2 ⟨_, List.mem_of_getElem? hx, by rw [hf]; simp⟩, Bool.and_false]
            rw [this]
            rfl
          have hgood : Gr.okE n (a, b) = true → ∀ e ∈ es.take (k + 1), Gr.okE n e = true := fun hf e he => by
            rw [htk] at he
            rcases List.mem_append.1 he with he | he
            · exact hok e he
            · rw [List.mem_singleton.1 he]; exact hf
          have hE := Blk.new wr 34 [.int .i64 a, .int .i64 b]
          have x5 := x1.alloc (.cells #[.int .i64 a, .int .i64 b] 34)
          have hb5 := below_alloc hb (.cells #[.int .i64 a, .int .i64 b] 34)
          have HH := Lib.hid (And.intro hbad hgood)
          clear hbad hgood htk hok hx gx g1 g2 hcc hcell e2 hA x0 x1 hb
          go_upto_region 6 with (fail)
          generalize (wr.alloc (.cells #[.int .i64 a, .int .i64 b] 34)) = W5 at hE x5 hb5 ⊢
          have c0 : W5.cell? ⟨wr.heap.size, 0, none⟩ = some (.int .i64 a) := (hE.cell 0).trans rfl
          have c1 : W5.cell? ⟨wr.heap.size, 1, none⟩ = some (.int .i64 b) := (hE.cell 1).trans rfl
          have c2 : W5.cell? ⟨w.heap.size, 0, none⟩ = some (.int .i64 n) := (x5.cell 0).trans rfl
          have hb50 := Lib.hid (And.intro hb5 (below_next hb5 hb0))
          clear d0 d1 hE x5 hbw hb5
          rcases k1 : decide (a < 0) with _ | _
          · rcases k2 : decide (b < 0) with _ | _
            · rcases k3 : decide (n ≤ a) with _ | _
              · rcases k4 : decide (n ≤ b) with _ | _
                · have hg := HH.out.2 (by unfold Gr.okE; simp only [k1, k2, k3, k4]; rfl)
                  have HG := Lib.hid hg
                  clear hg
                  go_wp2_with fail
                  go_roundw
                  case rel => exact ⟨k + 1, by omega, by go_num, HG.out, hb50.out.1⟩
                  case measure => simp [intOf]; omega
                · have h3 := HH.out.1 (by unfold Gr.okE; simp only [k1, k2, k3, k4]; rfl)
                  subst h3
                  go_wp2_with fail
                  go_ret
                  exact ⟨rfl, hb50.out.2⟩
              · have h3 := HH.out.1 (by unfold Gr.okE; simp only [k1, k2, k3]; simp)
                subst h3
                go_wp2_with fail
                go_ret
                exact ⟨rfl, hb50.out.2⟩
            · have h3 := HH.out.1 (by unfold Gr.okE; simp only [k1, k2]; simp)
              subst h3
              go_wp2_with fail
              go_ret
              exact ⟨rfl, hb50.out.2⟩
          · have h3 := HH.out.1 (by unfold Gr.okE; simp only [k1]; simp)
            subst h3
            go_wp2_with fail
            go_ret
            exact ⟨rfl, hb50.out.2⟩
        · obtain rfl : k = es.length := by omega
          rw [List.take_length] at hok
          have hokG : Gr.okG n es = true := by
            unfold Gr.okG
            rw [h1, h2, List.all_eq_true.2 hok]
            rfl
          obtain ⟨N, rfl, hN, hes, hln, -⟩ := Gr.nat_ok hokG
          have hAe := hA.below hbw
          rw [ercs_nat hokG] at hAe
          have htk : ∀ w', Below wr.heap.size wr w' → Calls Tryd.prog 38 #[.agg #[.int .i64 (N : Int), .slice A es.length c]] w' fun e w'' => ∃ u, e = .returned u ∧ w''.ownsRow w'.heap.size 3 1 u (Gr.take N (Gr.nat es)).length (ilist (Gr.take N (Gr.nat es))) ∧ Below w'.heap.size w' w'' := fun w' hb' => by
            have h4 := hAe.below hb'
            rw [← hln] at h4
            have := take_any N (Gr.nat es) w' A c hN hes h4 (by omega) (fun j hj => ((below_next hb' hbw).cell (p := ⟨0, j, none⟩) hT.lt).trans (hT j hj))
            rwa [hln] at this
          have hRv : R = if (Gr.take N (Gr.nat es)).length < N then 3 else 0 := by
            rw [HR.out]
            unfold Gr.wrong
            rw [hokG]
            rfl
          obtain ⟨L, hL⟩ : ∃ L, L = Gr.take N (Gr.nat es) := ⟨_, rfl⟩
          rw [← hL] at htk hRv
          have keepS : ∀ w', Below wr.heap.size wr w' → (Below wr.heap.size wr w' ∧ w'.cell? ⟨w.heap.size, 0, none⟩ = some (.int .i64 (N : Int)) ∧ w'.cell? ⟨w.heap.size, 1, none⟩ = some (.slice A es.length c)) := fun w' hb' => ⟨hb', ((x1.below hb').cell 0).trans rfl, ((x1.below hb').cell 1).trans rfl⟩
          have hS0 := keepS _ (below_drew (Below.refl _ _))
          have HRv := Lib.hid (And.intro hRv hbw)
          clear hA hAe hok hokG hL hRv x0 x1 hb HR hes hln
          go_wp2_with fail
          refine wp_walk (by kernel_rfl) (by kernel_rfl) (fun w w' => Below w.heap.size w w') (fun w' => (Below wr.heap.size wr w' ∧ w'.cell? ⟨w.heap.size, 0, none⟩ = some (.int .i64 (N : Int)) ∧ w'.cell? ⟨w.heap.size, 1, none⟩ = some (.slice A es.length c))) hS0 ?_
          repeat (first | (refine settle_skip (fun _ => by rfl) ?_; (simp only [Act.put, List.setIfInBounds_toArray, List.set_cons_zero, List.set_cons_succ])) | (refine' settle_run (fun _ _ => Below.refl _ _) (fun _ => by rfl) ?_ ?_; rotate_left; (focus (intro ρ w hS hF; (try dsimp only at hS); go_split_ands; go_simp; try with_reducible rfl)); (simp only [Act.put, List.setIfInBounds_toArray, List.set_cons_zero, List.set_cons_succ])))
          (refine settle_known (FTk wr.heap.size L) (by rfl) (fun _ => by rfl)  ?_ ?_; (focus (intro ρ w hS hF K hK; (simp only [Act.put, List.setIfInBounds_toArray, List.set_cons_zero, List.set_cons_succ] at hK); go_simp; (refine (htk _ hS.1).mono ?_; rintro e w' ⟨u, rfl, ho, hb'⟩; exact hK _ _ (own_base ho hS.1.size) (keepS _ (below_next hb' hS.1)) hb'))); (simp only [Act.put, List.setIfInBounds_toArray, List.set_cons_zero, List.set_cons_succ]))
          (refine' settle_step (fun _ => by rfl) ?_ ?_; rotate_left; (focus (intro ρ w hS hF K hK; (simp only [Act.put, List.setIfInBounds_toArray, List.set_cons_zero, List.set_cons_succ] at hK); go_simp; (obtain ⟨A', c', hv, -, -⟩ := own_slice (hF.1 (by rfl))); rw [hv] at hK ⊢; go_simp; have hS' := hS; have hE' := Below.refl w.heap.size w; exact hK _ hS' hE')); (simp only [Act.put, List.setIfInBounds_toArray, List.set_cons_zero, List.set_cons_succ]))
          repeat (first | (refine settle_skip (fun _ => by rfl) ?_; (simp only [Act.put, List.setIfInBounds_toArray, List.set_cons_zero, List.set_cons_succ])) | (refine' settle_run (fun _ _ => Below.refl _ _) (fun _ => by rfl) ?_ ?_; rotate_left; (focus (intro ρ w hS hF; (try dsimp only at hS); go_split_ands; go_simp; try with_reducible rfl)); (simp only [Act.put, List.setIfInBounds_toArray, List.set_cons_zero, List.set_cons_succ])))
          refine settle_nil ?_
          intro ρ w5 hS hF
          have hb5 := below_next hS.1 HRv.out.2
          clear hF hS hS0 keepS htk
          dsimp only
          generalize ρ 44 = v44
          by_cases hlt2 : L.length < N
          · have h3 : R = 3 := by rw [HRv.out.1, if_pos hlt2]
            subst h3
            go_wp2_with fail
            go_ret
            exact ⟨rfl, hb5⟩
          · have h3 : R = 0 := by rw [HRv.out.1, if_neg hlt2]
            subst h3
            go_wp2_with fail
            go_ret
            exact ⟨rfl, hb5⟩
    · have h3 : R = 2 := by rw [HR.out]; unfold Gr.wrong Gr.okG; rw [h1, h2]; rfl
      subst h3
      clear x0 HR hA
      have HB := Lib.hid hb0
      clear hb0
      go_enter Tryd.func14, Tryd.ntmps14
      go_wp2_with fail
      go_ret
      exact ⟨rfl, HB.out⟩
  · have h3 : R = 2 := by rw [HR.out]; unfold Gr.wrong Gr.okG; rw [h1]; rfl
    subst h3
    clear x0 HR hA
    have HB := Lib.hid hb0
    clear hb0
    go_enter Tryd.func14, Tryd.ntmps14
    go_wp2_with fail
    go_ret
    exact ⟨rfl, HB.out⟩
end Go.Proofs.YtpimcghmpbbckaaDoor


namespace Go.Proofs.YtpimcghmpbbckaaDoor
set_option linter.unusedVariables false
set_option linter.unusedSimpArgs false
set_option maxRecDepth 100000
open Go.RowKit

set_option maxHeartbeats 4000000 in
theorem sort_any (n : Int) (es : List Gr.Er) (w : World) (A : Option Addr) (c : Nat) (hA : SlV w 2 (.slice A es.length c) es.length (ercs es)) (hle : es.length ≤ 1099511627776) (hT : Tab w) :
    Calls Tryd.prog 25 #[.agg #[.int .i64 n, .slice A es.length c]] w fun e w' => ∃ v, e = .returned (.tuple #[v, .int .i64 (Gr.wrong n es)]) ∧ (Gr.wrong n es ≠ 0 → v = .slice none 0 0) ∧ (Gr.wrong n es = 0 → w'.ownsRow w.heap.size 3 1 v (Gr.take n.toNat (Gr.nat es)).length (ilist (Gr.take n.toNat (Gr.nat es)))) ∧ Below w.heap.size w w' := by
  have x0 := Blk.new w 24 [.int .i64 n, .slice A es.length c]
  have hb0 : Below w.heap.size w (w.alloc (.cells #[.int .i64 n, .slice A es.length c] 24)) := below_alloc (Below.refl _ _) _
  have hTb : ∀ w', Below w.heap.size w w' → Tab w' := fun w' hb j hj => (hb.cell (p := ⟨0, j, none⟩) hT.lt).trans (hT j hj)
  have hwr : ∀ w', Below w.heap.size w w' → Calls Tryd.prog 14 #[.agg #[.int .i64 n, .slice A es.length c]] w' fun e w'' => e = .returned (.int .i64 (Gr.wrong n es)) ∧ Below w'.heap.size w' w'' := fun w' hb => wrong_any n es w' A c (hA.below hb) hle (hTb w' hb)
  have htk : Gr.wrong n es = 0 → ∀ w', Below w.heap.size w w' → Calls Tryd.prog 38 #[.agg #[.int .i64 n, .slice A es.length c]] w' fun e w'' => ∃ u, e = .returned u ∧ w''.ownsRow w'.heap.size 3 1 u (Gr.take n.toNat (Gr.nat es)).length (ilist (Gr.take n.toNat (Gr.nat es))) ∧ Below w'.heap.size w' w'' := fun h0 w' hb => by
    have hok : Gr.okG n es = true := by
      cases h : Gr.okG n es with
      | true => rfl
      | false =>
        unfold Gr.wrong at h0
        rw [h] at h0
        cases h0
    obtain ⟨N, rfl, hN, hes, hln, -⟩ := Gr.nat_ok hok
    have h4 := hA.below hb
    rw [ercs_nat hok, ← hln] at h4
    have := take_any N (Gr.nat es) w' A c hN hes h4 (by omega) (hTb w' hb)
    rw [hln] at this
    exact this
  obtain ⟨R, hR⟩ : ∃ R, R = Gr.wrong n es := ⟨_, rfl⟩
  rw [← hR] at hwr htk ⊢
  generalize Gr.take n.toNat (Gr.nat es) = L at htk ⊢
  clear hR hA hTb hT
  go_enter Tryd.func25, Tryd.ntmps25
  go_upto_region 1 with (fail)
  generalize (w.alloc (.cells #[.int .i64 n, .slice A es.length c] 24)) = W0 at x0 hb0 ⊢
  have d0 : W0.cell? ⟨w.heap.size, 0, none⟩ = some (.int .i64 n) := (x0.cell 0).trans rfl
  have d1 : W0.cell? ⟨w.heap.size, 1, none⟩ = some (.slice A es.length c) := (x0.cell 1).trans rfl
  go_wp2_with fail
  refine (hwr W0 hb0).mono ?_
  rintro e w1 ⟨rfl, hb1⟩
  have x1 := x0.below hb1
  have c0 : w1.cell? ⟨w.heap.size, 0, none⟩ = some (.int .i64 n) := (x1.cell 0).trans rfl
  have c1 : w1.cell? ⟨w.heap.size, 1, none⟩ = some (.slice A es.length c) := (x1.cell 1).trans rfl
  have hb01 := below_next hb1 hb0
  clear d0 d1 x0 x1 hwr hb1 hb0
  by_cases h0 : R = 0
  · have hk := htk h0 w1 hb01
    subst h0
    clear htk
    have HB := Lib.hid hb01
    clear hb01
    go_wp2_with fail
    refine hk.mono ?_
    rintro e w2 ⟨u, rfl, ho, hb2⟩
    obtain ⟨A', c', rfl, -, -⟩ := own_slice ho
    have HE := Lib.hid (And.intro (own_base ho HB.out.size) (below_next hb2 HB.out))
    clear ho hb2 hk c0 c1
    go_wp2_with fail
    go_ret2
    exact ⟨_, rfl, HE.out.1, HE.out.2⟩
  · have g0 : (R != 0) = true := by simpa using h0
    have HE := Lib.hid (And.intro h0 hb01)
    clear htk h0 hb01 c0 c1
    go_wp2_with fail
    go_ret2
    exact ⟨_, rfl, fun _ => rfl, fun h => absurd h HE.out.1, HE.out.2⟩
end Go.Proofs.YtpimcghmpbbckaaDoor


namespace Go.Proofs.YtpimcghmpbbckaaDoor
set_option linter.unusedVariables false
set_option linter.unusedSimpArgs false
set_option maxRecDepth 100000

def rv (l : List Int) (k : Nat) : List Int := (List.range l.length).map fun i => if i < k ∨ l.length ≤ i + k then l.getD (l.length - 1 - i) 0 else l.getD i 0
theorem rv_length (l : List Int) (k : Nat) : (rv l k).length = l.length := by simp [rv]
theorem rv_get (l : List Int) (k i : Nat) (h : i < l.length) : (rv l k)[i]? = some (if i < k ∨ l.length ≤ i + k then l.getD (l.length - 1 - i) 0 else l.getD i 0) := by
  unfold rv
  rw [List.getElem?_map, List.getElem?_range h]
  rfl
theorem rv_zero (l : List Int) : rv l 0 = l := by
  apply List.ext_getElem?
  intro i
  by_cases h : i < l.length
  · rw [rv_get l 0 i h, if_neg (by omega), List.getD_eq_getElem?_getD, List.getElem?_eq_getElem h]
    rfl
  · rw [List.getElem?_eq_none (by rw [rv_length]; omega), List.getElem?_eq_none (by omega)]
theorem rv_step (l : List Int) (k : Nat) (h : 2 * k + 1 < l.length) : rv l (k + 1) = ((rv l k).set k (l.getD (l.length - 1 - k) 0)).set (l.length - 1 - k) (l.getD k 0) := by
  apply List.ext_getElem?
  intro i
  by_cases hi : i < l.length
  · rw [rv_get l (k + 1) i hi, List.getElem?_set, List.getElem?_set]
    by_cases e1 : l.length - 1 - k = i
    · subst e1
      rw [if_pos rfl, if_pos (by omega), if_pos (by rw [List.length_set, rv_length]; omega), show l.length - 1 - (l.length - 1 - k) = k by omega]
    · rw [if_neg e1]
      by_cases e2 : k = i
      · subst e2
        rw [if_pos rfl, if_pos (by omega), if_pos (by rw [rv_length]; omega)]
      · rw [if_neg e2, rv_get l k i hi]
        by_cases h1 : i < k ∨ l.length ≤ i + k
        · rw [if_pos h1, if_pos (by omega)]
        · rw [if_neg h1, if_neg (by omega)]
  · rw [List.getElem?_eq_none (by rw [rv_length]; omega), List.getElem?_eq_none (by rw [List.length_set, List.length_set, rv_length]; omega)]
theorem rv_end (l : List Int) (k : Nat) (h : l.length ≤ 2 * k + 1) : rv l k = l.reverse := by
  apply List.ext_getElem?
  intro i
  by_cases hi : i < l.length
  · rw [rv_get l k i hi, List.getElem?_reverse hi, List.getElem?_eq_getElem (by omega)]
    by_cases h1 : i < k ∨ l.length ≤ i + k
    · rw [if_pos h1, List.getD_eq_getElem?_getD, List.getElem?_eq_getElem (by omega)]
      rfl
    · have : i = l.length - 1 - i := by omega
      rw [if_neg h1, List.getD_eq_getElem?_getD, List.getElem?_eq_getElem hi]
      simp only [Option.getD_some]
      congr 1
      congr 1
  · rw [List.getElem?_eq_none (by rw [rv_length]; omega), List.getElem?_eq_none (by simp; omega)]
end Go.Proofs.YtpimcghmpbbckaaDoor


namespace Go.Proofs.YtpimcghmpbbckaaDoor
set_option linter.unusedVariables false
set_option linter.unusedSimpArgs false
set_option maxRecDepth 100000
open Go.RowKit

set_option maxHeartbeats 2000000 in
theorem reverse_any (w : World) (B g c : Nat) (l : List Int) (h : w.ownsRow B 3 1 (.slice (some ⟨g, 0, none⟩) l.length c) l.length (ints .i64 l)) (hl : l.length ≤ 1099511627776) :
    Calls Tryd.prog 58 #[.slice (some ⟨g, 0, none⟩) l.length c] w fun e w' => (∃ v, e = .returned v) ∧ w'.ownsRow B 3 1 (.slice (some ⟨g, 0, none⟩) l.length c) l.length (ints .i64 l.reverse) ∧ w.grownBy w' (some g) := by
  have H := Lib.hid h
  clear h
  go_enter Tryd.func58, Tryd.ntmps58
  go_wp2_with fail
  go_loopw [2, 3] (fun i j wr => ∃ k : Nat, 2 * k ≤ l.length + 1 ∧ i = .int .i64 (k : Int) ∧ j = .int .i64 ((l.length : Int) - 1 - k) ∧ wr.ownsRow B 3 1 (.slice (some ⟨g, 0, none⟩) l.length c) l.length (ints .i64 (rv l k)) ∧ w.grownBy wr (some g)) (fun i _ _ => l.length - (intOf i).toNat)
  case atStart => exact ⟨0, by omega, rfl, by simp, by rw [rv_zero]; exact H.out, World.grownBy.refl w _⟩
  case round =>
    obtain ⟨k, hk, rfl, rfl, hr, hg⟩ := hrel
    by_cases hlt : 2 * k + 1 < l.length
    · obtain ⟨m, hm⟩ : ∃ m : Nat, m = l.length - 1 - k := ⟨_, rfl⟩
      have hmi : (l.length : Int) - 1 - k = (m : Int) := by omega
      rw [hmi]
      have hkm : k < m := by omega
      have hml : m < l.length := by omega
      obtain ⟨a, ha⟩ : ∃ a, a = l.getD k 0 := ⟨_, rfl⟩
      obtain ⟨b, hb⟩ : ∃ b, b = l.getD m 0 := ⟨_, rfl⟩
      have c0 := own_cell hr (j := k) (u := .int .i64 a) (by
        show (List.map _ _)[k]? = _
        rw [List.getElem?_map, rv_get l k k (by omega), if_neg (by omega), ha]
        rfl)
      have c1 := own_cell hr (j := m) (u := .int .i64 b) (by
        show (List.map _ _)[m]? = _
        rw [List.getElem?_map, rv_get l k m hml, if_neg (by omega), hb]
        rfl)
      have f0 := row_frozen hr k
      have f1 := row_frozen hr m
      have hst := rv_step l k (by omega)
      rw [← hm, ← ha, ← hb] at hst
      have HH := Lib.hid (And.intro hr (And.intro hg (And.intro hst (And.intro hmi hm))))
      have hlen : l.length = m + k + 1 := by omega
      clear hr hg hst hmi hm ha hb
      go_wp2_with fail
      go_region
      have hrow : ((wr.setCell ⟨g, k, none⟩ (.int .i64 b)).setCell ⟨g, m, none⟩ (.int .i64 a)).drew.ownsRow B 3 1 (.slice (some ⟨g, 0, none⟩) l.length c) l.length (ints .i64 (rv l (k + 1))) := by
        rw [HH.out.2.2.1, ints_set, ints_set]
        exact row_set (row_set HH.out.1 k (.int .i64 b)) m (.int .i64 a)
      have hgr : w.grownBy ((wr.setCell ⟨g, k, none⟩ (.int .i64 b)).setCell ⟨g, m, none⟩ (.int .i64 a)).drew (some g) := grown_trans HH.out.2.1 (grown_trans (grown_setCell wr g k _) (grown_trans (grown_setCell _ g m _) (grown_drew _ _)))
      generalize ((wr.setCell ⟨g, k, none⟩ (.int .i64 b)).setCell ⟨g, m, none⟩ (.int .i64 a)).drew = wN at hrow hgr ⊢
      have HN := Lib.hid (And.intro hrow hgr)
      clear hrow hgr c0 c1 f0 f1
      go_wp2_with fail
      go_roundw
      case rel => exact ⟨k + 1, by omega, by go_num, by congr 1; have := HH.out.2.2.2.1; omega, HN.out.1, HN.out.2⟩
      case measure => simp [intOf]; omega
    · have e := rv_end l k (by omega)
      rw [e] at hr
      have HR := Lib.hid (And.intro hr hg)
      clear hr hg e
      have hlt' : decide ((k : Int) < (l.length : Int) - 1 - k) = false := by simp; omega
      go_wp2_with fail
      go_end0
      exact ⟨⟨_, rfl⟩, HR.out⟩
end Go.Proofs.YtpimcghmpbbckaaDoor


namespace Go.Proofs.YtpimcghmpbbckaaDoor.Gr
set_option linter.unusedVariables false
set_option linter.unusedSimpArgs false
set_option maxRecDepth 100000
open Bs
theorem behL_snoc {S : Type} (em : S) (un : S → Nat → S → S) (es : List Ed) : ∀ (l : List Nat) (n : Nat) (B : List S), behL em un es (l ++ [n]) B = (behL em un es l B).set n (beh1 em un es (behL em un es l B) n)
  | [], n, B => rfl
  | k :: l, n, B => by
    rw [List.cons_append]
    unfold behL
    exact behL_snoc em un es l n _
/-- when the first k from the end are done -/
def bk (N : Nat) (es : List Ed) (k : Nat) : List (List Nat) := behL [] un es ((take N es).reverse.take k) (List.replicate N [])
theorem bk_zero (N : Nat) (es : List Ed) : bk N es 0 = List.replicate N [] := by unfold bk; rw [List.take_zero]; rfl
theorem bk_all {N : Nat} {es : List Ed} (hl : (take N es).length = N) : bk N es N = behW N es := by
  unfold bk behW
  rw [List.take_of_length_le (by rw [List.length_reverse, hl]; exact Nat.le_refl _)]
theorem bk_length (N : Nat) (es : List Ed) (k : Nat) : (bk N es k).length = N := by unfold bk; rw [behL_length]; simp
theorem bk_gs {N : Nat} {es : List Ed} (hes : ∀ e ∈ es, e.2 < N) (k : Nat) : ∀ s ∈ bk N es k, Gs N s := behL_gs hes _ _ fun s hs => by
  rw [(List.mem_replicate.1 hs).2]
  exact Gs.nil N
/-- the set of one node, when j of those it leads to are in -/
def bs (N : Nat) (es : List Ed) (k n j : Nat) : List Nat := ((next es n).take j).foldl (fun s m => un s m ((bk N es k).getD m [])) []
theorem bs_zero (N : Nat) (es : List Ed) (k n : Nat) : bs N es k n 0 = [] := by unfold bs; rw [List.take_zero]; rfl
theorem bs_step {N : Nat} {es : List Ed} {k n j m : Nat} (hj : (next es n)[j]? = some m) : bs N es k n (j + 1) = op for_ (put (bs N es k n j) m) ((bk N es k).getD m []) := by
  unfold bs
  rw [take_snoc hj, List.foldl_append]
  rfl
theorem bk_step {N : Nat} {es : List Ed} {k n : Nat} (hk : (take N es).reverse[k]? = some n) : bk N es (k + 1) = (bk N es k).set n (bs N es k n (next es n).length) := by
  have h := take_snoc hk
  unfold bk at *
  rw [h, behL_snoc]
  unfold beh1 bs
  rw [List.take_length]
  rfl
theorem bs_gs {N : Nat} {es : List Ed} (hes : ∀ e ∈ es, e.2 < N) (k n : Nat) : ∀ j, Gs N (bs N es k n j)
  | 0 => by rw [bs_zero]; exact Gs.nil N
  | j + 1 => by
    by_cases hj : j < (next es n).length
    · rw [bs_step (List.getElem?_eq_getElem hj)]
      refine ((bs_gs hes k n j).put (hes _ (mem_next.1 (List.getElem_mem hj)))).or ?_
      by_cases hm : (next es n)[j] < (bk N es k).length
      · rw [List.getD_eq_getElem?_getD, List.getElem?_eq_getElem hm, Option.getD_some]
        exact bk_gs hes k _ (List.getElem_mem hm)
      · rw [List.getD_eq_getElem?_getD, List.getElem?_eq_none (by omega), Option.getD_none]
        exact Gs.nil N
    · have := bs_gs hes k n j
      unfold bs at *
      rw [List.take_of_length_le (by omega)] at this ⊢
      exact this
end Go.Proofs.YtpimcghmpbbckaaDoor.Gr
namespace Go.Proofs.YtpimcghmpbbckaaDoor
open Go.RowKit

theorem info_swords : (Tryd.prog.info? 80).map (fun i => (i.zero, i.size, i.bytes)) = some (some (.slice none 0 0), 1, 24) := by kernel_rfl
/-- a slice of sets, as words -/
def SlW (w : World) (v : Value) (L : List (List Nat)) : Prop := ∃ os, SlV w 1 v L.length os ∧ ∀ (i : Nat) (u : Value) (s : List Nat), os[i]? = some u → L[i]? = some s → SlU w u s
theorem SlW.below {w w' : World} {v : Value} {L : List (List Nat)} (h : SlW w v L) (hb : Below w.heap.size w w') : SlW w' v L := by
  obtain ⟨os, h1, h2⟩ := h
  exact ⟨os, h1.below hb, fun i u s hu hs => (h2 i u s hu hs).below hb⟩
def FSU (B : Nat) (s : List Nat) : Fact (fun w w' => Below w.heap.size w w') := ⟨fun v w => SlU w v s ∧ New B v, fun _ _ _ h k => ⟨h.1.below k, h.2⟩⟩
theorem own_slV {w : World} {B n : Nat} {e : TypeId} {v : Value} {xs : List Value} (h : w.ownsRow B e 1 v n xs) : SlV w 1 v n xs := by
  obtain ⟨A, c, rfl, h1, h2⟩ := own_slice h
  by_cases hn : n = 0
  · subst hn
    have : xs = [] := List.length_eq_zero_iff.1 (by have := h.1; omega)
    subst this
    exact ⟨A, c, rfl, h1, h2, rfl, 0, 0, fun e => absurd rfl e, fun j u hu => by simp at hu⟩
  · obtain ⟨g, c', e, -, -, -, h5⟩ := own_addr h (by omega)
    injection e with e1 e2 e3
    subst e1 e3
    exact ⟨_, c, rfl, h1, h2, by have := h.1; omega, g, 0, fun _ => ⟨rfl, h5⟩, fun j u hu => by rw [Nat.zero_add]; exact own_cell h hu⟩

theorem reverse_row (w : World) (B c : Nat) (A : Option Addr) (l : List Int) (h : w.ownsRow B 3 1 (.slice A l.length c) l.length (ints .i64 l)) (hl : l.length ≤ 1099511627776) :
    Calls Tryd.prog 58 #[.slice A l.length c] w fun e w' => (∃ v, e = .returned v) ∧ w'.ownsRow B 3 1 (.slice A l.length c) l.length (ints .i64 l.reverse) ∧ w.grownBy w' (Value.slice A l.length c).ownBlock := by
  rcases h.2 with ⟨h1, h2⟩ | ⟨g, cap, cur, h1, h2, h3, h4, h5, h6, h7⟩
  · injection h1 with e1 e2 e3
    subst e1 e3
    have hl0 : l = [] := List.length_eq_zero_iff.1 e2
    subst hl0
    clear e2
    go_enter Tryd.func58, Tryd.ntmps58
    go_wp2_with fail
    go_loopw [2, 3] (fun i j wr => i = .int .i64 0 ∧ j = .int .i64 (-1) ∧ w.grownBy wr none) (fun _ _ _ => 0)
    case atStart => exact ⟨rfl, rfl, World.grownBy.refl w _⟩
    case round =>
      obtain ⟨rfl, rfl, hg⟩ := hrel
      go_wp2_with fail
      go_end0
      exact ⟨⟨_, rfl⟩, World.ownsRow_nil _ _ _ _, hg⟩
  · injection h1 with e1 e2 e3
    subst e1
    exact reverse_any w B g c l h hl

theorem reverse_nat (w : World) (B c : Nat) (A : Option Addr) (l : List Nat) (h : w.ownsRow B 3 1 (.slice A l.length c) l.length (ilist l)) (hl : l.length ≤ 1099511627776) :
    Calls Tryd.prog 58 #[.slice A l.length c] w fun e w' => (∃ v, e = .returned v) ∧ w'.ownsRow B 3 1 (.slice A l.length c) l.length (ilist l.reverse) ∧ w.grownBy w' (Value.slice A l.length c).ownBlock := by
  have := reverse_row w B c A (l.map fun (x : Nat) => (x : Int)) (by rw [List.length_map]; exact h) (by rw [List.length_map]; exact hl)
  rw [List.length_map, ← List.map_reverse] at this
  exact this

/-- one row, and what each one leads to -/
def nxR (r : Rw) (vs : List Value) (L : List (List Nat)) : List Rw := r :: List.zipWith irw vs L
theorem nxR_i (r : Rw) (vs : List Value) (L : List (List Nat)) (i : Nat) (v : Value) (l : List Nat) : (nxR r vs L).set (i + 1) (irw v l) = nxR r (vs.set i v) (L.set i l) := by
  unfold nxR
  rw [List.set_cons_succ, zip_set]
theorem nxR_get (r : Rw) (vs : List Value) (L : List (List Nat)) (i : Nat) (v : Value) (l : List Nat) (hv : vs[i]? = some v) (hl : L[i]? = some l) : (nxR r vs L)[i + 1]? = some (irw v l) := by
  unfold nxR
  rw [List.getElem?_cons_succ, List.getElem?_zipWith, hv, hl]
theorem nl_nil (N : Nat) : Gr.nl N [] = List.replicate N [] := by
  apply List.ext_getElem
  · simp [Gr.nl]
  · intro i h h'; simp [Gr.nl, Gr.next]
theorem nx_start {B r : Nat} {w2 : World} {N : Nat} (r0 : Rw) (h1 : r0.at_ B w2) (hne : r0.v.ownBlock ≠ some r) (h2 : Blk w2 r 32 (List.replicate N (.slice none 0 0))) (hB : B ≤ w2.heap.size) (lo : B ≤ r) :
    Own B w2 r 32 (List.replicate N (.slice none 0 0)) (nxR r0 (List.replicate N (.slice none 0 0)) (Gr.nl N [])) := by
  have hz : List.zipWith irw (List.replicate N (.slice none 0 0)) (List.replicate N []) = List.replicate N (irw (.slice none 0 0) []) := by simp
  unfold nxR
  rw [nl_nil, hz]
  refine ⟨h2, fun s hs => ?_, fun i j s t hi hj hij => ?_, fun s hs => ?_, hB, lo⟩
  · rcases List.mem_cons.1 hs with rfl | hs
    · exact h1
    · rw [(List.mem_replicate.1 hs).2]
      exact World.ownsRow_nil _ _ _ _
  · intro k hk hk'
    cases i with
    | zero =>
      cases j with
      | zero => exact hij rfl
      | succ j =>
        rw [List.getElem?_cons_succ, List.getElem?_replicate] at hj
        split at hj
        · injection hj with hj; subst hj; simp [irw, Value.ownBlock] at hk'
        · cases hj
    | succ i =>
      rw [List.getElem?_cons_succ, List.getElem?_replicate] at hi
      split at hi
      · injection hi with hi; subst hi; simp [irw, Value.ownBlock] at hk
      · cases hi
  · rcases List.mem_cons.1 hs with rfl | hs
    · exact hne
    · rw [(List.mem_replicate.1 hs).2]
      simp [irw, Value.ownBlock]

set_option maxHeartbeats 4000000 in
theorem behind_yes (N : Nat) (es : List Gr.Ed) (w : World) (A : Option Addr) (c : Nat) (hN : N ≤ 200) (hes : ∀ e ∈ es, e.1 < N ∧ e.2 < N) (hl : (Gr.take N es).length = N) (hA : SlV w 2 (.slice A es.length c) es.length (edcs es)) (hle : es.length ≤ 1099511627776)
    (hs : ∀ w', Below w.heap.size w w' → Calls Tryd.prog 25 #[.agg #[.int .i64 (N : Int), .slice A es.length c]] w' fun e w'' => ∃ v, e = .returned (.tuple #[v, .int .i64 0]) ∧ w''.ownsRow w'.heap.size 3 1 v N (ilist (Gr.take N es)) ∧ Below w'.heap.size w' w'') :
    Calls Tryd.prog 51 #[.agg #[.int .i64 (N : Int), .slice A es.length c]] w fun e w' => ∃ v, e = .returned (.tuple #[v, .int .i64 0]) ∧ SlW w' v (Gr.behW N es) ∧ Below w.heap.size w w' := by
  have HES := Lib.hid hes
  have HL := Lib.hid hl
  have x0 := Blk.new w 24 [.int .i64 (N : Int), .slice A es.length c]
  have hb0 : Below w.heap.size w (w.alloc (.cells #[.int .i64 (N : Int), .slice A es.length c] 24)) := below_alloc (Below.refl _ _) _
  have hz0 : (w.alloc (.cells #[.int .i64 (N : Int), .slice A es.length c] 24)).heap.size = w.heap.size + 1 := by simp
  have HZ0 := Lib.hid hz0
  clear hes hl hz0
  have n47' : 24 * N ≤ 281474976710656 := by omega
  have n63 : N ≤ 9223372036854775807 := by omega
  go_enter Tryd.func51, Tryd.ntmps51
  go_upto_region 1 with (fail)
  have HZ := Lib.hid HZ0.out
  clear HZ0
  generalize (w.alloc (.cells #[.int .i64 (N : Int), .slice A es.length c] 24)) = W0 at x0 hb0 HZ ⊢
  have d0 : W0.cell? ⟨w.heap.size, 0, none⟩ = some (.int .i64 (N : Int)) := (x0.cell 0).trans rfl
  have d1 : W0.cell? ⟨w.heap.size, 1, none⟩ = some (.slice A es.length c) := (x0.cell 1).trans rfl
  go_wp2_with fail
  refine (hs W0 hb0).mono ?_
  rintro e w1 ⟨lv, rfl, ho1, hb1⟩
  obtain ⟨VB, cl, rfl, -, -⟩ := own_slice ho1
  have x1 := x0.below hb1
  have hb01 := below_next hb1 hb0
  have c0 : w1.cell? ⟨w.heap.size, 0, none⟩ = some (.int .i64 (N : Int)) := (x1.cell 0).trans rfl
  have c1 : w1.cell? ⟨w.heap.size, 1, none⟩ = some (.slice A es.length c) := (x1.cell 1).trans rfl
  clear d0 d1 x0 hs
  go_wp2_with (first | (at_make; refine wp_make _ 89 80 (.slice none 0 0) 24 N Tryd.underlying89 info_swords rfl (by omega) (by omega) n47' n63 rfl rfl rfl rfl ?_; intro w2 hown2 hb2 hs2; have x2 := x1.below hb2; have c20 : w2.cell? ⟨w.heap.size, 0, none⟩ = some (.int .i64 (N : Int)) := (x2.cell 0).trans rfl; have c21 : w2.cell? ⟨w.heap.size, 1, none⟩ = some (.slice A es.length c) := (x2.cell 1).trans rfl) | fail)
  have hrev : Calls Tryd.prog 58 #[.slice VB N cl] w2 fun e w' => (∃ v, e = .returned v) ∧ w'.ownsRow W0.heap.size 3 1 (.slice VB N cl) N (ilist (Gr.take N es).reverse) ∧ w2.grownBy w' (Value.slice VB N cl).ownBlock := by
    have h1 := own_keeps ho1 (Keeps.of_below hb2 (fun _ => False)) (fun _ _ => id)
    have hrl : (Gr.take N es).length = N := HL.out
    have h2 := reverse_nat w2 W0.heap.size cl VB (Gr.take N es) (by rw [hrl]; exact h1) (by rw [hrl]; omega)
    rw [hrl] at h2
    exact h2
  refine hrev.mono ?_
  rintro e w3 ⟨⟨rv, rfl⟩, ho3, hg3⟩
  have hlge : ∀ k, (Value.slice VB N cl).ownBlock = some k → w.heap.size + 1 ≤ k := fun k hk => by have := own_ge ho1 k hk; have := HZ.out; omega
  have hllt : ∀ k, (Value.slice VB N cl).ownBlock = some k → k < w1.heap.size := fun k hk => (ho1.lt k hk).2
  have x3 := x2.keeps (Keeps.of_grown hg3) (fun e => by have := hlge _ e.symm; omega)
  have c30 : w3.cell? ⟨w.heap.size, 0, none⟩ = some (.int .i64 (N : Int)) := (x3.cell 0).trans rfl
  have hown3 := own_keeps hown2 (Keeps.of_grown hg3) (fun k hk e => by have h1 := hllt k e.symm; have h2 : w1.heap.size = k := (by injection hk); omega)
  have hb03 : Below w.heap.size w w3 := (below_next hb2 hb01).trans ((Keeps.of_grown hg3).below (below_next hb2 hb01).size (fun k hk => by have := hlge k hk.symm; omega))
  have hsW0 := hb1.size
  have hs13 : w1.heap.size < w3.heap.size := by have := (Keeps.of_grown hg3).size; omega
  clear hown2 hg3 hrev ho1 hb01 hb2 hs2 x2 x1 c0 c1 c20 c21 hb1
  go_wp2_with (first | (at_make; refine wp_make _ 26 32 (.slice none 0 0) 24 N Tryd.underlying26 info_sint rfl (by omega) (by omega) n47' n63 rfl rfl rfl rfl ?_; intro w4 hown4 hb4 hs4; have x4 := x3.below hb4; have c40 : w4.cell? ⟨w.heap.size, 0, none⟩ = some (.int .i64 (N : Int)) := (x4.cell 0).trans rfl; have c41 : w4.cell? ⟨w.heap.size, 1, none⟩ = some (.slice A es.length c) := (x4.cell 1).trans rfl) | fail)
  have hlr : w4.ownsRow W0.heap.size 3 1 (.slice VB N cl) N (ilist (Gr.take N es).reverse) := own_keeps ho3 (Keeps.of_below hb4 (fun _ => False)) (fun _ _ => id)
  have hor := own_keeps hown3 (Keeps.of_below hb4 (fun _ => False)) (fun _ _ => id)
  have hnb := row_whole hown4
  have hb04 := below_next hb4 hb03
  have hsQ : W0.heap.size = w.heap.size + 1 := HZ.out
  have hne0 : (Value.slice (some ⟨w1.heap.size, 0, none⟩) N N).ownBlock ≠ some w3.heap.size := fun e => by
    have h2 : w1.heap.size = w3.heap.size := (by injection e)
    omega
  have hO : Own (w.heap.size + 1) w4 w3.heap.size 32 (List.replicate N (.slice none 0 0)) (nxR ⟨80, 1, .slice (some ⟨w1.heap.size, 0, none⟩) N N, N, List.replicate N (.slice none 0 0)⟩ (List.replicate N (.slice none 0 0)) (Gr.nl N [])) :=
    nx_start _ (own_base hor (by omega)) hne0 hnb (by have := hb04.size; omega) (by omega)
  have hlr' : w4.ownsRow (w.heap.size + 1) 3 1 (.slice VB N cl) N (ilist (Gr.take N es).reverse) := own_base hlr (by omega)
  have hsz : w.heap.size + 1 ≤ w1.heap.size ∧ w1.heap.size < w3.heap.size ∧ w3.heap.size < w4.heap.size := ⟨by omega, hs13, by omega⟩
  clear hlr hor hnb hne0 hown3 hown4 ho3 hb4 hs4 hb03 hsQ hsW0 hs13 x3 x4 c30 HZ hb0
  obtain ⟨gO, hgO⟩ : ∃ g, g = w1.heap.size := ⟨_, rfl⟩
  obtain ⟨gN, hgN⟩ : ∃ g, g = w3.heap.size := ⟨_, rfl⟩
  obtain ⟨Q, hQ⟩ : ∃ g, g = w.heap.size := ⟨_, rfl⟩
  have HQ := Lib.hid hQ
  simp only [← hgO, ← hgN, ← hQ] at hb04 hO hlr' hsz hlge hllt c40 c41 ⊢
  clear hgO hgN hQ
  obtain ⟨r0, hr0⟩ : ∃ r : Rw, r = ⟨80, 1, .slice (some ⟨gO, 0, none⟩) N N, N, List.replicate N (.slice none 0 0)⟩ := ⟨_, rfl⟩
  rw [← hr0] at hO
  have hOT := OwnTo.start hO
  have hkT : ∀ w', Keeps (Tw gN (nxR r0 (List.replicate N (.slice none 0 0)) (Gr.nl N []))) w4 w' → Below Q w w' := fun w' h => hb04.trans ((hO.below h).mono (by omega))
  have hTb : ∀ k, Tw gN (nxR r0 (List.replicate N (.slice none 0 0)) (Gr.nl N [])) k → gO ≤ k := fun k hk => by
    rcases hk with rfl | ⟨s, hs, hk⟩
    · exact Nat.le_of_lt hsz.2.1
    · unfold nxR at hs
      rw [nl_nil] at hs
      rcases List.mem_cons.1 hs with rfl | hs
      · rw [hr0] at hk
        have : gO = k := by injection hk
        omega
      · have hz : List.zipWith irw (List.replicate N (.slice none 0 0)) (List.replicate N []) = List.replicate N (irw (.slice none 0 0) []) := by simp
        rw [hz] at hs
        rw [(List.mem_replicate.1 hs).2] at hk
        simp [irw, Value.ownBlock] at hk
  obtain ⟨T0, hT0⟩ : ∃ T, T = Tw gN (nxR r0 (List.replicate N (.slice none 0 0)) (Gr.nl N [])) := ⟨_, rfl⟩
  rw [← hT0] at hOT hkT hTb
  have HR0 := Lib.hid hr0
  have HKT := Lib.hid hkT
  have HLR := Lib.hid (And.intro hlr' (And.intro hlge hllt))
  clear hO hT0 hr0 hkT hlr' hlge hllt hb04 c40
  go_loopw [34] (fun i wr => ∃ (k : Nat) (vs : List Value), k ≤ es.length ∧ i = .int .i64 (k : Int) ∧ vs.length = N ∧ OwnTo (Q + 1) w4 T0 wr gN 32 vs (nxR r0 vs (Gr.nl N (es.take k)))) (fun i _ => es.length - (intOf i).toNat)
  case atStart => exact ⟨0, _, Nat.zero_le _, rfl, by simp, hOT⟩
  case round =>
    obtain ⟨k, vs, hk, rfl, hvl, hOk⟩ := hrel
    have hbw := HKT.out _ hOk.kp
    by_cases hlt : k < es.length
    · obtain ⟨⟨a, b⟩, hx⟩ : ∃ x, es[k]? = some x := ⟨_, List.getElem?_eq_getElem hlt⟩
      obtain ⟨ha, hb⟩ := HES.out _ (List.mem_of_getElem? hx)
      have gx := flat_get edc 2 (fun _ => rfl) es k
      have g1 := gx 0 _ hx (by omega)
      have g2 := gx 1 _ hx (by omega)
      rw [HQ.out] at hbw
      obtain ⟨A', c', he, -, -, -, hcc⟩ := hA.below hbw
      injection he with e1 e2 e3
      subst e1 e3
      obtain ⟨g, o, rfl, hgl, hcell⟩ := hcc.at_ (fun e => by rw [show List.flatMap edc es = edcs es from rfl, e] at g1; simp [edc] at g1)
      have d0 : wr.cell? ⟨g, o + k * 2, none⟩ = some (.int .i64 (a : Int)) := (hcell _ _ g1).trans rfl
      have d1 : wr.cell? ⟨g, o + k * 2 + 1, none⟩ = some (.int .i64 (b : Int)) := by rw [Nat.add_assoc]; exact hcell _ _ g2
      have htk := Gr.take_snoc hx
      have hn1 := Gr.nl_one N (es.take k) a b
      rw [← htk] at hn1
      have hTA := hOk.later (below_alloc (Below.refl _ _) (.cells #[.int .i64 (a : Int), .int .i64 (b : Int)] 34))
      have hE := Blk.new wr 34 [.int .i64 (a : Int), .int .i64 (b : Int)]
      obtain ⟨v, hv⟩ : ∃ v, vs[a]? = some v := ⟨_, List.getElem?_eq_getElem (by omega)⟩
      have hnx : (Gr.nl N (es.take k))[a]? = some (Gr.next (es.take k) a) := Gr.map_get _ _ _ ha
      have hnl : (Gr.next (es.take k) a).length ≤ 1099511627776 := by
        have := List.length_filter_le (fun e : Gr.Ed => e.1 == a) (es.take k)
        rw [List.length_take] at this
        unfold Gr.next
        rw [List.length_map]
        omega
      obtain ⟨nx, hnxq⟩ : ∃ nx, nx = Gr.next (es.take k) a := ⟨_, rfl⟩
      rw [← hnxq] at hnx hn1 hnl
      clear hnxq
      have hvne : v.ownBlock ≠ some wr.heap.size := fun e => by
        have := ((hOk.own.row (a + 1) (nxR_get _ _ _ a v nx hv hnx)).lt _ e).2
        omega
      have HX := Lib.hid (And.intro hn1 (And.intro hv hnx))
      clear hv hnx
      have HA := Lib.hid hA
      clear hOk htk hn1 hx gx g1 g2 hcc hcell e2 hA hbw
      go_upto_region 10 with (fail)
      have hb5 : Below wr.heap.size wr (wr.alloc (.cells #[.int .i64 (a : Int), .int .i64 (b : Int)] 34)) := below_alloc (Below.refl _ _) _
      generalize (wr.alloc (.cells #[.int .i64 (a : Int), .int .i64 (b : Int)] 34)) = w6 at hTA hE hb5 ⊢
      clear d0 d1 hb5
      have hget := nxR_get r0 vs (Gr.nl N (es.take k)) a v nx HX.out.2.1 HX.out.2.2
      have rv : w6.ownsRow (Q + 1) 3 1 v nx.length (ilist nx) := hTA.own.row (a + 1) hget
      have hng : v.ownBlock ≠ some gN := hTA.own.ng _ (List.mem_of_getElem? hget)
      obtain ⟨VB2, cb, rfl, -, -⟩ := own_slice rv
      have hR : ∀ w', Below w6.heap.size w6 w' → w'.ownsRow (Q + 1) 3 1 (.slice VB2 nx.length cb) nx.length (ilist nx) ∧ Q + 1 ≤ w'.heap.size := fun w' hb => ⟨(hTA.own.later hb).row (a + 1) hget, (hTA.own.later hb).base⟩
      have keepS : ∀ w', Keeps (fun k => (Value.slice VB2 nx.length cb).ownBlock = some k) w6 w' → Keeps (fun k => (Value.slice VB2 nx.length cb).ownBlock = some k) w6 w' ∧ w'.cell? ⟨gN, a, none⟩ = some (.slice VB2 nx.length cb) ∧ w'.cell? ⟨wr.heap.size, 0, none⟩ = some (.int .i64 (a : Int)) ∧ w'.cell? ⟨wr.heap.size, 1, none⟩ = some (.int .i64 (b : Int)) := fun w' k =>
        ⟨k, ((hTA.own.blk.keeps k hng).cell a).trans HX.out.2.1, ((hE.keeps k hvne).cell 0).trans rfl, ((hE.keeps k hvne).cell 1).trans rfl⟩
      have hS1 := keepS _ ((Keeps.refl _ w6).drewN 1)
      have hn63 : nx.length + 1 ≤ maxLen := by unfold maxLen; omega
      have hn47 : (nx.length + 1) * 8 ≤ 140737488355328 := by omega
      have HT := Lib.hid (And.intro hTA hget)
      clear hTA rv hE hget hng hvne
      refine wp_walk_mt 13 (fun i => ([11] : List Nat).contains i) (fun i => ([0,1,2,12] : List Nat).contains i) [11] (by intro m h; simpa using h) (by kernel_rfl) (by kernel_rfl) (by kernel_rfl) (fun w w' => Below w.heap.size w w')  (fun w' => Keeps (fun k => (Value.slice VB2 nx.length cb).ownBlock = some k) w6 w' ∧ w'.cell? ⟨gN, a, none⟩ = some (.slice VB2 nx.length cb) ∧ w'.cell? ⟨wr.heap.size, 0, none⟩ = some (.int .i64 (a : Int)) ∧ w'.cell? ⟨wr.heap.size, 1, none⟩ = some (.int .i64 (b : Int))) (fun w' => Below w6.heap.size w6 w') hS1 (below_drew (Below.refl _ _)) (fun _ _ h h' => below_next h' h) ?_
      simp only [List.length_cons, List.length_nil, Nat.reduceAdd, Nat.reduceSub, List.take_succ_cons, List.take_zero, List.drop_succ_cons, List.drop_zero]
      repeat (first | (refine nsettle_skip (by rfl) (fun _ => by rfl) ?_; (simp only [Act.put, List.setIfInBounds_toArray, List.set_cons_zero, List.set_cons_succ])) | (refine' nsettle_run (by rfl) (fun _ _ => Below.refl _ _) (fun _ => by rfl) ?_ ?_; rotate_left; (focus (intro ρ w hS hF hP; (try dsimp only at hS); go_split_ands; go_simp; try with_reducible rfl)); (simp only [Act.put, List.setIfInBounds_toArray, List.set_cons_zero, List.set_cons_succ])))
      (refine nsettle_known (FSl 1 1 [.int .i64 (b : Int)]) (by rfl) (by rfl) (by rfl) (fun _ => by rfl)  ?_ ?_; (focus (intro ρ w hS hF hP K hK; (simp only [Act.put, List.setIfInBounds_toArray, List.set_cons_zero, List.set_cons_succ] at hK); go_simp; exact hK _ _ (SlV.lit w [.int .i64 (b : Int)] 3 1 1 rfl (by decide)) (keepS _ (hS.1.alloc _)) (below_alloc (Below.refl _ _) _))); (simp only [Act.put, List.setIfInBounds_toArray, List.set_cons_zero, List.set_cons_succ]))
      (refine nsettle_mark (FPush w6 (Q + 1) 3 1 (.slice VB2 nx.length cb) (nx.length + 1) (ilist nx ++ [.int .i64 (b : Int)])) (by rfl) (by rfl) (by rfl) (fun _ => by rfl) ?_ ?_; (focus (intro ρ w hS hF hP K hK; refine oper_append (.tmp 45) (.tmp 48) (Q + 1) _ _ _ _ _ Tryd.underlying32 info_int rfl (by decide) (hR w (hP (by rfl))).1 (hF.1 (by rfl)) (by simp [Value.oneCell']) hn63 hn47 (hR w (hP (by rfl))).2 rfl rfl rfl ?_; intro v' w' hown hg hv _; exact hK v' w' ⟨w, hP (by rfl), hg, hown, hv.imp id fun e => ⟨_, Nat.le_refl _, e⟩⟩ (keepS _ (hS.1.trans ((Keeps.of_grown hg).mono fun i hi => hi.symm))))); (simp only [Act.put, List.setIfInBounds_toArray, List.set_cons_zero, List.set_cons_succ]))
      repeat (first | (refine nsettle_skip (by rfl) (fun _ => by rfl) ?_; (simp only [Act.put, List.setIfInBounds_toArray, List.set_cons_zero, List.set_cons_succ])) | (refine' nsettle_run (by rfl) (fun _ _ => Below.refl _ _) (fun _ => by rfl) ?_ ?_; rotate_left; (focus (intro ρ w hS hF hP; (try dsimp only at hS); go_split_ands; go_simp; try with_reducible rfl)); (simp only [Act.put, List.setIfInBounds_toArray, List.set_cons_zero, List.set_cons_succ])))
      refine nsettle_nil ?_
      intro ρ w7 hS hF
      obtain ⟨wa, ha1, ha2, ha3, ha4⟩ := hF 49 (FPush w6 (Q + 1) 3 1 (.slice VB2 nx.length cb) (nx.length + 1) (ilist nx ++ [.int .i64 (b : Int)])) (by repeat (first | exact List.mem_cons_self | apply List.mem_cons_of_mem))
      clear hF hS hS1 keepS hR
      dsimp only
      generalize ρ 48 = v44
      generalize ρ 49 = v4 at ha3 ha4 ⊢
      have hx4 : wa.grownBy w7 (irw (.slice VB2 nx.length cb) nx).v.ownBlock := ha2
      have ho4 : w7.ownsRow (Q + 1) 3 1 v4 (nx ++ [b]).length (ilist (nx ++ [b])) := by simpa [ilist, ints] using ha3
      have hB4 := ((HT.out.1.own.later ha1).put (i := a + 1) HT.out.2 ho4 hx4 ha4).1
      have hend : ∀ w8, Blk w8 gN 32 (vs.set a v4) → w7.grownBy w8 (some gN) → OwnTo (Q + 1) w4 T0 w8 gN 32 (vs.set a v4) (nxR r0 (vs.set a v4) (Gr.nl N (es.take (k + 1)))) := fun w8 b8 g8 => by
        have := (HT.out.1.later ha1).step ((HT.out.1.own.later ha1).put_to (i := a + 1) HT.out.2 ho4 hx4 ha4 b8 g8)
        have e := nxR_i r0 vs (Gr.nl N (es.take k)) a v4 (nx ++ [b])
        rw [← HX.out.1] at e
        exact e ▸ this
      obtain ⟨V4, c4, rfl, -, -⟩ := own_slice ha3
      clear ha1 ha2 ha3 ha4 hx4 ho4
      have hva : a < vs.length := by omega
      refine wpl_set_blk hB4 a _ (by kernel_rfl) hva rfl rfl rfl rfl rfl rfl ?_
      intro w8 hB8 hg8
      have T8 := hend w8 hB8 hg8
      have HT8 := Lib.hid T8
      clear hB4 hB8 hg8 hend T8 HT
      go_wp2_with fail
      go_roundw
      case rel => exact ⟨k + 1, _, by omega, by go_num, by simpa using hvl, HT8.out⟩
      case measure => simp [intOf]; omega
    · obtain rfl : k = es.length := by omega
      rw [List.take_length] at hOk
      clear hA
      have hlr4 := HLR.out.1
      have hlrz : wr.ownsRow (Q + 1) 3 1 (.slice VB N cl) N (ilist (Gr.take N es).reverse) := own_keeps hlr4 hOk.kp (fun k hk e => by have := hTb k e; have := HLR.out.2.2 k hk; omega)
      have r0z : wr.ownsRow (Q + 1) 80 1 (.slice (some ⟨gO, 0, none⟩) N N) N (List.replicate N (.slice none 0 0)) := by
        have := hOk.own.row 0 rfl
        rw [HR0.out] at this
        exact this
      obtain ⟨wz, rfl⟩ : ∃ wz : World, wz = wr := ⟨_, rfl⟩
      have hgz : gO < wz.heap.size := (r0z.lt _ rfl).2
      have hk2 : ∀ w', Keeps (fun k => k = gO) wz w' → (∀ n, n < N → ∃ v, w'.cell? ⟨gN, n, none⟩ = some v ∧ w'.ownsRow (Q + 1) 3 1 v (Gr.next es n).length (ilist (Gr.next es n))) ∧ w'.ownsRow (Q + 1) 3 1 (.slice VB N cl) N (ilist (Gr.take N es).reverse) ∧ Below Q w w' := fun w' hk => by
        refine ⟨fun n hn => ?_, own_keeps hlrz hk (fun k hk e => by have := HLR.out.2.2 k hk; omega), hbw.trans ((hk.below (B := Q) (by have := hbw.size; have := HQ.out; omega) (fun k hk => by omega)).mono (by have := HQ.out; omega))⟩
        obtain ⟨v, hv⟩ : ∃ v, vs[n]? = some v := ⟨_, List.getElem?_eq_getElem (by omega)⟩
        have hget := nxR_get r0 vs (Gr.nl N es) n v _ hv (Gr.map_get _ _ _ hn)
        refine ⟨v, ((hOk.own.blk.keeps hk (by omega)).cell n).trans hv, own_keeps (hOk.own.row (n + 1) hget) hk (fun k hk e => ?_)⟩
        refine hOk.own.ap (n + 1) 0 _ _ hget rfl (by omega) k hk ?_
        rw [HR0.out, e]
        rfl
      have HK2 := Lib.hid hk2
      clear hk2 hlr4 hlrz hOk hbw hOT c41 HKT HLR HR0 hTb hlt
      go_wp2_with fail
      go_loopw [54] (fun i wr => ∃ (k : Nat) (os : List Value), k ≤ N ∧ i = .int .i64 (k : Int) ∧ os.length = N ∧ wr.ownsRow (Q + 1) 80 1 (.slice (some ⟨gO, 0, none⟩) N N) N os ∧ (∀ (i : Nat) (u : Value) (s : List Nat), os[i]? = some u → (Gr.bk N es k)[i]? = some s → SlU wr u s ∧ FarU (fun k => k = gO) u s) ∧ Keeps (fun k => k = gO) wz wr) (fun i _ => N - (intOf i).toNat)
      case atStart => exact ⟨0, _, Nat.zero_le _, rfl, by simp, r0z, fun i u s hu hs => by
        rw [Gr.bk_zero] at hs
        have h1 := List.eq_of_mem_replicate (List.mem_of_getElem? hu)
        have h2 := List.eq_of_mem_replicate (List.mem_of_getElem? hs)
        subst h1 h2
        exact ⟨SlU.nil _, fun h => absurd rfl h⟩, Keeps.refl _ _⟩
      case round =>
        obtain ⟨k, os, hk, rfl, hol, hro, hos, hkz⟩ := hrel
        by_cases hlt : k < N
        · obtain ⟨hnx, hlr, -⟩ := HK2.out _ hkz
          obtain ⟨n, hn⟩ : ∃ n, (Gr.take N es).reverse[k]? = some n := ⟨_, List.getElem?_eq_getElem (by rw [List.length_reverse, HL.out]; exact hlt)⟩
          have hnN : n < N := (Gr.good_take N es).lt n (List.mem_reverse.1 (List.mem_of_getElem? hn))
          obtain ⟨gl, cl', e, -, -, -, -⟩ := own_addr hlr (by omega)
          injection e with e1 e2 e3
          subst e1 e3
          have c0 := own_cell hlr (j := k) (u := .int .i64 (n : Int)) (by unfold ilist ints; rw [List.map_map, List.getElem?_map, hn]; rfl)
          obtain ⟨v, hv, hrv⟩ := hnx n hnN
          obtain ⟨V, cv, rfl, -, -⟩ := own_slice hrv
          have HN := Lib.hid (And.intro hn (And.intro hrv (And.intro hro (And.intro hos hkz))))
          have hln : (Gr.next es n).length ≤ es.length := by unfold Gr.next; rw [List.length_map]; exact List.length_filter_le _ _
          have hgr : gO < wr.heap.size := Nat.lt_of_lt_of_le hgz hkz.size
          clear hn hrv hro hos hkz hnx hlr e2
          go_wp2_with fail
          obtain ⟨wy, rfl⟩ : ∃ wy : World, wy = wr := ⟨_, rfl⟩
          clear c0 hv
          go_loopw [12, 63] (fun u i wr => ∃ j : Nat, j ≤ (Gr.next es n).length ∧ i = .int .i64 (j : Int) ∧ SlU wr u (Gr.bs N es k n j) ∧ New wy.heap.size u ∧ Below wy.heap.size wy wr) (fun _ i _ => (Gr.next es n).length - (intOf i).toNat)
          case atStart => exact ⟨0, Nat.zero_le _, rfl, by rw [Gr.bs_zero]; exact SlU.nil _, New.nil _ _ _, Below.refl _ _⟩
          case round =>
            obtain ⟨j, hj, rfl, hu, hnw, hby⟩ := hrel
            obtain ⟨A8, c8, rfl⟩ := slU_form hu
            by_cases hjl : j < (Gr.next es n).length
            · obtain ⟨m, hm⟩ : ∃ m, (Gr.next es n)[j]? = some m := ⟨_, List.getElem?_eq_getElem hjl⟩
              have hmN : m < N := (HES.out _ (Gr.mem_next.1 (List.mem_of_getElem? hm))).2
              have hrv := own_keeps HN.out.2.1 (Keeps.of_below hby (fun _ => False)) (fun _ _ => id)
              obtain ⟨gv, cv', e, -, -, -, -⟩ := own_addr hrv (by omega)
              injection e with e1 e2 e3
              subst e1 e3
              have c0 := own_cell hrv (j := j) (u := .int .i64 (m : Int)) (by unfold ilist ints; rw [List.map_map, List.getElem?_map, hm]; rfl)
              obtain ⟨um, hum⟩ : ∃ u, os[m]? = some u := ⟨_, List.getElem?_eq_getElem (by omega)⟩
              obtain ⟨sm, hsm⟩ : ∃ s, (Gr.bk N es k)[m]? = some s := ⟨_, List.getElem?_eq_getElem (by rw [Gr.bk_length]; exact hmN)⟩
              have hsu := (HN.out.2.2.2.1 m um sm hum hsm).1.below hby
              have hro := own_keeps HN.out.2.2.1 (Keeps.of_below hby (fun _ => False)) (fun _ _ => id)
              have c2 := own_cell hro hum
              obtain ⟨Am, cm, rfl⟩ := slU_form hsu
              have hst := Gr.bs_step hm (N := N) (k := k)
              rw [List.getD_eq_getElem?_getD, hsm, Option.getD_some] at hst
              have hg1 := Gr.bs_gs (fun e he => (HES.out e he).2) k n j (N := N)
              have hgm := Gr.bk_gs (fun e he => (HES.out e he).2) k _ (List.mem_of_getElem? hsm)
              have HST := Lib.hid hst
              have HJ := Lib.hid (And.intro hm hby)
              obtain ⟨sj, hsj⟩ : ∃ s, s = Gr.bs N es k n j := ⟨_, rfl⟩
              rw [← hsj] at hu hg1 HST ⊢
              have hadd := fun w' (hb : Below wr.heap.size wr w') => put_new w' _ sj m (hu.below hb) (by omega) (Nat.le_trans hg1.length (by omega))
              have hl1 : (Bs.put sj m).length ≤ 17592186044416 := Nat.le_trans (hg1.put hmN).length (by omega)
              have hl2 : sm.length ≤ 17592186044416 := Nat.le_trans hgm.length (by omega)
              have hor := fun w' (v : Value) (hb : Below wr.heap.size wr w') (hv : SlU w' v (Bs.put sj m)) => sor_new w' v _ (Bs.put sj m) sm hv (hsu.below hb) hl1 hl2
              have keepS : ∀ w', Below wr.heap.size wr w' → Below wr.heap.size wr w' ∧ w'.cell? ⟨gO, m, none⟩ = some (.slice Am sm.length cm) := fun w' hb => ⟨hb, (hb.cell (p := ⟨gO, m, none⟩) (Nat.lt_of_lt_of_le hgr hby.size)).trans c2⟩
              have hS0 := keepS _ (below_drew (Below.refl _ _))
              have hby' := Lib.hid hby.size
              clear hm hum hsm hsu hro hst hg1 hgm hby hrv e2 hnw hsj hu
              go_upto_region 19 with (fail)
              refine wp_walk (by kernel_rfl) (by kernel_rfl) (fun w w' => Below w.heap.size w w') (fun w' => Below wr.heap.size wr w' ∧ w'.cell? ⟨gO, m, none⟩ = some (.slice Am sm.length cm)) hS0 ?_
              repeat (first | (refine settle_skip (fun _ => by rfl) ?_; (simp only [Act.put, List.setIfInBounds_toArray, List.set_cons_zero, List.set_cons_succ])) | (refine' settle_run (fun _ _ => Below.refl _ _) (fun _ => by rfl) ?_ ?_; rotate_left; (focus (intro ρ w hS hF; (try dsimp only at hS); go_split_ands; go_simp; try with_reducible rfl)); (simp only [Act.put, List.setIfInBounds_toArray, List.set_cons_zero, List.set_cons_succ])))
              (refine settle_known (FSU wy.heap.size (Bs.put sj m)) (by rfl) (fun _ => by rfl)  ?_ ?_; (focus (intro ρ w hS hF K hK; (simp only [Act.put, List.setIfInBounds_toArray, List.set_cons_zero, List.set_cons_succ] at hK); go_simp; (refine (hadd _ hS.1).mono ?_; rintro e w' ⟨u, rfl, ⟨h1, h2⟩, hb'⟩; exact hK _ _ ⟨h1, h2.mono (Nat.le_trans hby'.out hS.1.size)⟩ (keepS _ (below_next hb' hS.1)) hb'))); (simp only [Act.put, List.setIfInBounds_toArray, List.set_cons_zero, List.set_cons_succ]))
              repeat (first | (refine settle_skip (fun _ => by rfl) ?_; (simp only [Act.put, List.setIfInBounds_toArray, List.set_cons_zero, List.set_cons_succ])) | (refine' settle_run (fun _ _ => Below.refl _ _) (fun _ => by rfl) ?_ ?_; rotate_left; (focus (intro ρ w hS hF; (try dsimp only at hS); go_split_ands; go_simp; try with_reducible rfl)); (simp only [Act.put, List.setIfInBounds_toArray, List.set_cons_zero, List.set_cons_succ])))
              (refine settle_known (FSU wy.heap.size (Bs.op Bs.for_ (Bs.put sj m) sm)) (by rfl) (fun _ => by rfl)  ?_ ?_; (focus (intro ρ w hS hF K hK; (simp only [Act.put, List.setIfInBounds_toArray, List.set_cons_zero, List.set_cons_succ] at hK); go_simp; (refine (hor _ _ hS.1 (hF.1 (by rfl)).1).mono ?_; rintro e w' ⟨u, rfl, ⟨h1, h2⟩, hb'⟩; exact hK _ _ ⟨h1, h2.mono (Nat.le_trans hby'.out hS.1.size)⟩ (keepS _ (below_next hb' hS.1)) hb'))); (simp only [Act.put, List.setIfInBounds_toArray, List.set_cons_zero, List.set_cons_succ]))
              (refine settle_known (FSU wy.heap.size (Bs.op Bs.for_ (Bs.put sj m) sm)) (by rfl) (fun _ => by rfl)  ?_ ?_; (focus (intro ρ w hS hF K hK; (simp only [Act.put, List.setIfInBounds_toArray, List.set_cons_zero, List.set_cons_succ] at hK); go_simp; exact hK _ _ (hF.1 (by rfl)) hS (Below.refl _ _))); (simp only [Act.put, List.setIfInBounds_toArray, List.set_cons_zero, List.set_cons_succ]))
              refine settle_nil ?_
              intro ρ wE hS hF
              obtain ⟨hE1, hE2⟩ := hF 12 (FSU wy.heap.size (Bs.op Bs.for_ (Bs.put sj m) sm)) (by repeat (first | exact List.mem_cons_self | apply List.mem_cons_of_mem))
              dsimp only
              generalize ρ 12 = v12 at hE1 hE2 ⊢
              rw [← HST.out] at hE1
              have HE := Lib.hid (And.intro hE1 (And.intro hE2 (below_next hS.1 HJ.out.2)))
              clear hF hS hS0 keepS hor hadd hE1 hE2 c2
              generalize ρ 69 = v69
              generalize ρ 74 = v74
              go_wp2_with fail
              go_roundw
              case rel => exact ⟨j + 1, by omega, by go_num, HE.out⟩
              case measure => simp [intOf]; omega
            · obtain rfl : j = (Gr.next es n).length := by omega
              have hro := own_keeps HN.out.2.2.1 (Keeps.of_below hby (fun _ => False)) (fun _ _ => id)
              have hst := Gr.bk_step HN.out.1
              have hos := fun i u s hi hs => (HN.out.2.2.2.1 i u s hi hs).1.below hby
              have hfo := fun i u s hi hs => (HN.out.2.2.2.1 i u s hi hs).2
              have hkz : Keeps (fun k => k = gO) wz wr := HN.out.2.2.2.2.trans (Keeps.of_below hby _)
              obtain ⟨sj, hsj⟩ : ∃ s, s = Gr.bs N es k n (Gr.next es n).length := ⟨_, rfl⟩
              rw [← hsj] at hu hst hnw ⊢
              have HST := Lib.hid (And.intro hst hsj)
              obtain ⟨uo, huo⟩ : ∃ u, os[n]? = some u := ⟨_, List.getElem?_eq_getElem (by omega)⟩
              have c9 := own_cell hro huo
              clear hst hsj hby
              have f0 := row_frozen hro n
              have hr6 := row_set hro n (.slice A8 sj.length c8)
              have hg6 := grown_setCell wr gO n (.slice A8 sj.length c8)
              go_wp2_with fail
              generalize (wr.setCell ⟨gO, n, none⟩ (.slice A8 sj.length c8)) = w6 at hr6 hg6 ⊢
              have kk : Keeps (fun k => k = gO) wr w6 := (Keeps.of_grown hg6).mono fun i hi => by injection hi
              have hfn : FarU (fun k => k = gO) (.slice A8 sj.length c8) sj := FarU.new hnw fun k hk => by omega
              have hend : ∀ (i : Nat) (u : Value) (s : List Nat), (os.set n (.slice A8 sj.length c8))[i]? = some u → (Gr.bk N es (k + 1))[i]? = some s → SlU w6 u s ∧ FarU (fun k => k = gO) u s := fun i u s hi hs => by
                rw [HST.out.1] at hs
                by_cases e : n = i
                · subst e
                  rw [List.getElem?_set_self (by omega)] at hi
                  rw [List.getElem?_set_self (by rw [Gr.bk_length]; omega)] at hs
                  injection hi with hi
                  injection hs with hs
                  subst hi hs
                  exact ⟨hu.far kk hfn, hfn⟩
                · rw [List.getElem?_set_ne e] at hi hs
                  exact ⟨(hos i u s hi hs).far kk (hfo i u s hi hs), hfo i u s hi hs⟩
              go_roundw
              case rel => exact ⟨k + 1, _, by omega, by go_num, by simpa using hol, hr6, hend, hkz.step kk fun _ _ h => h⟩
              case measure => simp [intOf]; omega
        · obtain rfl : k = N := by omega
          have hbw := (HK2.out _ hkz).2.2
          have hlk : (Gr.bk k es k).length = k := Gr.bk_length _ _ _
          have hSW : SlW wr (.slice (some ⟨gO, 0, none⟩) k k) (Gr.bk k es k) := by
            refine ⟨os, ?_, fun i u s hu hs => (hos i u s hu hs).1⟩
            rw [hlk]
            exact own_slV hro
          rw [Gr.bk_all HL.out] at hSW
          rw [HQ.out] at hbw
          have HE := Lib.hid (And.intro hSW hbw)
          clear hSW hbw hlk hos hro hkz hol
          go_wp2_with fail
          go_ret2
          exact ⟨_, rfl, HE.out.1, HE.out.2⟩
end Go.Proofs.YtpimcghmpbbckaaDoor


namespace Go.Proofs.YtpimcghmpbbckaaDoor
set_option linter.unusedVariables false
set_option linter.unusedSimpArgs false
set_option maxRecDepth 100000
open Go.RowKit

theorem Gr.wrong_zero {n : Int} {es : List Gr.Er} (h : Gr.wrong n es = 0) : Gr.okG n es = true ∧ ∃ N : Nat, n = (N : Int) ∧ N ≤ 200 ∧ (∀ e ∈ Gr.nat es, e.1 < N ∧ e.2 < N) ∧ (Gr.nat es).length = es.length ∧ (Gr.take N (Gr.nat es)).length = N := by
  have hok : Gr.okG n es = true := by
    cases h1 : Gr.okG n es with
    | true => rfl
    | false =>
      unfold Gr.wrong at h
      rw [h1] at h
      cases h
  obtain ⟨N, rfl, hN, hes, hln, -⟩ := Gr.nat_ok hok
  refine ⟨hok, N, rfl, hN, hes, hln, ?_⟩
  unfold Gr.wrong at h
  rw [hok] at h
  simp only [if_true, Int.toNat_natCast] at h
  by_cases hl : (Gr.take N (Gr.nat es)).length < N
  · rw [if_pos hl] at h
    cases h
  · have := (Gr.good_take N (Gr.nat es)).length
    omega

set_option maxHeartbeats 4000000 in
theorem behind_no (R : Int) (hR : R ≠ 0) (w : World) (x : Value) (A : Option Addr) (l c : Nat) (n : Int) (hx : x = .agg #[.int .i64 n, .slice A l c])
    (hs : ∀ w', Below w.heap.size w w' → Calls Tryd.prog 25 #[x] w' fun e w'' => ∃ v, e = .returned (.tuple #[v, .int .i64 R]) ∧ v = .slice none 0 0 ∧ Below w'.heap.size w' w'') :
    Calls Tryd.prog 51 #[x] w fun e w' => ∃ v, e = .returned (.tuple #[v, .int .i64 R]) ∧ v = .slice none 0 0 ∧ Below w.heap.size w w' := by
  subst hx
  have x0 := Blk.new w 24 [.int .i64 n, .slice A l c]
  have hb0 : Below w.heap.size w (w.alloc (.cells #[.int .i64 n, .slice A l c] 24)) := below_alloc (Below.refl _ _) _
  go_enter Tryd.func51, Tryd.ntmps51
  go_upto_region 1 with (fail)
  generalize (w.alloc (.cells #[.int .i64 n, .slice A l c] 24)) = W0 at x0 hb0 ⊢
  have d0 : W0.cell? ⟨w.heap.size, 0, none⟩ = some (.int .i64 n) := (x0.cell 0).trans rfl
  have d1 : W0.cell? ⟨w.heap.size, 1, none⟩ = some (.slice A l c) := (x0.cell 1).trans rfl
  have g0 : (R != 0) = true := by simpa using hR
  have HR := Lib.hid hR
  clear hR
  go_wp2_with fail
  refine (hs W0 hb0).mono ?_
  rintro e w1 ⟨v, rfl, rfl, hb1⟩
  have hb01 := Lib.hid (below_next hb1 hb0)
  clear d0 d1 x0 hs hb1 hb0
  go_wp2_with fail
  go_ret2
  exact ⟨_, rfl, rfl, hb01.out⟩

theorem behind_any (n : Int) (es : List Gr.Er) (w : World) (A : Option Addr) (c : Nat) (hA : SlV w 2 (.slice A es.length c) es.length (ercs es)) (hle : es.length ≤ 1099511627776) (hT : Tab w) :
    Calls Tryd.prog 51 #[.agg #[.int .i64 n, .slice A es.length c]] w fun e w' => ∃ v, e = .returned (.tuple #[v, .int .i64 (Gr.wrong n es)]) ∧ (Gr.wrong n es ≠ 0 → v = .slice none 0 0) ∧ (Gr.wrong n es = 0 → SlW w' v (Gr.behW n.toNat (Gr.nat es))) ∧ Below w.heap.size w w' := by
  have hTb : ∀ w', Below w.heap.size w w' → Tab w' := fun w' hb j hj => (hb.cell (p := ⟨0, j, none⟩) hT.lt).trans (hT j hj)
  have hs := fun w' (hb : Below w.heap.size w w') => sort_any n es w' A c (hA.below hb) hle (hTb w' hb)
  by_cases h0 : Gr.wrong n es = 0
  · obtain ⟨hok, N, rfl, hN, hes, hln, hl⟩ := Gr.wrong_zero h0
    rw [Int.toNat_natCast] at hs ⊢
    have h4 := hA
    rw [ercs_nat hok, ← hln] at h4
    have hb := behind_yes N (Gr.nat es) w A c hN hes hl h4 (by omega) (fun w' hb => by
      rw [hln]
      refine (hs w' hb).mono ?_
      rintro e w'' ⟨v, rfl, -, h2, h3⟩
      have := h2 h0
      rw [hl] at this
      exact ⟨v, by rw [h0], this, h3⟩)
    rw [hln] at hb
    refine hb.mono ?_
    rintro e w' ⟨v, rfl, h1, h2⟩
    exact ⟨v, by rw [h0], fun h => absurd h0 h, fun _ => h1, h2⟩
  · refine (behind_no (Gr.wrong n es) h0 w _ A es.length c n rfl fun w' hb => ?_).mono ?_
    · refine (hs w' hb).mono ?_
      rintro e w'' ⟨v, rfl, h1, -, h3⟩
      exact ⟨v, rfl, h1 h0, h3⟩
    · rintro e w' ⟨v, rfl, h1, h2⟩
      exact ⟨v, rfl, fun _ => h1, fun h => absurd h h0, h2⟩
end Go.Proofs.YtpimcghmpbbckaaDoor


namespace Go.Proofs.YtpimcghmpbbckaaDoor.Cn
set_option linter.unusedVariables false
set_option linter.unusedSimpArgs false
set_option maxRecDepth 100000

def sg (N : Nat) (f : Nat → Nat) : Nat := ((List.range N).map f).sum
theorem sg_zero (f : Nat → Nat) : sg 0 f = 0 := rfl
theorem sg_succ (N : Nat) (f : Nat → Nat) : sg (N + 1) f = sg N f + f N := by
  unfold sg
  rw [List.range_succ, List.map_append, List.sum_append]
  simp
theorem sg_congr : ∀ {N : Nat} {f g : Nat → Nat}, (∀ n, n < N → f n = g n) → sg N f = sg N g
  | 0, _, _, _ => rfl
  | N + 1, f, g, h => by rw [sg_succ, sg_succ, sg_congr (fun n hn => h n (by omega)), h N (by omega)]
theorem sg_le : ∀ {N : Nat} {f g : Nat → Nat}, (∀ n, n < N → f n ≤ g n) → sg N f ≤ sg N g
  | 0, _, _, _ => Nat.le_refl _
  | N + 1, f, g, h => by
    rw [sg_succ, sg_succ]
    exact Nat.add_le_add (sg_le (fun n hn => h n (by omega))) (h N (by omega))
theorem sg_const (N c : Nat) : sg N (fun _ => c) = N * c := by
  induction N with
  | zero => simp [sg]
  | succ N ih => rw [sg_succ, ih, Nat.add_mul, Nat.one_mul]
theorem sg_add (N : Nat) (f g : Nat → Nat) : sg N (fun n => f n + g n) = sg N f + sg N g := by
  induction N with
  | zero => rfl
  | succ N ih => rw [sg_succ, sg_succ, sg_succ, ih]; omega
theorem sg_mul (N c : Nat) (f : Nat → Nat) : sg N (fun n => c * f n) = c * sg N f := by
  induction N with
  | zero => simp [sg]
  | succ N ih => rw [sg_succ, sg_succ, ih, Nat.mul_add]
theorem sg_split (a : Nat) (f : Nat → Nat) : ∀ b, sg (a + b) f = sg a f + sg b (fun i => f (a + i))
  | 0 => by simp [sg_zero]
  | b + 1 => by rw [← Nat.add_assoc, sg_succ, sg_succ, sg_split a f b]; omega
theorem sg_swap (N M : Nat) (f : Nat → Nat → Nat) : sg N (fun n => sg M (f n)) = sg M (fun m => sg N (fun n => f n m)) := by
  induction N with
  | zero => simp only [sg_zero]; rw [sg_const, Nat.mul_zero]
  | succ N ih => rw [sg_succ, ih, ← sg_add]; exact sg_congr fun m _ => (sg_succ N _).symm
theorem sg_one {N k : Nat} (hk : k < N) (f : Nat → Nat) : sg N (fun n => if n = k then f n else 0) = f k := by
  induction N with
  | zero => omega
  | succ N ih =>
    rw [sg_succ]
    by_cases e : k = N
    · subst e
      rw [if_pos rfl, sg_congr (g := fun _ => 0) (fun n hn => if_neg (by omega)), sg_const]
      omega
    · rw [ih (by omega), if_neg (fun h => e h.symm), Nat.add_zero]
theorem sg_zero_iff {N : Nat} {f : Nat → Nat} : sg N f = 0 ↔ ∀ n, n < N → f n = 0 := by
  induction N with
  | zero => exact ⟨fun _ n h => by omega, fun _ => rfl⟩
  | succ N ih =>
    rw [sg_succ, Nat.add_eq_zero_iff, ih]
    constructor
    · rintro ⟨h1, h2⟩ n hn
      by_cases e : n = N
      · subst e; exact h2
      · exact h1 n (by omega)
    · exact fun h => ⟨fun n hn => h n (by omega), h N (by omega)⟩

/-! ### sets of numbers below N, as numbers -/
def bit (s n : Nat) : Bool := s.testBit n
theorem bit_ge {s n : Nat} (h : bit s n = true) : 2 ^ n ≤ s := Nat.ge_two_pow_of_testBit h
theorem bit_add {t n : Nat} (h : bit t n = false) (m : Nat) : bit (2 ^ n + t) m = (bit t m || decide (m = n)) := by
  unfold bit at h ⊢
  rcases Nat.lt_trichotomy m n with h1 | h1 | h1
  · rw [Nat.testBit_two_pow_add_gt h1]
    simp [Nat.ne_of_lt h1]
  · subst h1
    rw [Nat.testBit_two_pow_add_eq, h]
    simp
  · have hr : t % 2 ^ (n + 1) < 2 ^ n := by
      refine Nat.lt_pow_two_of_testBit _ fun i hi => ?_
      rw [Nat.testBit_mod_two_pow]
      by_cases e : i = n
      · subst e; rw [h]; simp
      · rw [show decide (i < n + 1) = false by simp; omega]; rfl
    have hdm := Nat.div_add_mod t (2 ^ (n + 1))
    have e2 : 2 ^ n + t = 2 ^ (n + 1) * (t / 2 ^ (n + 1)) + (2 ^ n + t % 2 ^ (n + 1)) := by omega
    have hp : 2 ^ (n + 1) = 2 ^ n + 2 ^ n := by rw [Nat.pow_succ]; omega
    rw [e2, Nat.testBit_two_pow_mul_add _ (by omega), if_neg (by omega)]
    conv => rhs; rw [← hdm]
    rw [Nat.testBit_two_pow_mul_add _ (by omega), if_neg (by omega)]
    simp [Nat.ne_of_gt h1]
theorem bit_off {s n m : Nat} (h : bit s n = true) : bit (s - 2 ^ n) m = (bit s m && decide (m ≠ n)) := by
  have hge := bit_ge h
  obtain ⟨t, ht⟩ : ∃ t, t = s - 2 ^ n := ⟨_, rfl⟩
  have hs : s = 2 ^ n + t := by omega
  rw [← ht]
  have htn : bit t n = false := by
    unfold bit at h ⊢
    rw [hs, Nat.testBit_two_pow_add_eq] at h
    simpa using h
  rw [hs, bit_add htn]
  by_cases e : m = n
  · subst e; simp [htn]
  · simp [e]
theorem bit_lt {N s n : Nat} (hs : s < 2 ^ N) (h : bit s n = true) : n < N := by
  refine Decidable.byContradiction fun hn => ?_
  unfold bit at h
  rw [Nat.testBit_lt_two_pow (Nat.lt_of_lt_of_le hs (Nat.pow_le_pow_right (by decide) (by omega)))] at h
  cases h
theorem off_lt {N s n : Nat} (hs : s < 2 ^ N) : s - 2 ^ n < 2 ^ N := Nat.lt_of_le_of_lt (Nat.sub_le _ _) hs
theorem bit_ext {s t : Nat} (h : ∀ n, bit s n = bit t n) : s = t := Nat.eq_of_testBit_eq h
theorem bit_zero (n : Nat) : bit 0 n = false := Nat.zero_testBit n

/-! ### how many -/
def pop (N s : Nat) : Nat := sg N fun n => if bit s n then 1 else 0
theorem pop_le (N s : Nat) : pop N s ≤ N := by
  have := sg_le (N := N) (f := fun n => if bit s n then 1 else 0) (g := fun _ => 1) (fun n _ => by split <;> omega)
  rw [sg_const, Nat.mul_one] at this
  exact this
theorem pop_off {N s n : Nat} (hn : n < N) (h : bit s n = true) : pop N (s - 2 ^ n) + 1 = pop N s := by
  have h1 := sg_one hn (fun _ => 1)
  have h2 : pop N s = pop N (s - 2 ^ n) + sg N (fun m => if m = n then 1 else 0) := by
    unfold pop
    rw [← sg_add]
    refine sg_congr fun m _ => ?_
    rw [bit_off h]
    by_cases e : m = n
    · subst e; simp [h]
    · simp [e]
  omega
theorem pop_zero {N s : Nat} (hs : s < 2 ^ N) : pop N s = 0 ↔ s = 0 := by
  unfold pop
  rw [sg_zero_iff]
  constructor
  · intro h
    refine bit_ext fun n => ?_
    rw [bit_zero]
    by_cases hn : n < N
    · have := h n hn
      by_cases hb : bit s n = true
      · rw [if_pos hb] at this; cases this
      · simpa using hb
    · by_cases hb : bit s n = true
      · exact absurd (bit_lt hs hb) hn
      · simpa using hb
  · rintro rfl n _
    rw [bit_zero]
    rfl

/-! ### orders -/
/-- ok n s: n may come next, where those of s are out -/
def W (N : Nat) (ok : Nat → Nat → Bool) : Nat → Nat → Nat
  | 0, _ => 1
  | f + 1, s => sg N fun n => if bit s n && ok n (s - 2 ^ n) then W N ok f (s - 2 ^ n) else 0
/-- in how many orders those of s may come -/
def ord (N : Nat) (ok : Nat → Nat → Bool) (s : Nat) : Nat := W N ok (pop N s) s
section
variable {N : Nat} {ok : Nat → Nat → Bool}
theorem ord_zero : ord N ok 0 = 1 := by
  have : pop N 0 = 0 := (pop_zero (Nat.two_pow_pos N)).2 rfl
  unfold ord
  rw [this]
  rfl
theorem ord_step {s : Nat} (hs : s < 2 ^ N) (h0 : s ≠ 0) : ord N ok s = sg N fun n => if bit s n && ok n (s - 2 ^ n) then ord N ok (s - 2 ^ n) else 0 := by
  obtain ⟨f, hf⟩ : ∃ f, pop N s = f + 1 := ⟨pop N s - 1, by have : pop N s ≠ 0 := fun e => h0 ((pop_zero hs).1 e); omega⟩
  unfold ord
  rw [hf]
  refine sg_congr fun n hn => ?_
  by_cases hb : bit s n = true
  · have := pop_off hn hb
    rw [show pop N (s - 2 ^ n) = f by omega]
  · simp [hb]
theorem W_le (f s : Nat) : W N ok f s ≤ N ^ f := by
  induction f generalizing s with
  | zero => exact Nat.le_refl _
  | succ f ih =>
    show sg N _ ≤ _
    rw [Nat.pow_succ, Nat.mul_comm]
    have := sg_le (N := N) (f := fun n => if bit s n && ok n (s - 2 ^ n) then W N ok f (s - 2 ^ n) else 0) (g := fun _ => N ^ f) (fun n _ => by
      split
      · exact ih _
      · exact Nat.zero_le _)
    rw [sg_const] at this
    exact this
theorem ord_bound {s : Nat} (hN : N ≤ 14) : ord N ok s ≤ 11112006825558016 := by
  refine Nat.le_trans (W_le _ _) ?_
  by_cases h0 : N = 0
  · subst h0
    have : pop 0 s = 0 := rfl
    rw [this]; decide
  · have h1 : N ^ pop N s ≤ N ^ N := Nat.pow_le_pow_right (by omega) (pop_le N s)
    have h2 : N ^ N ≤ 14 ^ N := Nat.pow_le_pow_left hN N
    have h3 : 14 ^ N ≤ 14 ^ 14 := Nat.pow_le_pow_right (by decide) hN
    exact Nat.le_trans h1 (Nat.le_trans h2 (Nat.le_trans h3 (by decide)))
end
end Go.Proofs.YtpimcghmpbbckaaDoor.Cn


namespace Go.Proofs.YtpimcghmpbbckaaDoor.Cn
set_option linter.unusedVariables false
set_option linter.unusedSimpArgs false
set_option maxRecDepth 100000
open Gr (Ed)

section
variable {N : Nat} {ok : Nat → Nat → Bool}
/-- what is told to t when all sets below s have told all, and s the first n -/
def P (N : Nat) (ok : Nat → Nat → Bool) (s n t : Nat) : Nat := (if t = 0 then 1 else 0) + sg N fun m => if bit t m && ok m (t - 2 ^ m) && (decide (t - 2 ^ m < s) || (decide (t - 2 ^ m = s) && decide (m < n))) then ord N ok (t - 2 ^ m) else 0
theorem P_start (t : Nat) : P N ok 0 0 t = if t = 0 then 1 else 0 := by
  unfold P
  rw [sg_congr (g := fun _ => 0) (fun m _ => by simp), sg_const]
  omega
theorem bit_pos {s n : Nat} (h : bit s n = true) : s - 2 ^ n < s := by
  have := bit_ge h
  have := Nat.two_pow_pos n
  omega
theorem P_all {s t n : Nat} (ht : t < 2 ^ N) (hts : t ≤ s) : P N ok s n t = ord N ok t := by
  unfold P
  by_cases h0 : t = 0
  · subst h0
    rw [if_pos rfl, ord_zero, sg_congr (g := fun _ => 0) (fun m _ => by simp [bit_zero]), sg_const]
    omega
  · rw [if_neg h0, ord_step ht h0, Nat.zero_add]
    refine sg_congr fun m _ => ?_
    by_cases hb : bit t m = true
    · have := bit_pos hb
      rw [show decide (t - 2 ^ m < s) = true by simp; omega]
      simp
    · simp [hb]
theorem P_next (s t : Nat) : P N ok s N t = P N ok (s + 1) 0 t := by
  unfold P
  congr 1
  refine sg_congr fun m hm => ?_
  have : (decide (t - 2 ^ m < s) || (decide (t - 2 ^ m = s) && decide (m < N))) = (decide (t - 2 ^ m < s + 1) || (decide (t - 2 ^ m = s + 1) && decide (m < 0))) := by
    rw [Bool.eq_iff_iff]
    simp
    omega
  rw [this]
theorem P_step {s n : Nat} (hn : n < N) (hb : bit s n = false) (hok : ok n s = true) (t : Nat) : P N ok s (n + 1) t = P N ok s n t + (if t = s + 2 ^ n then ord N ok s else 0) := by
  unfold P
  rw [Nat.add_assoc]
  congr 1
  have h1 := sg_one hn (fun _ => if t = s + 2 ^ n then ord N ok s else 0)
  rw [← h1, ← sg_add]
  refine sg_congr fun m _ => ?_
  by_cases e : m = n
  · subst e
    rw [if_pos rfl]
    by_cases ht : t = s + 2 ^ m
    · subst ht
      have hbt : bit (s + 2 ^ m) m = true := by rw [Nat.add_comm, bit_add hb]; simp
      rw [if_pos rfl, show s + 2 ^ m - 2 ^ m = s by omega, hbt, hok]
      simp
    · rw [if_neg ht, Nat.add_zero]
      by_cases hbt : bit t m = true
      · have hne : t - 2 ^ m ≠ s := fun e => ht (by have := bit_ge hbt; omega)
        simp [hne]
      · simp [hbt]
  · rw [if_neg e, Nat.add_zero]
    have : decide (m < n + 1) = decide (m < n) := by
      rw [decide_eq_decide]
      omega
    rw [this]
    rfl
theorem P_skip {s n : Nat} (h : bit s n = true ∨ ok n s = false ∨ ord N ok s = 0) (t : Nat) : P N ok s (n + 1) t = P N ok s n t := by
  unfold P
  congr 1
  refine sg_congr fun m _ => ?_
  by_cases e : m = n ∧ t - 2 ^ m = s ∧ bit t m = true
  · obtain ⟨rfl, h2, h3⟩ := e
    rw [h2, h3]
    rcases h with h | h | h
    · have := bit_off (m := m) h3
      rw [h2, h] at this
      simp at this
    · simp [h]
    · simp [h]
  · have : (bit t m && ok m (t - 2 ^ m) && (decide (t - 2 ^ m < s) || (decide (t - 2 ^ m = s) && decide (m < n + 1)))) = (bit t m && ok m (t - 2 ^ m) && (decide (t - 2 ^ m < s) || (decide (t - 2 ^ m = s) && decide (m < n)))) := by
      by_cases hb : bit t m = true
      · by_cases h2 : t - 2 ^ m = s
        · have hmn : m ≠ n := fun e' => e ⟨e', h2, hb⟩
          rw [show decide (m < n + 1) = decide (m < n) by rw [decide_eq_decide]; omega]
        · simp [h2]
      · simp [hb]
    rw [this]
theorem P_le {s n t : Nat} (ht : t < 2 ^ N) : P N ok s n t ≤ ord N ok t := by
  unfold P
  by_cases h0 : t = 0
  · subst h0
    rw [if_pos rfl, ord_zero, sg_congr (g := fun _ => 0) (fun m _ => by simp [bit_zero]), sg_const]
    omega
  · rw [if_neg h0, ord_step ht h0, Nat.zero_add]
    refine sg_le fun m _ => ?_
    by_cases h1 : (bit t m && ok m (t - 2 ^ m)) = true
    · rw [h1, Bool.true_and]
      split
      · rw [if_pos rfl]; exact Nat.le_refl _
      · exact Nat.zero_le _
    · rw [Bool.not_eq_true] at h1
      rw [h1, Bool.false_and]
      simp
end

/-! ### a graph's orders -/
def okE (es : List Ed) (n s : Nat) : Bool := es.all fun e => e.2 != n || bit s e.1
theorem okE_iff {es : List Ed} {n s : Nat} : okE es n s = true ↔ ∀ e ∈ es, e.2 = n → bit s e.1 = true := by
  unfold okE
  rw [List.all_eq_true]
  constructor
  · intro h e he en
    have := h e he
    rw [en] at this
    simpa using this
  · intro h e he
    by_cases en : e.2 = n
    · rw [h e he en]; simp
    · simp [en]
/-- those ahead of n -/
def ahead (es : List Ed) (n : Nat) : Nat := es.foldl (fun m e => if e.2 = n then m ||| 2 ^ e.1 else m) 0
theorem ahead_snoc (es : List Ed) (e : Ed) (n : Nat) : ahead (es ++ [e]) n = if e.2 = n then ahead es n ||| 2 ^ e.1 else ahead es n := by
  unfold ahead
  rw [List.foldl_append]
  rfl
theorem fold_or_bit (n x : Nat) : ∀ (es : List Ed) (m : Nat), bit (es.foldl (fun m e => if e.2 = n then m ||| 2 ^ e.1 else m) m) x = (bit m x || es.any fun e => e.2 == n && e.1 == x)
  | [], m => by simp
  | e :: es, m => by
    rw [List.foldl_cons, fold_or_bit n x es, List.any_cons]
    by_cases h : e.2 = n
    · rw [if_pos h, show (e.2 == n) = true by simpa using h, Bool.true_and, ← Bool.or_assoc]
      congr 1
      unfold bit
      rw [Nat.testBit_or, Nat.testBit_two_pow]
      congr 1
    · rw [if_neg h, show (e.2 == n) = false by simpa using h, Bool.false_and, Bool.false_or]
theorem ahead_bit (es : List Ed) (n x : Nat) : bit (ahead es n) x = es.any fun e => e.2 == n && e.1 == x := by
  unfold ahead
  rw [fold_or_bit, bit_zero, Bool.false_or]
theorem ahead_lt {N : Nat} {es : List Ed} (h : ∀ e ∈ es, e.1 < N) (n : Nat) : ahead es n < 2 ^ N := by
  refine Nat.lt_pow_two_of_testBit _ fun x hx => ?_
  have := ahead_bit es n x
  unfold bit at this
  rw [this]
  rw [List.any_eq_false]
  intro e he
  have := h e he
  simp
  intro _
  omega
/-- none of those ahead is missing -/
theorem okE_ahead (es : List Ed) (n s : Nat) : okE es n s = true ↔ ∀ x, bit (ahead es n) x = true → bit s x = true := by
  rw [okE_iff]
  constructor
  · intro h x hx
    rw [ahead_bit, List.any_eq_true] at hx
    obtain ⟨e, he, hex⟩ := hx
    simp at hex
    rw [← hex.2]
    exact h e he hex.1
  · intro h e he en
    refine h e.1 ?_
    rw [ahead_bit, List.any_eq_true]
    exact ⟨e, he, by simp [en]⟩
end Go.Proofs.YtpimcghmpbbckaaDoor.Cn


namespace Go.Proofs.YtpimcghmpbbckaaDoor.Cn
set_option linter.unusedVariables false
set_option linter.unusedSimpArgs false
set_option maxRecDepth 100000
open Go Go.RowKit

theorem ofInt_nat {a : Nat} (ha : a < 9223372036854775808) : (BitVec.ofInt 64 (a : Int)).toNat = a := by
  rw [BitVec.ofInt_natCast, BitVec.toNat_ofNat]; exact Nat.mod_eq_of_lt (by omega)
theorem bits_or_i64 (a b : Nat) (ha : a < 9223372036854775808) (hb : b < 9223372036854775808) : bits .or .i64 (a : Int) (b : Int) = ((a ||| b : Nat) : Int) := by
  have hx : a ||| b < 2 ^ 63 := Nat.or_lt_two_pow (by omega) (by omega)
  show IntKind.i64.wrap ((BitVec.ofInt 64 (a : Int) ||| BitVec.ofInt 64 (b : Int)).toNat : Int) = _
  rw [BitVec.toNat_or, ofInt_nat ha, ofInt_nat hb]
  exact IntWalk.i64_in _ (by omega)
theorem bits_and_i64 (a b : Nat) (ha : a < 9223372036854775808) (hb : b < 9223372036854775808) : bits .and .i64 (a : Int) (b : Int) = ((a &&& b : Nat) : Int) := by
  have hx : a &&& b < 2 ^ 63 := Nat.and_lt_two_pow _ (by omega)
  show IntKind.i64.wrap ((BitVec.ofInt 64 (a : Int) &&& BitVec.ofInt 64 (b : Int)).toNat : Int) = _
  rw [BitVec.toNat_and, ofInt_nat ha, ofInt_nat hb]
  exact IntWalk.i64_in _ (by omega)
/-- what is in the first alone -/
def lack (a b : Nat) : Nat := a &&& (18446744073709551615 - b)
theorem lack_lt {a b : Nat} (ha : a < 9223372036854775808) : lack a b < 9223372036854775808 := Nat.lt_of_le_of_lt Nat.and_le_left ha
theorem bits_andNot_i64 (a b : Nat) (ha : a < 9223372036854775808) (hb : b < 9223372036854775808) : bits .andNot .i64 (a : Int) (b : Int) = ((lack a b : Nat) : Int) := by
  have hx := lack_lt (b := b) ha
  show IntKind.i64.wrap ((BitVec.ofInt 64 (a : Int) &&& ~~~ BitVec.ofInt 64 (b : Int)).toNat : Int) = _
  rw [BitVec.toNat_and, BitVec.toNat_not, ofInt_nat ha, ofInt_nat hb]
  unfold lack at *
  rw [show 2 ^ 64 - 1 - b = 18446744073709551615 - b by omega]
  exact IntWalk.i64_in _ (by omega)
theorem lack_zero {a b : Nat} (ha : a < 9223372036854775808) (hb : b < 9223372036854775808) : lack a b = 0 ↔ ∀ x, bit a x = true → bit b x = true := by
  have key : ∀ x, x < 64 → bit (lack a b) x = (bit a x && !bit b x) := fun x hx => by
    unfold lack bit
    rw [Nat.testBit_and, show 18446744073709551615 - b = 2 ^ 64 - (b + 1) by omega, Nat.testBit_two_pow_sub_succ (show b < 2 ^ 64 by omega)]
    simp [hx]
  have h63 : (9223372036854775808 : Nat) = 2 ^ 63 := by decide
  constructor
  · intro h x hx
    have hx64 := bit_lt (N := 63) (by rw [← h63]; exact ha) hx
    have := key x (by omega)
    rw [h, bit_zero, hx, Bool.true_and] at this
    simpa using this.symm
  · intro h
    refine bit_ext fun x => ?_
    rw [bit_zero]
    by_cases hx : x < 64
    · rw [key x hx]
      by_cases hax : bit a x = true
      · rw [h x hax]; simp
      · simp [hax]
    · have hl := lack_lt (b := b) ha
      rcases e : bit (lack a b) x with _ | _
      · rfl
      · have := bit_lt (N := 63) (by rw [← h63]; exact hl) e
        omega
theorem bit_mod (s n : Nat) : s / 2 ^ n % 2 = if bit s n then 1 else 0 := by
  unfold bit
  rw [Nat.testBit_eq_decide_div_mod_eq]
  have := Nat.mod_lt (s / 2 ^ n) (show 0 < 2 by decide)
  by_cases h : s / 2 ^ n % 2 = 1
  · simp [h]
  · simp [h]; omega
theorem two_pow_small {n : Nat} (hn : n ≤ 14) : 2 ^ n ≤ 16384 := Nat.pow_le_pow_right (by decide) hn
theorem or_add {s n : Nat} (h : bit s n = false) : s ||| 2 ^ n = s + 2 ^ n := by
  refine bit_ext fun m => ?_
  rw [Nat.add_comm, bit_add h]
  unfold bit
  rw [Nat.testBit_or, Nat.testBit_two_pow]
  congr 1
  rw [decide_eq_decide]
  exact ⟨fun e => e.symm, fun e => e.symm⟩
end Go.Proofs.YtpimcghmpbbckaaDoor.Cn


namespace Go.Proofs.YtpimcghmpbbckaaDoor.Hp
set_option linter.unusedVariables false
set_option linter.unusedSimpArgs false
set_option maxRecDepth 100000

abbrev L := List Nat
def at_ (l : L) (i : Nat) : Nat := l.getD i 0
def swap (l : L) (i j : Nat) : L := (l.set i (at_ l j)).set j (at_ l i)
theorem swap_length (l : L) (i j : Nat) : (swap l i j).length = l.length := by simp [swap]
theorem at_get {l : L} {i : Nat} (h : i < l.length) : l[i]? = some (at_ l i) := by simp [at_, List.getElem?_eq_getElem h]
theorem at_set (l : L) (i k x : Nat) (h : i < l.length) : at_ (l.set i x) k = if k = i then x else at_ l k := by
  unfold at_
  rw [List.getD_eq_getElem?_getD, List.getElem?_set, List.getD_eq_getElem?_getD]
  by_cases hk : i = k
  · subst hk; simp [h]
  · rw [if_neg hk, if_neg (fun e => hk e.symm)]
theorem at_swap {l : L} {i j : Nat} (hi : i < l.length) (hj : j < l.length) (k : Nat) : at_ (swap l i j) k = if k = j then at_ l i else if k = i then at_ l j else at_ l k := by
  unfold swap
  rw [at_set _ _ _ _ (by simpa using hj), at_set _ _ _ _ hi]
theorem swap_perm {l : L} {i j : Nat} (hi : i < l.length) (hj : j < l.length) : (swap l i j).Perm l := by
  have e1 : at_ l j = l[j] := by simp [at_, List.getElem?_eq_getElem hj]
  have e2 : at_ l i = l[i] := by simp [at_, List.getElem?_eq_getElem hi]
  unfold swap
  rw [e1, e2]
  exact List.set_set_perm hi hj

/-- nobody is less than who is above -/
def Ok (l : L) : Prop := ∀ k, 0 < k → k < l.length → at_ l ((k - 1) / 2) ≤ at_ l k
theorem Ok.least {l : L} (h : Ok l) : ∀ k, k < l.length → at_ l 0 ≤ at_ l k := by
  intro k
  induction k using Nat.strongRecOn with
  | _ k ih =>
    intro hk
    by_cases h0 : k = 0
    · subst h0; exact Nat.le_refl _
    · exact Nat.le_trans (ih ((k - 1) / 2) (by omega) (by omega)) (h k (by omega) hk)

/-! ### up -/
def up : Nat → L → Nat → L
  | 0, l, _ => l
  | f + 1, l, i => if i = 0 then l else if at_ l ((i - 1) / 2) ≤ at_ l i then l else up f (swap l ((i - 1) / 2) i) ((i - 1) / 2)
structure Up (l : L) (i : Nat) : Prop where
  lt : i < l.length
  a : ∀ k, 0 < k → k < l.length → k ≠ i → at_ l ((k - 1) / 2) ≤ at_ l k
  b : ∀ k, 0 < k → k < l.length → 0 < i → (k - 1) / 2 = i → at_ l ((i - 1) / 2) ≤ at_ l k
theorem Up.done {l : L} {i : Nat} (h : Up l i) (hi : i = 0 ∨ at_ l ((i - 1) / 2) ≤ at_ l i) : Ok l := fun k h0 hk => by
  by_cases he : k = i
  · subst he
    exact hi.resolve_left (by omega)
  · exact h.a k h0 hk he
theorem Up.step {l : L} {i : Nat} (h : Up l i) (h0 : 0 < i) (hi : at_ l i < at_ l ((i - 1) / 2)) : Up (swap l ((i - 1) / 2) i) ((i - 1) / 2) := by
  have hl := h.lt
  have hp : (i - 1) / 2 < l.length := by omega
  have hs := at_swap hp hl
  refine ⟨by rw [swap_length]; exact hp, fun k k0 hk hne => ?_, fun k k0 hk hu hpk => ?_⟩
  · rw [swap_length] at hk
    rw [hs, hs]
    by_cases h1 : k = i
    · subst h1
      rw [if_neg (by omega), if_pos rfl, if_pos rfl]
      omega
    · rw [if_neg h1, if_neg hne]
      by_cases h2 : (k - 1) / 2 = i
      · rw [if_pos h2]
        exact h.b k k0 hk h0 h2
      · rw [if_neg h2]
        by_cases h3 : (k - 1) / 2 = (i - 1) / 2
        · rw [if_pos h3]
          have := h.a k k0 hk h1
          rw [h3] at this
          omega
        · rw [if_neg h3]
          exact h.a k k0 hk h1
  · rw [swap_length] at hk
    rw [hs, hs]
    have e1 : ((i - 1) / 2 - 1) / 2 ≠ i := by omega
    have e2 : ((i - 1) / 2 - 1) / 2 ≠ (i - 1) / 2 := by omega
    rw [if_neg e1, if_neg e2]
    have hup := h.a ((i - 1) / 2) hu hp (by omega)
    by_cases h1 : k = i
    · rw [if_pos h1]; exact hup
    · rw [if_neg h1, if_neg (by omega)]
      have := h.a k k0 hk h1
      rw [hpk] at this
      omega
theorem up_ok : ∀ (f : Nat) (l : L) (i : Nat), Up l i → i < f → Ok (up f l i) ∧ (up f l i).Perm l
  | 0, _, _, _, h => by omega
  | f + 1, l, i, h, hf => by
    unfold up
    by_cases h0 : i = 0
    · rw [if_pos h0]; exact ⟨h.done (.inl h0), List.Perm.refl _⟩
    · rw [if_neg h0]
      by_cases h1 : at_ l ((i - 1) / 2) ≤ at_ l i
      · rw [if_pos h1]; exact ⟨h.done (.inr h1), List.Perm.refl _⟩
      · rw [if_neg h1]
        obtain ⟨a, b⟩ := up_ok f _ _ (h.step (by omega) (by omega)) (by omega)
        exact ⟨a, b.trans (swap_perm (by have := h.lt; omega) h.lt)⟩
def push (l : L) (x : Nat) : L := up (l.length + 1) (l ++ [x]) l.length
theorem push_up {l : L} (h : Ok l) (x : Nat) : Up (l ++ [x]) l.length := by
  refine ⟨by simp, fun k h0 hk hne => ?_, fun k h0 hk hi hp => ?_⟩
  · simp only [List.length_append, List.length_singleton] at hk
    have e : ∀ j, j < l.length → at_ (l ++ [x]) j = at_ l j := fun j hj => by unfold at_; rw [List.getD_eq_getElem?_getD, List.getElem?_append_left hj, List.getD_eq_getElem?_getD]
    rw [e _ (by omega), e _ (by omega)]
    exact h k h0 (by omega)
  · simp only [List.length_append, List.length_singleton] at hk
    omega
theorem push_ok {l : L} (h : Ok l) (x : Nat) : Ok (push l x) ∧ (push l x).Perm (x :: l) := by
  have hu := push_up h x
  obtain ⟨a, b⟩ := up_ok _ _ _ hu (Nat.lt_succ_self _)
  exact ⟨a, b.trans (List.perm_append_singleton x l)⟩

/-! ### down -/
/-- the least one of i and the two below it -/
def low (l : L) (i : Nat) : Nat :=
  let a := if 2 * i + 1 < l.length ∧ at_ l (2 * i + 1) < at_ l i then 2 * i + 1 else i
  if 2 * i + 2 < l.length ∧ at_ l (2 * i + 2) < at_ l a then 2 * i + 2 else a
theorem low_cases (l : L) (i : Nat) : (low l i = i ∨ ((low l i = 2 * i + 1 ∨ low l i = 2 * i + 2) ∧ low l i < l.length ∧ at_ l (low l i) < at_ l i)) ∧
    (2 * i + 1 < l.length → at_ l (low l i) ≤ at_ l (2 * i + 1)) ∧ (2 * i + 2 < l.length → at_ l (low l i) ≤ at_ l (2 * i + 2)) := by
  unfold low
  simp only
  split <;> split <;> (refine ⟨?_, ?_, ?_⟩ <;> omega)
def down : Nat → L → Nat → L
  | 0, l, _ => l
  | f + 1, l, i => if low l i = i then l else down f (swap l i (low l i)) (low l i)
structure Dn (l : L) (i : Nat) : Prop where
  a : ∀ k, 0 < k → k < l.length → (k - 1) / 2 ≠ i → at_ l ((k - 1) / 2) ≤ at_ l k
  b : ∀ k, 0 < k → k < l.length → 0 < i → (k - 1) / 2 = i → at_ l ((i - 1) / 2) ≤ at_ l k
theorem Dn.done {l : L} {i : Nat} (h : Dn l i) (hi : low l i = i) : Ok l := fun k h0 hk => by
  by_cases he : (k - 1) / 2 = i
  · obtain ⟨-, h1, h2⟩ := low_cases l i
    rw [hi] at h1 h2
    have : k = 2 * i + 1 ∨ k = 2 * i + 2 := by omega
    rw [he]
    rcases this with rfl | rfl
    · exact h1 hk
    · exact h2 hk
  · exact h.a k h0 hk he
theorem Dn.step {l : L} {i : Nat} (h : Dn l i) (hi : low l i ≠ i) : Dn (swap l i (low l i)) (low l i) ∧ i < low l i ∧ low l i < l.length ∧ (swap l i (low l i)).Perm l := by
  obtain ⟨h0, h1, h2⟩ := low_cases l i
  obtain ⟨hc, hlt, hless⟩ := h0.resolve_left hi
  generalize low l i = m at *
  have him : i < m := by omega
  have hpm : (m - 1) / 2 = i := by omega
  have hs := at_swap (show i < l.length by omega) hlt
  refine ⟨⟨fun k k0 hk hne => ?_, fun k k0 hk hm hp => ?_⟩, him, hlt, swap_perm (by omega) hlt⟩
  · rw [swap_length] at hk
    rw [hs, hs, if_neg hne]
    by_cases e1 : (k - 1) / 2 = i
    · rw [if_pos e1]
      by_cases e2 : k = m
      · rw [if_pos e2]; omega
      · rw [if_neg e2, if_neg (by omega)]
        have : k = 2 * i + 1 ∨ k = 2 * i + 2 := by omega
        rcases this with rfl | rfl
        · exact h1 hk
        · exact h2 hk
    · rw [if_neg e1, if_neg (fun e => e1 (by rw [e]; exact hpm))]
      by_cases e2 : k = i
      · subst e2
        rw [if_pos rfl]
        exact h.b m (by omega) hlt k0 hpm
      · rw [if_neg e2]
        exact h.a k k0 hk e1
  · rw [swap_length] at hk
    rw [hs, hs, hpm, if_neg (by omega), if_pos rfl, if_neg (by omega), if_neg (by omega)]
    have := h.a k k0 hk (by omega)
    rw [hp] at this
    exact this
theorem down_ok : ∀ (f : Nat) (l : L) (i : Nat), Dn l i → l.length < f + i → Ok (down f l i) ∧ (down f l i).Perm l
  | 0, l, i, h, hf => by
    unfold down
    refine ⟨fun k h0 hk => ?_, List.Perm.refl _⟩
    by_cases he : (k - 1) / 2 = i
    · omega
    · exact h.a k h0 hk he
  | f + 1, l, i, h, hf => by
    unfold down
    by_cases h1 : low l i = i
    · rw [if_pos h1]; exact ⟨h.done h1, List.Perm.refl _⟩
    · rw [if_neg h1]
      obtain ⟨q1, q2, q3, q4⟩ := h.step h1
      obtain ⟨a, b⟩ := down_ok f _ _ q1 (by rw [swap_length]; omega)
      exact ⟨a, b.trans q4⟩
/-- what is left when the first one is out -/
def cut (l : L) : L := (l.set 0 (at_ l (l.length - 1))).take (l.length - 1)
def pop (l : L) : L := down ((cut l).length + 1) (cut l) 0
theorem cut_perm {l : L} (h : l ≠ []) : (at_ l 0 :: cut l).Perm l := by
  rcases l with _ | ⟨x, l⟩
  · exact absurd rfl h
  · rcases List.eq_nil_or_concat l with rfl | ⟨m, y, rfl⟩
    · simp [cut, at_]
    · have e1 : at_ (x :: (m.concat y)) ((x :: (m.concat y)).length - 1) = y := by
        simp [at_, List.getElem?_append_right]
      unfold cut
      rw [e1]
      have e2 : ((x :: (m.concat y)).set 0 y).take ((x :: (m.concat y)).length - 1) = y :: m := by
        simp
      have e3 : at_ (x :: (m.concat y)) 0 = x := rfl
      rw [e2, e3, List.concat_eq_append]
      exact List.Perm.cons _ (List.perm_append_singleton y m).symm
theorem cut_length (l : L) : (cut l).length = l.length - 1 := by simp [cut]
theorem cut_at {l : L} {k : Nat} (h0 : 0 < k) (hk : k < l.length - 1) : at_ (cut l) k = at_ l k := by
  unfold cut at_
  rw [List.getD_eq_getElem?_getD, List.getElem?_take, if_pos hk, List.getElem?_set_ne (by omega), List.getD_eq_getElem?_getD]
theorem pop_ok {l : L} (h : Ok l) (hne : l ≠ []) : Ok (pop l) ∧ (at_ l 0 :: pop l).Perm l ∧ ∀ y ∈ pop l, at_ l 0 ≤ y := by
  have hd : Dn (cut l) 0 := by
    refine ⟨fun k h0 hk hp => ?_, fun k _ _ h0 _ => by omega⟩
    rw [cut_length] at hk
    rw [cut_at (by omega) (by omega), cut_at h0 hk]
    exact h k h0 (by omega)
  obtain ⟨a, b⟩ := down_ok ((cut l).length + 1) (cut l) 0 hd (by omega)
  have hp : (at_ l 0 :: pop l).Perm l := (List.Perm.cons _ b).trans (cut_perm hne)
  refine ⟨a, hp, fun y hy => ?_⟩
  have hyl : y ∈ l := hp.subset (List.mem_cons_of_mem _ hy)
  obtain ⟨k, hk, rfl⟩ := List.mem_iff_getElem.1 hyl
  have := h.least k hk
  simpa [at_, List.getElem?_eq_getElem hk] using this
/-- up to so many, the least first: those, and what is left -/
def take : Nat → L → List Nat × L
  | 0, l => ([], l)
  | n + 1, l => if l = [] then ([], l) else (at_ l 0 :: (take n (pop l)).1, (take n (pop l)).2)
theorem take_ok : ∀ (n : Nat) (l : L), Ok l → Ok (take n l).2 ∧ ((take n l).1 ++ (take n l).2).Perm l ∧ (take n l).1.Pairwise (· ≤ ·) ∧ (∀ x ∈ (take n l).1, ∀ y ∈ (take n l).2, x ≤ y) ∧ (take n l).1.length = min n l.length
  | 0, l, h => ⟨h, List.Perm.refl _, List.Pairwise.nil, fun _ hx => (by cases hx), by simp [take]⟩
  | n + 1, l, h => by
    unfold take
    by_cases h0 : l = []
    · rw [if_pos h0]
      exact ⟨h, List.Perm.refl _, List.Pairwise.nil, fun _ hx => (by cases hx), by simp [h0]⟩
    · rw [if_neg h0]
      obtain ⟨p1, p2, p3⟩ := pop_ok h h0
      obtain ⟨q1, q2, q3, q4, q5⟩ := take_ok n (pop l) p1
      have hin : ∀ y, y ∈ (take n (pop l)).1 ∨ y ∈ (take n (pop l)).2 → at_ l 0 ≤ y := fun y hy => p3 y (q2.subset (List.mem_append.2 hy))
      refine ⟨q1, (List.Perm.cons _ q2).trans p2, List.pairwise_cons.2 ⟨fun y hy => hin y (.inl hy), q3⟩, fun x hx y hy => ?_, ?_⟩
      · rcases List.mem_cons.1 hx with rfl | hx
        · exact hin y (.inr hy)
        · exact q4 x hx y hy
      · have := p2.length_eq
        simp only [List.length_cons] at this ⊢
        rw [q5]
        omega
/-- of numbers each of which is there once: the least ones, rising -/
theorem take_sorted {n N : Nat} {l : L} {f : Nat → Bool} (h : Ok l) (hn : l.Nodup) (hm : ∀ x, x ∈ l ↔ x < N ∧ f x = true) : (take n l).1 = ((List.range N).filter f).take n ∧ ∀ x, x ∈ (take n l).2 ↔ (x < N ∧ f x = true) ∧ x ∉ (take n l).1 := by
  obtain ⟨-, h2, h3, h4, h5⟩ := take_ok n l h
  generalize (take n l).1 = a at *
  generalize (take n l).2 = b at *
  have hnd : (a ++ b).Nodup := h2.nodup_iff.2 hn
  obtain ⟨n1, n2, n3⟩ := List.nodup_append.1 hnd
  have hmem : ∀ x, x ∈ a ∨ x ∈ b ↔ x < N ∧ f x = true := fun x => by rw [← hm, ← h2.mem_iff, List.mem_append]
  have hperm : ((List.range N).filter f).Perm l := by
    refine (List.perm_ext_iff_of_nodup (List.nodup_range.filter _) hn).2 fun x => ?_
    rw [hm, List.mem_filter, List.mem_range]
  refine ⟨?_, fun x => ?_⟩
  · -- both are rising, with nobody else ahead
    have hlt : a.Pairwise (· < ·) := by
      have := h3.and (List.pairwise_iff_getElem.2 (fun i j hi hj hij => (List.pairwise_iff_getElem.1 n1) i j hi hj hij) : a.Pairwise (· ≠ ·))
      exact this.imp fun ⟨p, q⟩ => by omega
    have hR : ((List.range N).filter f).Pairwise (· < ·) := List.pairwise_lt_range.filter _
    have hs : ∃ b' : List Nat, b'.Perm b ∧ b'.Pairwise (· < ·) := by
      refine ⟨(List.range N).filter (fun x => b.contains x), (List.perm_ext_iff_of_nodup (List.nodup_range.filter _) n2).2 fun x => ?_, List.pairwise_lt_range.filter _⟩
      rw [List.mem_filter, List.mem_range]
      constructor
      · rintro ⟨-, h⟩; simpa using h
      · intro h; exact ⟨((hmem x).1 (.inr h)).1, by simpa using h⟩
    obtain ⟨b', hb1, hb2⟩ := hs
    have hab : (a ++ b').Pairwise (· < ·) := List.pairwise_append.2 ⟨hlt, hb2, fun x hx y hy => by
      have := h4 x hx y (hb1.subset hy)
      have := n3 x hx y (hb1.subset hy)
      omega⟩
    have he : a ++ b' = (List.range N).filter f := by
      refine List.Perm.eq_of_pairwise (le := (· < ·)) (fun x y _ _ p q => by omega) hab hR ?_
      exact ((hb1.append_left a).trans h2).trans hperm.symm
    rw [← he]
    have hl := h2.length_eq
    rw [List.length_append] at hl
    by_cases hc : n ≤ l.length
    · rw [List.take_append_of_le_length (by omega), List.take_of_length_le (by omega)]
    · have : b' = [] := by
        apply List.eq_nil_of_length_eq_zero
        rw [hb1.length_eq]
        omega
      rw [this, List.append_nil, List.take_of_length_le (by omega)]
  · constructor
    · intro hx
      exact ⟨(hmem x).1 (.inr hx), fun ha => n3 x ha x hx rfl⟩
    · rintro ⟨h, hna⟩
      exact ((hmem x).2 h).resolve_left hna
end Go.Proofs.YtpimcghmpbbckaaDoor.Hp


namespace Go.Proofs.YtpimcghmpbbckaaDoor
set_option linter.unusedVariables false
set_option linter.unusedSimpArgs false
set_option maxRecDepth 100000
open Go Go.RowKit

/-- 'append(v, x)', the block's number told apart -/
theorem wp_push_at {P : Program} (w : World) {ops : Array Oper} {rest : List Oper} {o : Oper} {a : Act} {Q : Exit → Act → World → Prop} (s x : Operand) (q : Nat) (hq : w.heap.size = q)
    (base t e : TypeId) (z : Value) (size bytes : Nat) (ht : P.underlying t = some (.slice e)) (hinfo : (P.info? e).map (fun i => (i.zero, i.size, i.bytes)) = some (some z, size, bytes)) (hz : z.cells.size = size) (hsz : 0 < size)
    {v : Value} {n : Nat} {xs : List Value} (hown : w.ownsRow base e size v n xs) {c : Nat} (news : List Value) (hlen : news.length = 1 * size) (h1 : ∀ u ∈ news, u.oneCell' = true)
    (h63 : n + 1 ≤ maxLen) (hbytes : (n + 1) * bytes ≤ 140737488355328) (hbase : base ≤ w.heap.size)
    (hgd : o.guard = none) (ho : o.op = .call { callee := .builtin .append, args := #[s, x], argTypes := #[t, t] }) (hs : a.eval s = v) (hx : a.eval x = .slice (some ⟨q, 0, none⟩) 1 c)
    (h : ∀ v' w', w'.ownsRow base e size v' (n + 1) (xs ++ news) → w.grownBy w' v.ownBlock → (v'.ownBlock = v.ownBlock ∨ v'.ownBlock = some (w.heap.size + 1)) → Below base w w' → wpList P ops Q rest (a.put o.dst v') w') : wpList P ops Q (o :: rest) a (w.alloc (.cells news.toArray e)) := by
  subst hq
  exact wp_push w s x base t e z size bytes ht hinfo hz hsz hown news hlen h1 h63 hbytes hbase hgd ho hs hx h

/-- two rows of the call's own, and what was laid beside them since w0 -/
structure Two (w0 : World) (T : Nat → Prop) (B : Nat) (e1 : TypeId) (s1 : Nat) (e2 : TypeId) (s2 : Nat) (L : List (Nat × TypeId × List Value)) (w : World) (v1 : Value) (n1 : Nat) (xs1 : List Value) (v2 : Value) (n2 : Nat) (xs2 : List Value) : Prop where
  r1 : w.ownsRow B e1 s1 v1 n1 xs1
  r2 : w.ownsRow B e2 s2 v2 n2 xs2
  k : Keeps T w0 w
  base : B ≤ w.heap.size
  t1 : ∀ i, v1.ownBlock = some i → i < w0.heap.size → T i
  t2 : ∀ i, v2.ownBlock = some i → i < w0.heap.size → T i
  ap : ∀ i, v1.ownBlock = some i → v2.ownBlock ≠ some i
  src : ∀ p ∈ L, Blk w p.1 p.2.1 p.2.2 ∧ v1.ownBlock ≠ some p.1 ∧ v2.ownBlock ≠ some p.1

section
variable {w0 w : World} {T : Nat → Prop} {B s1 s2 n1 n2 : Nat} {e1 e2 : TypeId} {L : List (Nat × TypeId × List Value)} {v1 v2 : Value} {xs1 xs2 : List Value}

theorem Two.start (h1 : w0.ownsRow B e1 s1 v1 n1 xs1) (h2 : w0.ownsRow B e2 s2 v2 n2 xs2) (hb : B ≤ w0.heap.size) (hap : ∀ i, v1.ownBlock = some i → v2.ownBlock ≠ some i) :
    Two w0 (fun k => v1.ownBlock = some k ∨ v2.ownBlock = some k) B e1 s1 e2 s2 [] w0 v1 n1 xs1 v2 n2 xs2 :=
  ⟨h1, h2, Keeps.refl _ _, hb, fun i h _ => .inl h, fun i h _ => .inr h, hap, fun p h => by cases h⟩
theorem Two.drew (h : Two w0 T B e1 s1 e2 s2 L w v1 n1 xs1 v2 n2 xs2) : Two w0 T B e1 s1 e2 s2 L w.drew v1 n1 xs1 v2 n2 xs2 :=
  ⟨h.r1.drew, h.r2.drew, h.k.drewN 1, h.base, h.t1, h.t2, h.ap, fun p hp => ⟨(h.src p hp).1, (h.src p hp).2⟩⟩
theorem Two.alloc (h : Two w0 T B e1 s1 e2 s2 L w v1 n1 xs1 v2 n2 xs2) (cs : List Value) (t : TypeId) : Two w0 T B e1 s1 e2 s2 ((w.heap.size, t, cs) :: L) (w.alloc (.cells cs.toArray t)) v1 n1 xs1 v2 n2 xs2 := by
  refine ⟨h.r1.alloc _, h.r2.alloc _, h.k.alloc _, by have := h.base; simp; omega, h.t1, h.t2, h.ap, fun p hp => ?_⟩
  rcases List.mem_cons.1 hp with rfl | hp
  · exact ⟨Blk.new w t cs, fun e => by have := (h.r1.lt _ e).2; simp at this, fun e => by have := (h.r2.lt _ e).2; simp at this⟩
  · exact ⟨(h.src p hp).1.alloc _, (h.src p hp).2⟩
theorem Two.swap (h : Two w0 T B e1 s1 e2 s2 L w v1 n1 xs1 v2 n2 xs2) : Two w0 T B e2 s2 e1 s1 L w v2 n2 xs2 v1 n1 xs1 :=
  ⟨h.r2, h.r1, h.k, h.base, h.t2, h.t1, fun i h2 h1 => h.ap i h1 h2, fun p hp => ⟨(h.src p hp).1, (h.src p hp).2.2, (h.src p hp).2.1⟩⟩
theorem Two.cells (h : Two w0 T B e1 s1 e2 s2 L w v1 n1 xs1 v2 n2 xs2) {g : Nat} {t : TypeId} {cs : List Value} (hm : (g, t, cs) ∈ L) : Cells w (g + 1) (some ⟨g, 0, none⟩) cs :=
  ⟨g, 0, fun _ => ⟨rfl, Nat.lt_succ_self g⟩, fun j u hu => by rw [Nat.zero_add, (h.src _ hm).1.cell]; exact hu⟩

/-- an append to the first of them -/
theorem Two.grow (h : Two w0 T B e1 s1 e2 s2 L w v1 n1 xs1 v2 n2 xs2) {w' : World} {v' : Value} {n' : Nat} {xs' : List Value} (h1 : w'.ownsRow B e1 s1 v' n' xs') (hg : w.grownBy w' v1.ownBlock) (hv : v'.ownBlock = v1.ownBlock ∨ v'.ownBlock = some w.heap.size) :
    Two w0 T B e1 s1 e2 s2 L w' v' n' xs' v2 n2 xs2 := by
  have kk := Keeps.of_grown hg
  refine ⟨h1, own_keeps h.r2 kk (fun g e1 e2 => h.ap g e2.symm e1), h.k.step kk (fun i hi e => h.t1 i e.symm hi), Nat.le_trans h.base hg.size, fun i hi hl => ?_, h.t2, fun i hi => ?_, fun p hp => ⟨?_, ?_, (h.src p hp).2.2⟩⟩
  · rcases hv with e | e
    · exact h.t1 i (e ▸ hi) hl
    · rw [e] at hi
      injection hi with hi
      have := h.k.size
      omega
  · rcases hv with e | e
    · exact h.ap i (e ▸ hi)
    · rw [e] at hi
      injection hi with hi
      intro e2
      have := (h.r2.lt i e2).2
      omega
  · exact (h.src p hp).1.keeps kk (fun e => (h.src p hp).2.1 e.symm)
  · rcases hv with e | e
    · rw [e]; exact (h.src p hp).2.1
    · rw [e]
      intro e3
      injection e3 with e3
      have := (h.src p hp).1.lt
      omega

theorem two_append1 {P : Program} {ops : Array Oper} {o : Oper} {a : Act} {K : Act → World → Prop} {Q : Exit → Act → World → Prop} {E : Prop} {s x : Operand} {t : TypeId} (h : Two w0 T B e1 s1 e2 s2 L w v1 n1 xs1 v2 n2 xs2)
    {z : Value} {bytes : Nat} (ht : P.underlying t = some (.slice e1)) (hinfo : (P.info? e1).map (fun i => (i.zero, i.size, i.bytes)) = some (some z, s1, bytes)) (hz : z.cells.size = s1) (hsz : 0 < s1)
    {g : Nat} {news : List Value} {c : Nat} {tt : TypeId} (hm : (g, tt, news) ∈ L) (hlen : news.length = 1 * s1) (h1 : ∀ u ∈ news, u.oneCell' = true)
    (h63 : n1 + 1 ≤ maxLen) (hbytes : (n1 + 1) * bytes ≤ 140737488355328)
    (hgd : Region.wanted o (yielded ops a.tmps) = true) (ho : o.op = .call { callee := .builtin .append, args := #[s, x], argTypes := #[t, t] }) (hs : a.eval s = v1) (hx : a.eval x = .slice (some ⟨g, 0, none⟩) 1 c)
    (hK : ∀ v' w', Two w0 T B e1 s1 e2 s2 L w' v' (n1 + 1) (xs1 ++ news) v2 n2 xs2 → K (a.put o.dst v') w') :
    if Region.wanted o (yielded ops a.tmps) = true then Oper.wp P o a w K Q else E :=
  step_append s x B t e1 z s1 bytes ht hinfo hz hsz h.r1 (h.cells hm) hlen h1 h63 hbytes h.base hgd ho hs hx fun v' w' q1 q2 q3 _ => hK v' w' (h.grow q1 q2 q3)

theorem two_append2 {P : Program} {ops : Array Oper} {o : Oper} {a : Act} {K : Act → World → Prop} {Q : Exit → Act → World → Prop} {E : Prop} {s x : Operand} {t : TypeId} (h : Two w0 T B e1 s1 e2 s2 L w v1 n1 xs1 v2 n2 xs2)
    {z : Value} {bytes : Nat} (ht : P.underlying t = some (.slice e2)) (hinfo : (P.info? e2).map (fun i => (i.zero, i.size, i.bytes)) = some (some z, s2, bytes)) (hz : z.cells.size = s2) (hsz : 0 < s2)
    {g : Nat} {news : List Value} {c : Nat} {tt : TypeId} (hm : (g, tt, news) ∈ L) (hlen : news.length = 1 * s2) (h1 : ∀ u ∈ news, u.oneCell' = true)
    (h63 : n2 + 1 ≤ maxLen) (hbytes : (n2 + 1) * bytes ≤ 140737488355328)
    (hgd : Region.wanted o (yielded ops a.tmps) = true) (ho : o.op = .call { callee := .builtin .append, args := #[s, x], argTypes := #[t, t] }) (hs : a.eval s = v2) (hx : a.eval x = .slice (some ⟨g, 0, none⟩) 1 c)
    (hK : ∀ v' w', Two w0 T B e1 s1 e2 s2 L w' v1 n1 xs1 v' (n2 + 1) (xs2 ++ news) → K (a.put o.dst v') w') :
    if Region.wanted o (yielded ops a.tmps) = true then Oper.wp P o a w K Q else E :=
  two_append1 h.swap ht hinfo hz hsz hm hlen h1 h63 hbytes hgd ho hs hx fun v' w' q => hK v' w' q.swap

theorem twl_append1 {P : Program} {ops : Array Oper} {rest : List Oper} {o : Oper} {a : Act} {Q : Exit → Act → World → Prop} {s x : Operand} {t : TypeId} (h : Two w0 T B e1 s1 e2 s2 L w v1 n1 xs1 v2 n2 xs2)
    {z : Value} {bytes : Nat} (ht : P.underlying t = some (.slice e1)) (hinfo : (P.info? e1).map (fun i => (i.zero, i.size, i.bytes)) = some (some z, s1, bytes)) (hz : z.cells.size = s1) (hsz : 0 < s1)
    {g : Nat} {news : List Value} {c : Nat} {tt : TypeId} (hm : (g, tt, news) ∈ L) (hlen : news.length = 1 * s1) (h1 : ∀ u ∈ news, u.oneCell' = true)
    (h63 : n1 + 1 ≤ maxLen) (hbytes : (n1 + 1) * bytes ≤ 140737488355328)
    (hgd : o.guard = none) (ho : o.op = .call { callee := .builtin .append, args := #[s, x], argTypes := #[t, t] }) (hs : a.eval s = v1) (hx : a.eval x = .slice (some ⟨g, 0, none⟩) 1 c)
    (hK : ∀ v' w', Two w0 T B e1 s1 e2 s2 L w' v' (n1 + 1) (xs1 ++ news) v2 n2 xs2 → wpList P ops Q rest (a.put o.dst v') w') : wpList P ops Q (o :: rest) a w :=
  wp_append w s x B t e1 z s1 bytes ht hinfo hz hsz h.r1 (h.cells hm) hlen h1 h63 hbytes h.base hgd ho hs hx fun v' w' q1 q2 q3 _ => hK v' w' (h.grow q1 q2 q3)

theorem twl_append2 {P : Program} {ops : Array Oper} {rest : List Oper} {o : Oper} {a : Act} {Q : Exit → Act → World → Prop} {s x : Operand} {t : TypeId} (h : Two w0 T B e1 s1 e2 s2 L w v1 n1 xs1 v2 n2 xs2)
    {z : Value} {bytes : Nat} (ht : P.underlying t = some (.slice e2)) (hinfo : (P.info? e2).map (fun i => (i.zero, i.size, i.bytes)) = some (some z, s2, bytes)) (hz : z.cells.size = s2) (hsz : 0 < s2)
    {g : Nat} {news : List Value} {c : Nat} {tt : TypeId} (hm : (g, tt, news) ∈ L) (hlen : news.length = 1 * s2) (h1 : ∀ u ∈ news, u.oneCell' = true)
    (h63 : n2 + 1 ≤ maxLen) (hbytes : (n2 + 1) * bytes ≤ 140737488355328)
    (hgd : o.guard = none) (ho : o.op = .call { callee := .builtin .append, args := #[s, x], argTypes := #[t, t] }) (hs : a.eval s = v2) (hx : a.eval x = .slice (some ⟨g, 0, none⟩) 1 c)
    (hK : ∀ v' w', Two w0 T B e1 s1 e2 s2 L w' v1 n1 xs1 v' (n2 + 1) (xs2 ++ news) → wpList P ops Q rest (a.put o.dst v') w') : wpList P ops Q (o :: rest) a w :=
  twl_append1 h.swap ht hinfo hz hsz hm hlen h1 h63 hbytes hgd ho hs hx fun v' w' q => hK v' w' q.swap
end
end Go.Proofs.YtpimcghmpbbckaaDoor
