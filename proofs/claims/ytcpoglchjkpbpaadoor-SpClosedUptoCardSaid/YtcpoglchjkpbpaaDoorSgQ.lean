/-
  The graph of a term does not go round, and it is closed; it has as many nodes as the term has leaves. On condition that what is read is of bulk at most 1048576; the table of math/bits is as its initialiser lays it (tied to the program's text).
-/
import Derived.Test.YtcpoglchjkpbpaaDoorGrY
import Derived.Test.YtcpoglchjkpbpaaDoorSpX
import Derived.Test.YtcpoglchjkpbpaaDoorGrX
import Derived.Test.YtcpoglchjkpbpaaDoorGcQ
import Derived.Test.YtcpoglchjkpbpaaDoorTabEnd

namespace Go.Proofs.YtcpoglchjkpbpaaDoor.Gr
set_option linter.unusedVariables false
set_option linter.unusedSimpArgs false
set_option maxRecDepth 100000
open Bs

/-- all that node i leads to, of the first j behind it -/
def rowJ (f : Nat → Nat) (i j : Nat) : List Ed := ((List.range j).filter fun m => decide (f i < f (i + 1 + m))).map fun m => (i, i + 1 + m)
def gEk (f : Nat → Nat) (n k : Nat) : List Ed := (List.range k).flatMap fun i => rowJ f i (n - (i + 1))
def gE (f : Nat → Nat) (n : Nat) : List Ed := gEk f n n
theorem rowJ_zero (f : Nat → Nat) (i : Nat) : rowJ f i 0 = [] := rfl
theorem rowJ_yes {f : Nat → Nat} {i j : Nat} (h : f i < f (i + 1 + j)) : rowJ f i (j + 1) = rowJ f i j ++ [(i, i + 1 + j)] := by
  unfold rowJ
  rw [List.range_succ, List.filter_append, List.map_append]
  simp [h]
theorem rowJ_no {f : Nat → Nat} {i j : Nat} (h : ¬ f i < f (i + 1 + j)) : rowJ f i (j + 1) = rowJ f i j := by
  unfold rowJ
  rw [List.range_succ, List.filter_append, List.map_append]
  simp [h]
theorem gEk_zero (f : Nat → Nat) (n : Nat) : gEk f n 0 = [] := rfl
theorem gEk_succ (f : Nat → Nat) (n k : Nat) : gEk f n (k + 1) = gEk f n k ++ rowJ f k (n - (k + 1)) := by
  unfold gEk
  rw [List.range_succ, List.flatMap_append]
  simp
theorem rowJ_len (f : Nat → Nat) (i j : Nat) : (rowJ f i j).length ≤ j := by
  unfold rowJ
  rw [List.length_map]
  exact Nat.le_trans (List.length_filter_le _ _) (by simp)
theorem gEk_len (f : Nat → Nat) (n : Nat) : ∀ k, (gEk f n k).length ≤ k * n
  | 0 => by simp [gEk]
  | k + 1 => by
    rw [gEk_succ, List.length_append, Nat.add_mul, Nat.one_mul]
    exact Nat.add_le_add (gEk_len f n k) (Nat.le_trans (rowJ_len f k _) (by omega))
theorem rowJ_mem {f : Nat → Nat} {i j : Nat} {e : Ed} : e ∈ rowJ f i j ↔ e.1 = i ∧ i < e.2 ∧ e.2 < i + 1 + j ∧ f i < f e.2 := by
  unfold rowJ
  rw [List.mem_map]
  constructor
  · rintro ⟨m, hm, rfl⟩
    rw [List.mem_filter, List.mem_range, decide_eq_true_eq] at hm
    exact ⟨rfl, by show i < i + 1 + m; omega, by show i + 1 + m < _; omega, hm.2⟩
  · rintro ⟨h1, h2, h3, h4⟩
    refine ⟨e.2 - (i + 1), ?_, ?_⟩
    · rw [List.mem_filter, List.mem_range, decide_eq_true_eq, show i + 1 + (e.2 - (i + 1)) = e.2 by omega]
      exact ⟨by omega, h4⟩
    · rw [← h1, show e.1 + 1 + (e.2 - (e.1 + 1)) = e.2 by omega]
theorem gE_mem {f : Nat → Nat} {n : Nat} {e : Ed} : e ∈ gE f n ↔ e.1 < e.2 ∧ e.2 < n ∧ f e.1 < f e.2 := by
  unfold gE gEk
  rw [List.mem_flatMap]
  constructor
  · rintro ⟨i, hi, he⟩
    have := List.mem_range.1 hi
    obtain ⟨h1, h2, h3, h4⟩ := rowJ_mem.1 he
    rw [h1]
    exact ⟨h2, by omega, h4⟩
  · rintro ⟨h1, h2, h3⟩
    exact ⟨e.1, List.mem_range.2 (by omega), rowJ_mem.2 ⟨rfl, h1, by omega, h3⟩⟩
theorem gE_lt {f : Nat → Nat} {n : Nat} : ∀ e ∈ gE f n, e.1 < n ∧ e.2 < n := fun e he => by
  obtain ⟨h1, h2, -⟩ := gE_mem.1 he
  exact ⟨by omega, h2⟩
/-- where every edge goes up, all can be taken -/
theorem full_up {N : Nat} {es : List Ed} (h : ∀ e ∈ es, e.1 < e.2 ∧ e.2 < N) : (take N es).length = N := by
  have hg := good_take N es
  have hst := take_stop N es
  have key : ∀ m, m < N → m ∈ take N es := by
    intro m
    induction m using Nat.strongRecOn with
    | _ m ih =>
      intro hm
      by_cases hc : m ∈ take N es
      · exact hc
      · exfalso
        have hr := nxt_none hst m hm
        have : ¬ rdy es (take N es) m = true := by rw [hr]; simp
        rw [rdy_iff] at this
        apply this
        refine ⟨hc, fun e he em => ?_⟩
        have := h e he
        exact ih e.1 (by omega) (by omega)
  have h1 := (List.nodup_range (n := N)).length_le_of_subset (l₂ := take N es) (fun m hm => key m (List.mem_range.1 hm))
  have h2 := hg.length
  rw [List.length_range] at h1
  omega
theorem gE_full (f : Nat → Nat) (n : Nat) : (take n (gE f n)).length = n := full_up fun e he => by
  obtain ⟨h1, h2, -⟩ := gE_mem.1 he
  exact ⟨h1, h2⟩
theorem gE_way {f : Nat → Nat} {n a b : Nat} (h : Way (gE f n) a b) : (a, b) ∈ gE f n := by
  induction h with
  | one h => exact h
  | on he _ ih =>
    obtain ⟨h1, h2, h3⟩ := gE_mem.1 he
    obtain ⟨k1, k2, k3⟩ := gE_mem.1 ih
    simp only at h1 h2 h3 k1 k2 k3
    exact gE_mem.2 ⟨by simp only; omega, k2, by simp only; omega⟩
/-- two lists that go up and have the same numbers -/
theorem rise_ext : ∀ {l m : List Nat}, l.Pairwise (· < ·) → m.Pairwise (· < ·) → (∀ x, x ∈ l ↔ x ∈ m) → l = m
  | [], [], _, _, _ => rfl
  | [], y :: m, _, _, h => by have := (h y).2 List.mem_cons_self; cases this
  | x :: l, [], _, _, h => by have := (h x).1 List.mem_cons_self; cases this
  | x :: l, y :: m, hl, hm, h => by
    have hl' := List.pairwise_cons.1 hl
    have hm' := List.pairwise_cons.1 hm
    have e : x = y := by
      rcases List.mem_cons.1 ((h x).1 List.mem_cons_self) with e | hx
      · exact e
      · rcases List.mem_cons.1 ((h y).2 List.mem_cons_self) with e | hy
        · exact e.symm
        · have := hm'.1 x hx
          have := hl'.1 y hy
          omega
    subst e
    congr 1
    refine rise_ext hl'.2 hm'.2 fun z => ⟨fun hz => ?_, fun hz => ?_⟩
    · rcases List.mem_cons.1 ((h z).1 (List.mem_cons_of_mem _ hz)) with e | h1
      · have := hl'.1 z hz; omega
      · exact h1
    · rcases List.mem_cons.1 ((h z).2 (List.mem_cons_of_mem _ hz)) with e | h1
      · have := hm'.1 z hz; omega
      · exact h1
/-- the closure has no edge more -/
theorem gE_closed (f : Nat → Nat) (n : Nat) : edW (behW n (gE f n)) = gE f n := by
  have hl := gE_full f n
  have hes := gE_lt (f := f) (n := n)
  have hbg := beh_gs hl hes
  unfold edW
  rw [behW_length]
  unfold gE gEk edk
  rw [List.flatMap_def, List.flatMap_def]
  congr 1
  refine List.map_congr_left fun i hi => ?_
  have hi := List.mem_range.1 hi
  have key : ls 0 ((behW n (gE f n)).getD i []) = ((List.range (n - (i + 1))).filter fun m => decide (f i < f (i + 1 + m))).map fun m => i + 1 + m := by
    refine rise_ext (ls_rise _ _ (getD_gs hbg i).ws) ?_ fun x => ?_
    · exact List.pairwise_map.2 (((List.pairwise_lt_range (n := n - (i + 1))).filter _).imp fun h => by omega)
    · rw [mem_list (getD_gs hbg i).ws, beh_bit hl hes hi]
      constructor
      · intro h
        obtain ⟨h1, h2, h3⟩ := gE_mem.1 (gE_way h)
        simp only at h1 h2 h3
        refine List.mem_map.2 ⟨x - (i + 1), ?_, by omega⟩
        rw [List.mem_filter, List.mem_range, decide_eq_true_eq, show i + 1 + (x - (i + 1)) = x by omega]
        exact ⟨by omega, h3⟩
      · intro h
        obtain ⟨m, hm, rfl⟩ := List.mem_map.1 h
        rw [List.mem_filter, List.mem_range, decide_eq_true_eq] at hm
        exact .one (gE_mem.2 ⟨by simp only; omega, by simp only; omega, hm.2⟩)
  have e : behW n (gEk f n n) = behW n (gE f n) := rfl
  show (ls 0 ((behW n (gE f n)).getD i [])).map _ = _
  rw [key, List.map_map]
  rfl
end Go.Proofs.YtcpoglchjkpbpaaDoor.Gr


namespace Go.Proofs.YtcpoglchjkpbpaaDoor
set_option linter.unusedVariables false
set_option linter.unusedSimpArgs false
set_option maxRecDepth 100000
open Go.RowKit

def gRow (v : Value) (es : List Gr.Ed) : List Rw := [⟨34, 2, v, es.length, edcs es⟩]
theorem info_edge3 : (Tryd.prog.info? 34).map (fun i => (i.zero, i.size, i.bytes)) = some (some (.agg #[.int .i64 0, .int .i64 0]), 2, 16) := by kernel_rfl

set_option maxRecDepth 100000 in
set_option maxHeartbeats 4000000 in
theorem spgraph_yes (w : World) (cs : List Value) (t : Sp.T) (hT : TmR w.heap.size w cs t) (hn : t.size ≤ 200) :
    Calls Tryd.prog 25 #[.agg cs.toArray] w fun e w' => ∃ A c, e = .returned (.tuple #[.agg #[.int .i64 (t.size : Int), .slice A (Gr.gE t.rk t.size).length c], .int .i64 0]) ∧ SlV w' 2 (.slice A (Gr.gE t.rk t.size).length c) (Gr.gE t.rk t.size).length (edcs (Gr.gE t.rk t.size)) ∧ Below w.heap.size w w' := by
  obtain ⟨a0, a1, a2, a3, A4, a5, a6, rfl, -, -⟩ := hT.form
  unfold tcells at hT ⊢
  have hba : Below w.heap.size w ((w.alloc (.cells #[.int .i64 a0, .int .i64 a1, .bool a2, .int .i64 a3, .slice A4 a5 a6] 55)).alloc (.cells #[.int .i64 0, .slice none 0 0] 24)) := below_alloc (below_alloc (Below.refl _ _) _) _
  have x0 := (Blk.new w 55 [.int .i64 a0, .int .i64 a1, .bool a2, .int .i64 a3, .slice A4 a5 a6]).alloc (.cells #[.int .i64 0, .slice none 0 0] 24)
  have y0 := Blk.new (w.alloc (.cells #[.int .i64 a0, .int .i64 a1, .bool a2, .int .i64 a3, .slice A4 a5 a6] 55)) 24 [.int .i64 0, .slice none 0 0]
  simp only [World.size_alloc] at y0
  obtain ⟨n, hnt⟩ : ∃ n, n = t.size := ⟨_, rfl⟩
  have hm := fun w' (hb : Below w.heap.size w w') => marks_any w' _ t (tm_up (hT.later hb) hb.size) (by omega)
  rw [← hnt] at hn hm ⊢
  have HN := Lib.hid hnt
  clear hT hnt
  go_enter Tryd.func25, Tryd.ntmps25
  go_upto_region 1 with (fail)
  generalize (w.alloc (.cells #[.int .i64 a0, .int .i64 a1, .bool a2, .int .i64 a3, .slice A4 a5 a6] 55)).alloc (.cells #[.int .i64 0, .slice none 0 0] 24) = W0 at x0 y0 hba ⊢
  have d0 : W0.cell? ⟨w.heap.size, 0, none⟩ = some (.int .i64 a0) := (x0.cell 0).trans rfl
  have d1 : W0.cell? ⟨w.heap.size, 1, none⟩ = some (.int .i64 a1) := (x0.cell 1).trans rfl
  have d2 : W0.cell? ⟨w.heap.size, 2, none⟩ = some (.bool a2) := (x0.cell 2).trans rfl
  have d3 : W0.cell? ⟨w.heap.size, 3, none⟩ = some (.int .i64 a3) := (x0.cell 3).trans rfl
  have d4 : W0.cell? ⟨w.heap.size, 4, none⟩ = some (.slice A4 a5 a6) := (x0.cell 4).trans rfl
  go_wp2_with fail
  refine (hm W0 hba).mono ?_
  rintro e w1 ⟨h, rfl, hB1, hh, hb1⟩
  have y1 := y0.below hb1
  have hb01 := below_next hb1 hba
  clear d0 d1 d2 d3 d4 x0 y0 hm hb1 hba
  have hg200 : decide ((200 : Int) < (n : Int)) = false := by simp; omega
  have p5 := Blk.new w1 24 [.int .i64 (n : Int), .slice none 0 0]
  have hb5 : Below w1.heap.size w1 (w1.alloc (.cells #[.int .i64 (n : Int), .slice none 0 0] 24)) := below_alloc (Below.refl _ _) _
  go_upto_region 5 with (fail)
  obtain ⟨pg, hpg⟩ : ∃ p, p = w1.heap.size := ⟨_, rfl⟩
  simp only [← hpg] at p5 ⊢
  generalize w1.alloc (.cells #[.int .i64 (n : Int), .slice none 0 0] 24) = w2 at p5 hb5 ⊢
  have y2 := y1.below hb5
  have hB2 := hB1.below hb5
  have hb02 := below_next hb5 hb01
  have hp2 := p5.lt
  have hhp : h < pg := by have := hB1.lt; omega
  have hy1 : w.heap.size + 1 < w1.heap.size := y1.lt
  have hO : Own (w.heap.size + 2) w2 pg 24 [.int .i64 (n : Int), .slice none 0 0] (gRow (.slice none 0 0) []) := by
    refine ⟨p5, fun r hr => ?_, fun i j r s hi hj hij => ?_, fun r hr => ?_, by omega, by omega⟩
    · rw [List.mem_singleton.1 hr]; exact World.ownsRow_nil _ _ _ _
    · intro k hk
      have := List.mem_of_getElem? hi
      rw [List.mem_singleton.1 this] at hk
      simp [Value.ownBlock] at hk
    · rw [List.mem_singleton.1 hr]; simp [Value.ownBlock]
  have hOT := OwnTo.start hO
  obtain ⟨T0, hT0⟩ : ∃ T, T = Tw pg (gRow (.slice none 0 0) []) := ⟨_, rfl⟩
  have hTe : Hid (∀ k, T0 k → k = pg) := Lib.hid fun k hk => by
    rw [hT0] at hk
    rcases hk with rfl | ⟨r, hr, hk⟩
    · rfl
    · rw [List.mem_singleton.1 hr] at hk; simp [Value.ownBlock] at hk
  rw [← hT0] at hOT
  have HB := Lib.hid (And.intro y2 (And.intro hB2 hb02))
  have HPG := Lib.hid (And.intro hpg (And.intro hhp hy1))
  clear hT0 hO hg200 y1 hB1 hb01 hb5 hp2 hh y2 hB2 hb02 p5 hpg hhp hy1
  go_wp2_with fail
  go_loopw [21] (fun i wr => ∃ (k : Nat) (v : Value), k ≤ n ∧ i = .int .i64 (k : Int) ∧ OwnTo (w.heap.size + 2) w2 T0 wr pg 24 [.int .i64 (n : Int), v] (gRow v (Gr.gEk t.rk n k))) (fun i _ => n - (intOf i).toNat)
  case atStart => exact ⟨0, _, Nat.zero_le _, rfl, hOT⟩
  case round =>
    obtain ⟨k, v, hk, rfl, hOk⟩ := hrel
    by_cases hlt : k < n
    · have hBr := HB.out.2.1.keeps hOk.kp (fun e => by have := hTe.out _ e; have := HPG.out.2.1; omega)
      have hgk := Sp.T.marks_get t 0 0 k (by rw [← HN.out]; exact hlt)
      rw [Nat.zero_add, Nat.zero_add] at hgk
      obtain ⟨c0, c1⟩ := Sp.prcs_get _ _ _ hgk
      have d0 : wr.cell? ⟨h, k * 2, none⟩ = some (.int .i64 (k : Int)) := (hBr.cell _).trans c0
      have d1 : wr.cell? ⟨h, k * 2 + 1, none⟩ = some (.int .i64 (t.rk k : Int)) := (hBr.cell _).trans c1
      obtain ⟨F, hF⟩ : ∃ F, F = t.rk := ⟨_, rfl⟩
      rw [← hF] at d1 hOk
      have HF := Lib.hid hF
      have pa := Blk.new wr 97 [.int .i64 (k : Int), .int .i64 (F k : Int)]
      have hO3 := hOk.later (below_alloc (Below.refl _ _) (.cells #[.int .i64 (k : Int), .int .i64 (F k : Int)] 97))
      obtain ⟨AA, hAA, hAr⟩ : ∃ a : Addr, (if n = k + 1 then (some ⟨h, 0, none⟩ : Option Addr) else some ⟨h, (k + 1) * 2, none⟩) = some a ∧ Hid (k + 1 < n → a = ⟨h, (k + 1) * 2, none⟩) := by
        by_cases e : n = k + 1
        · exact ⟨⟨h, 0, none⟩, by simp [e], Lib.hid fun h => by omega⟩
        · exact ⟨⟨h, (k + 1) * 2, none⟩, by simp [e], Lib.hid fun _ => rfl⟩
      clear hOk hgk c0 c1 hF hBr hOT
      have hk1 : k + 1 ≤ n := hlt
      go_upto_region 8 with (fail)
      obtain ⟨qa, hqa⟩ : ∃ q, q = wr.heap.size := ⟨_, rfl⟩
      rw [← hqa] at pa ⊢
      generalize wr.alloc (.cells #[.int .i64 (k : Int), .int .i64 (F k : Int)] 97) = w3 at pa hO3 ⊢
      clear d0 d1 hqa
      go_wp2_with fail
      clear hAA
      go_loopw [31] (fun i wr => ∃ (j : Nat) (v : Value), j ≤ n - (k + 1) ∧ i = .int .i64 (j : Int) ∧ OwnTo (w.heap.size + 2) w2 T0 wr pg 24 [.int .i64 (n : Int), v] (gRow v (Gr.gEk F n k ++ Gr.rowJ F k j)) ∧ Blk wr qa 97 [.int .i64 (k : Int), .int .i64 (F k : Int)]) (fun i _ => n - (intOf i).toNat)
      case atStart => exact ⟨0, v, Nat.zero_le _, rfl, by rw [Gr.rowJ_zero, List.append_nil]; exact hO3, pa⟩
      case round =>
        clear hO3 pa
        obtain ⟨j, v, hj, rfl, hOj, pa⟩ := hrel
        by_cases hjl : j < n - (k + 1)
        · obtain rfl := hAr.out (by omega)
          have hBr := HB.out.2.1.keeps hOj.kp (fun e => by have := hTe.out _ e; have := HPG.out.2.1; omega)
          obtain ⟨m, hm⟩ : ∃ m, m = k + 1 + j := ⟨_, rfl⟩
          have hgk := Sp.T.marks_get t 0 0 m (by rw [← HN.out]; omega)
          rw [Nat.zero_add, Nat.zero_add, ← HF.out] at hgk
          obtain ⟨c0, c1⟩ := Sp.prcs_get _ _ _ hgk
          have d0 : wr.cell? ⟨h, (k + 1) * 2 + j * 2, none⟩ = some (.int .i64 (m : Int)) := by rw [show (k + 1) * 2 + j * 2 = m * 2 by omega]; exact (hBr.cell _).trans c0
          have d1 : wr.cell? ⟨h, (k + 1) * 2 + j * 2 + 1, none⟩ = some (.int .i64 (F m : Int)) := by rw [show (k + 1) * 2 + j * 2 + 1 = m * 2 + 1 by omega]; exact (hBr.cell _).trans c1
          have pb := Blk.new wr 97 [.int .i64 (m : Int), .int .i64 (F m : Int)]
          have hO4 := hOj.later (below_alloc (Below.refl _ _) (.cells #[.int .i64 (m : Int), .int .i64 (F m : Int)] 97))
          have pa4 := pa.alloc (.cells #[.int .i64 (m : Int), .int .i64 (F m : Int)] 97)
          have HM := Lib.hid hm
          clear hOj hgk c0 c1 hBr pa hm
          go_upto_region 11 with (fail)
          obtain ⟨qb, hqb⟩ : ∃ q, q = wr.heap.size := ⟨_, rfl⟩
          rw [← hqb] at pb ⊢
          generalize wr.alloc (.cells #[.int .i64 (m : Int), .int .i64 (F m : Int)] 97) = w5 at pb hO4 pa4 ⊢
          clear d0 d1 hqb
          have e0 : w5.cell? ⟨qa, 1, none⟩ = some (.int .i64 (F k : Int)) := (pa4.cell 1).trans rfl
          have e1 : w5.cell? ⟨qb, 1, none⟩ = some (.int .i64 (F m : Int)) := (pb.cell 1).trans rfl
          clear pb
          by_cases hc : F k < F m
          · have hcb : decide ((F k : Int) < (F m : Int)) = true := by simpa using hc
            have hy := Gr.rowJ_yes (f := F) (i := k) (j := j) (by rw [← HM.out]; exact hc)
            have hrow : w5.ownsRow (w.heap.size + 2) 34 2 v (Gr.gEk F n k ++ Gr.rowJ F k j).length (edcs (Gr.gEk F n k ++ Gr.rowJ F k j)) := hO4.own.row 0 rfl
            obtain ⟨VA, vc, rfl, -, -⟩ := own_slice hrow
            have hbp := hO4.own.blk
            have f1 : w5.cell? ⟨pg, 1, none⟩ = some (.slice VA (Gr.gEk F n k ++ Gr.rowJ F k j).length vc) := (hbp.cell 1).trans rfl
            have hlen : (Gr.gEk F n k ++ Gr.rowJ F k j).length ≤ 80000 := by
              rw [List.length_append]
              have := Gr.gEk_len F n k
              have := Gr.rowJ_len F k j
              have := Nat.mul_le_mul (show k ≤ 200 by omega) hn
              omega
            obtain ⟨es, hes⟩ : ∃ es, es = Gr.gEk F n k ++ Gr.rowJ F k j := ⟨_, rfl⟩
            rw [← hes] at hrow hbp f1 hlen hO4
            have hy' : edcs (Gr.gEk F n k ++ Gr.rowJ F k (j + 1)) = edcs es ++ [.int .i64 (k : Int), .int .i64 ((k : Int) + 1 + (j : Int))] ∧ (Gr.gEk F n k ++ Gr.rowJ F k (j + 1)).length = es.length + 1 := by
              rw [hy, ← List.append_assoc, ← hes, List.length_append]
              refine ⟨?_, rfl⟩
              simp only [edcs, List.flatMap_append, List.flatMap_cons, List.flatMap_nil, List.append_nil, edc]
              congr 4
            have HES := Lib.hid (And.intro hes (And.intro hy' hO4))
            have n63 : es.length + 1 ≤ maxLen := by unfold maxLen; omega
            have n47 : (es.length + 1) * 16 ≤ 140737488355328 := by omega
            have hbase := hO4.own.base
            have hvne : (Value.slice VA es.length vc).ownBlock ≠ some pg := hO4.own.ng _ (List.mem_singleton.2 rfl)
            clear hes hy hy' hO4 hlen
            go_wp2_with (first | (at_builtin; go_loud (refine wp_push w5 _ _ _ _ _ _ _ _ Tryd.underlying22 info_edge3 rfl (by decide) hrow [.int .i64 (k : Int), .int .i64 ((k : Int) + 1 + (j : Int))] rfl (by simp [Value.oneCell']) n63 n47 hbase rfl rfl rfl rfl ?_); intro v' w6 hown' hgrow hnew _; have hbp6 := hbp.grown hgrow (fun e => hvne e.symm); obtain ⟨A', c', rfl, hle', hm'⟩ := own_slice hown'; have g1 := hbp6.cell 1; have fz := hbp6.frozen 1; simp only [List.getElem?_cons_zero, List.getElem?_cons_succ] at g1) | fail)
            have hput : OwnTo (w.heap.size + 2) w2 T0 (w6.setCell ⟨pg, 1, none⟩ (.slice A' (es.length + 1) c')) pg 24 [.int .i64 (n : Int), .slice A' (es.length + 1) c'] (gRow (.slice A' (es.length + 1) c') (Gr.gEk F n k ++ Gr.rowJ F k (j + 1))) := by
              have h1 : w6.ownsRow (w.heap.size + 2) 34 2 (.slice A' (es.length + 1) c') (Gr.gEk F n k ++ Gr.rowJ F k (j + 1)).length (edcs (Gr.gEk F n k ++ Gr.rowJ F k (j + 1))) := by
                rw [HES.out.2.1.1, HES.out.2.1.2]; exact hown'
              have h2 := HES.out.2.2.step (HES.out.2.2.own.put_to (i := 0) rfl (v' := .slice A' (es.length + 1) c') h1 hgrow (hnew.imp id fun e => ⟨_, by simp, e⟩) (hbp6.set_ 1 (.slice A' (es.length + 1) c')) (grown_setCell w6 pg 1 _))
              exact h2
            have hqn : Blk (w6.setCell ⟨pg, 1, none⟩ (.slice A' (es.length + 1) c')) qa 97 [.int .i64 (k : Int), .int .i64 (F k : Int)] := by
              have h1 := pa4.grown hgrow (fun e => own_blk_ne hrow pa4 (by decide) e.symm)
              refine h1.far (fun e => ?_) _
              have e' : qa = pg := e
              rw [e'] at h1
              have h2 : Blk w6 pg 24 _ := hbp6
              unfold Blk at h1 h2
              rw [h1] at h2
              injection h2 with h2
              injection h2 with _ h2
              revert h2
              decide
            have HO := Lib.hid (And.intro hput hqn)
            clear hput hqn hown' hgrow hnew hbp6 hbp hrow g1 fz
            go_roundw
            case rel => exact ⟨j + 1, _, by omega, by go_num, HO.out.1, HO.out.2⟩
            case measure => simp [intOf]; omega
          · have hcb : decide (F k < F m) = false := by simpa using hc
            have hy := Gr.rowJ_no (f := F) (i := k) (j := j) (by rw [← HM.out]; exact hc)
            rw [← hy] at hO4
            have HO := Lib.hid (And.intro hO4 pa4)
            clear hO4 pa4 hy hc
            go_wp2_with fail
            go_roundw
            case rel => exact ⟨j + 1, v, by omega, by go_num, HO.out.1, HO.out.2⟩
            case measure => simp [intOf]; omega
        · obtain rfl : j = n - (k + 1) := by omega
          rw [← Gr.gEk_succ] at hOj
          have HO := Lib.hid hOj
          clear hOj pa
          rw [HF.out] at HO
          go_wp2_with fail
          go_roundw
          case rel => exact ⟨k + 1, v, by omega, by go_num, HO.out⟩
          case measure => simp [intOf]; omega
    · obtain rfl : k = n := by omega
      have hrow : wr.ownsRow (w.heap.size + 2) 34 2 v (Gr.gEk t.rk k k).length (edcs (Gr.gEk t.rk k k)) := hOk.own.row 0 rfl
      obtain ⟨VA, vc, rfl, -, -⟩ := own_slice hrow
      have c0 : wr.cell? ⟨pg, 0, none⟩ = some (.int .i64 (k : Int)) := (hOk.own.blk.cell 0).trans rfl
      have c1 : wr.cell? ⟨pg, 1, none⟩ = some (.slice VA (Gr.gEk t.rk k k).length vc) := (hOk.own.blk.cell 1).trans rfl
      have yB := HB.out.1.keeps hOk.kp (fun e => by have := hTe.out _ e; have := HPG.out; omega)
      have hbw : Below w.heap.size w wr := HB.out.2.2.trans (hOk.kp.below HB.out.2.2.size (fun i hi => by have := hTe.out _ hi; have := HPG.out; omega))
      obtain ⟨ln, hln⟩ : ∃ l, l = (Gr.gEk t.rk k k).length := ⟨_, rfl⟩
      rw [← hln] at hrow c1
      have HX := Lib.hid (And.intro hrow (And.intro hbw hln))
      have hlq : w.heap.size + 1 < wr.heap.size := yB.lt
      clear hrow hbw hln hOk hOT
      go_wp2_with (refine wpl_put_blk yB [.int .i64 (k : Int), .slice VA ln vc] (by kernel_rfl) rfl (by intro v hv; simp at hv; rcases hv with rfl | rfl <;> rfl) rfl rfl rfl rfl ?_; intro w6 hB6 hg6)
      have hb6 := HX.out.2.1.trans (below_of_grown hg6 HX.out.2.1.size (by omega))
      have s6 := SlV.of_own (own_keeps HX.out.1 (Keeps.of_grown hg6) (fun i hi e => own_blk_ne HX.out.1 yB (by decide) (by rw [hi]; exact e)))
      have e := HX.out.2.2
      subst e
      refine ret_blk2 hB6 rfl rfl Tryd.underlying24 rfl (by kernel_rfl) rfl ?_
      exact ⟨VA, vc, rfl, s6, hb6⟩
end Go.Proofs.YtcpoglchjkpbpaaDoor


namespace Go.Proofs.YtcpoglchjkpbpaaDoor
set_option linter.unusedVariables false
set_option linter.unusedSimpArgs false
set_option maxRecDepth 100000
open Go.ChangeShapes Go.WideShapes Go.ChangeAt Go.RowKit
set_option linter.unusedVariables false

set_option maxRecDepth 100000 in
set_option maxHeartbeats 4000000 in
theorem spgraph_no (w : World) (cs : List Value) (t : Sp.T) (hT : TmR w.heap.size w cs t) (hn : t.size ≤ 4194304) (hbig : 200 < t.size) :
    Calls Tryd.prog 25 #[.agg cs.toArray] w fun e w' => e = .returned (.tuple #[.agg #[.int .i64 0, .slice none 0 0], .int .i64 2]) ∧ Below w.heap.size w w' := by
  obtain ⟨a0, a1, a2, a3, A4, a5, a6, rfl, -, -⟩ := hT.form
  unfold tcells at hT ⊢
  have hba : Below w.heap.size w ((w.alloc (.cells #[.int .i64 a0, .int .i64 a1, .bool a2, .int .i64 a3, .slice A4 a5 a6] 55)).alloc (.cells #[.int .i64 0, .slice none 0 0] 24)) := below_alloc (below_alloc (Below.refl _ _) _) _
  have x0 := (Blk.new w 55 [.int .i64 a0, .int .i64 a1, .bool a2, .int .i64 a3, .slice A4 a5 a6]).alloc (.cells #[.int .i64 0, .slice none 0 0] 24)
  have y0 := Blk.new (w.alloc (.cells #[.int .i64 a0, .int .i64 a1, .bool a2, .int .i64 a3, .slice A4 a5 a6] 55)) 24 [.int .i64 0, .slice none 0 0]
  simp only [World.size_alloc] at y0
  have hm := fun w' (hb : Below w.heap.size w w') => marks_any w' _ t (tm_up (hT.later hb) hb.size) hn
  obtain ⟨n, hnt⟩ : ∃ n, n = t.size := ⟨_, rfl⟩
  rw [← hnt] at hm hbig
  clear hT hnt
  go_enter Tryd.func25, Tryd.ntmps25
  go_upto_region 1 with (fail)
  generalize (w.alloc (.cells #[.int .i64 a0, .int .i64 a1, .bool a2, .int .i64 a3, .slice A4 a5 a6] 55)).alloc (.cells #[.int .i64 0, .slice none 0 0] 24) = W0 at x0 y0 hba ⊢
  have d0 : W0.cell? ⟨w.heap.size, 0, none⟩ = some (.int .i64 a0) := (x0.cell 0).trans rfl
  have d1 : W0.cell? ⟨w.heap.size, 1, none⟩ = some (.int .i64 a1) := (x0.cell 1).trans rfl
  have d2 : W0.cell? ⟨w.heap.size, 2, none⟩ = some (.bool a2) := (x0.cell 2).trans rfl
  have d3 : W0.cell? ⟨w.heap.size, 3, none⟩ = some (.int .i64 a3) := (x0.cell 3).trans rfl
  have d4 : W0.cell? ⟨w.heap.size, 4, none⟩ = some (.slice A4 a5 a6) := (x0.cell 4).trans rfl
  go_wp2_with fail
  refine (hm W0 hba).mono ?_
  rintro e w1 ⟨h, rfl, hB1, hh, hb1⟩
  have y1 := y0.below hb1
  have hb01 := below_next hb1 hba
  clear d0 d1 d2 d3 d4 x0 y0 hm hb1 hba hB1 hh
  have hg200 : decide ((200 : Int) < (n : Int)) = true := by simp; omega
  go_wp2_with (refine wpl_put_blk y1 [.int .i64 0, .slice none 0 0] (by kernel_rfl) rfl (by intro v hv; simp at hv; rcases hv with rfl | rfl <;> rfl) rfl rfl rfl rfl ?_; intro w6 hB6 hg6)
  have hb6 : Below w.heap.size w w6 := hb01.trans (below_of_grown hg6 hb01.size (by omega))
  refine ret_blk2 hB6 rfl rfl Tryd.underlying24 rfl (by kernel_rfl) rfl ?_
  exact ⟨rfl, hb6⟩

def FSlv3 (t : Sp.T) (n : Nat) : Fact (fun w w' => Below w.heap.size w w') := ⟨fun v w => SlV w 3 v n (Sp.acccs t.leaves), fun _ _ _ h k => h.below k⟩

set_option maxRecDepth 100000 in
set_option maxHeartbeats 8000000 in
theorem spClosed_walk (w : World) (cs : List Value) (t : Sp.T) (hT : TmR w.heap.size w cs t) (hn : t.size ≤ 4194304) (hTb : Tab w) :
    Calls Tryd.prog 9 #[.agg cs.toArray] w fun e w' => e = .returned (.bool true) ∧ Below w.heap.size w w' := by
  obtain ⟨a0, a1, a2, a3, A4, a5, a6, rfl, -, -⟩ := hT.form
  unfold tcells at hT ⊢
  have hba : Below w.heap.size w (w.alloc (.cells #[.int .i64 a0, .int .i64 a1, .bool a2, .int .i64 a3, .slice A4 a5 a6] 55)) := below_alloc (Below.refl _ _) _
  have x0 := Blk.new w 55 [.int .i64 a0, .int .i64 a1, .bool a2, .int .i64 a3, .slice A4 a5 a6]
  have hlv := fun w' (hb : Below w.heap.size w w') => leaves_any w' _ t (tm_up (hT.later hb) hb.size) hn
  have hgy := fun (hs : t.size ≤ 200) w' (hb : Below w.heap.size w w') => spgraph_yes w' _ t (tm_up (hT.later hb) hb.size) hs
  have hgn := fun (hs : 200 < t.size) w' (hb : Below w.heap.size w w') => spgraph_no w' _ t (tm_up (hT.later hb) hb.size) hn hs
  have HT := Lib.hid hTb
  clear hTb hT
  go_enter Tryd.func9, Tryd.ntmps9
  go_upto_region 1 with (fail)
  generalize (w.alloc (.cells #[.int .i64 a0, .int .i64 a1, .bool a2, .int .i64 a3, .slice A4 a5 a6] 55)) = W0 at x0 hba ⊢
  go_wp2_with fail
  refine (alive4_any W0).mono ?_
  rintro e w1 ⟨rfl, hb1⟩
  have x1 := x0.below hb1
  have hb01 := below_next hb1 hba
  have d0 : w1.cell? ⟨w.heap.size, 0, none⟩ = some (.int .i64 a0) := (x1.cell 0).trans rfl
  have d1 : w1.cell? ⟨w.heap.size, 1, none⟩ = some (.int .i64 a1) := (x1.cell 1).trans rfl
  have d2 : w1.cell? ⟨w.heap.size, 2, none⟩ = some (.bool a2) := (x1.cell 2).trans rfl
  have d3 : w1.cell? ⟨w.heap.size, 3, none⟩ = some (.int .i64 a3) := (x1.cell 3).trans rfl
  have d4 : w1.cell? ⟨w.heap.size, 4, none⟩ = some (.slice A4 a5 a6) := (x1.cell 4).trans rfl
  clear x0 hba hb1
  go_wp2_with fail
  by_cases hs : t.size ≤ 200
  · obtain ⟨n, hnt⟩ : ∃ n, n = t.size := ⟨_, rfl⟩
    obtain ⟨es, hes⟩ : ∃ es, es = Gr.gE t.rk t.size := ⟨_, rfl⟩
    have hg := hgy hs w1 hb01
    have hcl := Gr.gE_closed t.rk t.size
    have hlt := Gr.gE_lt (f := t.rk) (n := t.size)
    have hfl := Gr.gE_full t.rk t.size
    have hel : (Gr.gE t.rk t.size).length ≤ 40000 := by
      have h1 := Gr.gEk_len t.rk t.size t.size
      have h2 := Nat.mul_le_mul hs hs
      unfold Gr.gE
      omega
    rw [← hes] at hg hcl hlt hfl hel
    rw [← hnt] at hg hcl hlt hfl hs hlv
    clear hgy hgn hes hnt hn
    refine hg.mono ?_
    rintro e w2 ⟨A, c, rfl, s2, hb2⟩
    have hb3 := below_alloc (below_next hb2 hb01) (.cells #[.int .i64 (n : Int), .slice A es.length c] 24)
    have p3 := Blk.new w2 24 [.int .i64 (n : Int), .slice A es.length c]
    have x3 := (x1.below hb2).alloc (.cells #[.int .i64 (n : Int), .slice A es.length c] 24)
    have s3 := s2.alloc (.cells #[.int .i64 (n : Int), .slice A es.length c] 24)
    clear d0 d1 d2 d3 d4 x1 hb2 hb01 hg
    go_upto_region 6 with (fail)
    obtain ⟨q3, hq3⟩ : ∃ q, q = w2.heap.size := ⟨_, rfl⟩
    simp only [← hq3] at p3 ⊢
    generalize w2.alloc (.cells #[.int .i64 (n : Int), .slice A es.length c] 24) = w3 at p3 x3 s3 hb3 ⊢
    clear hq3 s2
    have c0 : w3.cell? ⟨q3, 0, none⟩ = some (.int .i64 (n : Int)) := (p3.cell 0).trans rfl
    have c1 : w3.cell? ⟨q3, 1, none⟩ = some (.slice A es.length c) := (p3.cell 1).trans rfl
    have hcn := closure_nat hs hlt hfl w3 A c s3 (by omega) (HT.out.later HT.out.lt hb3)
    rw [hcl] at hcn
    clear hcl hlt hfl
    go_wp2_with fail
    refine hcn.mono ?_
    rintro e w4 ⟨A5, c5, rfl, s4, hb4⟩
    have hb5 := below_alloc (below_next hb4 hb3) (.cells #[.int .i64 (n : Int), .slice A5 es.length c5] 24)
    have p5 := Blk.new w4 24 [.int .i64 (n : Int), .slice A5 es.length c5]
    have x5 := (x3.below hb4).alloc (.cells #[.int .i64 (n : Int), .slice A5 es.length c5] 24)
    have p35 := (p3.below hb4).alloc (.cells #[.int .i64 (n : Int), .slice A5 es.length c5] 24)
    have s35 := (s3.below hb4).alloc (.cells #[.int .i64 (n : Int), .slice A5 es.length c5] 24)
    have s5 := s4.alloc (.cells #[.int .i64 (n : Int), .slice A5 es.length c5] 24)
    clear c0 c1 x3 p3 s3 s4 hb4 hb3 hcn
    go_upto_region 7 with (fail)
    obtain ⟨q5, hq5⟩ : ∃ q, q = w4.heap.size := ⟨_, rfl⟩
    simp only [← hq5] at p5 ⊢
    generalize w4.alloc (.cells #[.int .i64 (n : Int), .slice A5 es.length c5] 24) = w6 at p5 x5 p35 s35 s5 hb5 ⊢
    clear hq5
    obtain ⟨q, hq⟩ : ∃ q, q = w.heap.size := ⟨_, rfl⟩
    rw [← hq] at x5 ⊢
    have HQ := Lib.hid hq
    clear hq
    have keepS : ∀ w', Below w6.heap.size w6 w' → (Below w6.heap.size w6 w' ∧ w'.cell? ⟨q3, 0, none⟩ = some (.int .i64 (n : Int)) ∧ w'.cell? ⟨q3, 1, none⟩ = some (.slice A es.length c) ∧ w'.cell? ⟨q5, 0, none⟩ = some (.int .i64 (n : Int)) ∧ w'.cell? ⟨q5, 1, none⟩ = some (.slice A5 es.length c5) ∧ w'.cell? ⟨q, 0, none⟩ = some (.int .i64 a0) ∧ w'.cell? ⟨q, 1, none⟩ = some (.int .i64 a1) ∧ w'.cell? ⟨q, 2, none⟩ = some (.bool a2) ∧ w'.cell? ⟨q, 3, none⟩ = some (.int .i64 a3) ∧ w'.cell? ⟨q, 4, none⟩ = some (.slice A4 a5 a6)) := fun w' hb =>
      ⟨hb, ((p35.below hb).cell 0).trans rfl, ((p35.below hb).cell 1).trans rfl, ((p5.below hb).cell 0).trans rfl, ((p5.below hb).cell 1).trans rfl, ((x5.below hb).cell 0).trans rfl, ((x5.below hb).cell 1).trans rfl, ((x5.below hb).cell 2).trans rfl, ((x5.below hb).cell 3).trans rfl, ((x5.below hb).cell 4).trans rfl⟩
    have hS0 := keepS _ (below_drew (Below.refl _ _))
    have hsg := fun w' (hb : Below w6.heap.size w6 w') => same_graph w' n n _ _ _ _ es es (s5.below hb) (s35.below hb) rfl rfl
    have hl6 := fun w' (hb : Below w6.heap.size w6 w') => hlv w' (below_next hb hb5)
    clear s5 s35 p5 p35 x5 hlv
    refine wp_walk (by kernel_rfl) (by kernel_rfl) (fun w w' => Below w.heap.size w w') (fun w' => (Below w6.heap.size w6 w' ∧ w'.cell? ⟨q3, 0, none⟩ = some (.int .i64 (n : Int)) ∧ w'.cell? ⟨q3, 1, none⟩ = some (.slice A es.length c) ∧ w'.cell? ⟨q5, 0, none⟩ = some (.int .i64 (n : Int)) ∧ w'.cell? ⟨q5, 1, none⟩ = some (.slice A5 es.length c5) ∧ w'.cell? ⟨q, 0, none⟩ = some (.int .i64 a0) ∧ w'.cell? ⟨q, 1, none⟩ = some (.int .i64 a1) ∧ w'.cell? ⟨q, 2, none⟩ = some (.bool a2) ∧ w'.cell? ⟨q, 3, none⟩ = some (.int .i64 a3) ∧ w'.cell? ⟨q, 4, none⟩ = some (.slice A4 a5 a6))) hS0 ?_
    repeat (first | (refine settle_skip (fun _ => by rfl) ?_; (simp only [Act.put, List.setIfInBounds_toArray, List.set_cons_zero, List.set_cons_succ])) | (refine' settle_run (fun _ _ => Below.refl _ _) (fun _ => by rfl) ?_ ?_; rotate_left; (focus (intro ρ w hS hF; (try dsimp only at hS); go_split_ands; go_simp; try with_reducible rfl)); (simp only [Act.put, List.setIfInBounds_toArray, List.set_cons_zero, List.set_cons_succ])))
    (refine' settle_step (fun _ => by rfl) ?_ ?_; rotate_left; (focus (intro ρ w hS hF K hK; (simp only [Act.put, List.setIfInBounds_toArray, List.set_cons_zero, List.set_cons_succ] at hK); go_simp; refine (hsg _ hS.1).mono ?_; rintro e w' ⟨rfl, hb'⟩; have hS' := keepS _ (below_next hb' hS.1); have hE' := hb'; exact hK _ hS' hE')); (simp only [Act.put, List.setIfInBounds_toArray, List.set_cons_zero, List.set_cons_succ]))
    repeat (first | (refine settle_skip (fun _ => by rfl) ?_; (simp only [Act.put, List.setIfInBounds_toArray, List.set_cons_zero, List.set_cons_succ])) | (refine' settle_run (fun _ _ => Below.refl _ _) (fun _ => by rfl) ?_ ?_; rotate_left; (focus (intro ρ w hS hF; (try dsimp only at hS); go_split_ands; go_simp; try with_reducible rfl)); (simp only [Act.put, List.setIfInBounds_toArray, List.set_cons_zero, List.set_cons_succ])))
    (refine settle_known (FSlv3 t n) (by rfl) (fun _ => by rfl)  ?_ ?_; (focus (intro ρ w hS hF K hK; (simp only [Act.put, List.setIfInBounds_toArray, List.set_cons_zero, List.set_cons_succ] at hK); go_simp; (refine (hl6 _ hS.1).mono ?_; rintro e w' ⟨u, rfl, h1, hb'⟩; exact hK _ _ h1 (keepS _ (below_next hb' hS.1)) hb'))); (simp only [Act.put, List.setIfInBounds_toArray, List.set_cons_zero, List.set_cons_succ]))
    (refine' settle_step (fun _ => by rfl) ?_ ?_; rotate_left; (focus (intro ρ w hS hF K hK; (simp only [Act.put, List.setIfInBounds_toArray, List.set_cons_zero, List.set_cons_succ] at hK); go_simp; have h36 : SlV w 3 (ρ 36) n (Sp.acccs t.leaves) := hF.1 (by rfl); generalize ρ 36 = v36 at h36 hK ⊢; obtain ⟨A6, c6, rfl⟩ := h36.form; go_simp; have hS' := hS; have hE' := Below.refl w.heap.size w; exact hK _ hS' hE')); (simp only [Act.put, List.setIfInBounds_toArray, List.set_cons_zero, List.set_cons_succ]))
    repeat (first | (refine settle_skip (fun _ => by rfl) ?_; (simp only [Act.put, List.setIfInBounds_toArray, List.set_cons_zero, List.set_cons_succ])) | (refine' settle_run (fun _ _ => Below.refl _ _) (fun _ => by rfl) ?_ ?_; rotate_left; (focus (intro ρ w hS hF; (try dsimp only at hS); go_split_ands; go_simp; try with_reducible rfl)); (simp only [Act.put, List.setIfInBounds_toArray, List.set_cons_zero, List.set_cons_succ])))
    refine settle_nil ?_
    intro ρ wE hS hF
    have hfin := below_next hS.1 hb5
    clear hF hS hS0 keepS hsg hl6
    go_wp2_with fail
    go_ret
    exact ⟨rfl, hfin⟩
  · have hbig : 200 < t.size := by omega
    have hg := hgn hbig w1 hb01
    obtain ⟨n, hnt⟩ : ∃ n, n = t.size := ⟨_, rfl⟩
    rw [← hnt] at hbig hlv
    clear hgy hgn hs hn hnt
    refine hg.mono ?_
    rintro e w2 ⟨rfl, hb2⟩
    have hb3 := below_alloc (below_next hb2 hb01) (.cells #[.int .i64 0, .slice none 0 0] 24)
    have x3 := (x1.below hb2).alloc (.cells #[.int .i64 0, .slice none 0 0] 24)
    clear d0 d1 d2 d3 d4 x1 hb2 hb01 hg
    go_upto_region 5 with (fail)
    generalize w2.alloc (.cells #[.int .i64 0, .slice none 0 0] 24) = w3 at x3 hb3 ⊢
    have d0 : w3.cell? ⟨w.heap.size, 0, none⟩ = some (.int .i64 a0) := (x3.cell 0).trans rfl
    have d1 : w3.cell? ⟨w.heap.size, 1, none⟩ = some (.int .i64 a1) := (x3.cell 1).trans rfl
    have d2 : w3.cell? ⟨w.heap.size, 2, none⟩ = some (.bool a2) := (x3.cell 2).trans rfl
    have d3 : w3.cell? ⟨w.heap.size, 3, none⟩ = some (.int .i64 a3) := (x3.cell 3).trans rfl
    have d4 : w3.cell? ⟨w.heap.size, 4, none⟩ = some (.slice A4 a5 a6) := (x3.cell 4).trans rfl
    have hl := hlv w3 hb3
    clear x3 hlv
    go_wp2_with fail
    refine hl.mono ?_
    rintro e w4 ⟨u, rfl, h1, hb4⟩
    obtain ⟨A6, c6, rfl⟩ := h1.form
    have hfin := below_next hb4 hb3
    clear d0 d1 d2 d3 d4 hl h1 hb4 hb3
    go_wp2_with fail
    go_ret
    exact ⟨ret_bool (by simp; omega), hfin⟩
theorem tab_of_spClosed {W : World} (h : laidMetH Tryd.prog Rows.spClosedUptoRow.laid W) : Tab W :=
  tab_is (Lib.tabIs_of_head (rest := []) gTab gTabType Tryd.underlying124 Tryd.underlying5 cellsByte cellsTab h)
theorem spClosed_met (os : Os) : laidMet Tryd.prog Rows.spClosedUptoRow.laid ((laidWorld os).forCall (fun _ _ => 0) ⟨#[], #[.agg #[.int .i64 0, .int .i64 0, .bool false, .int .i64 0, .slice none 0 0]], []⟩).memory :=
  laidMet_of_run' 8 (by kernel_rfl) (by kernel_rfl)
theorem spClosed_reads (os : Os) {H : Type} (enc : TypeId × Value → H) : ∃ places, DataW.whole enc Tryd.prog ((laidWorld os).forCall (fun _ _ => 0) ⟨#[], #[.agg #[.int .i64 0, .int .i64 0, .bool false, .int .i64 0, .slice none 0 0]], []⟩).memory Tryd.f9.params.toList Rows.spClosedSpec.vars false #[.agg #[.int .i64 0, .int .i64 0, .bool false, .int .i64 0, .slice none 0 0]].toList 8 = some ([.agg [.lit (.int .i64 0), .agg [.lit (.int .i64 0), .lit (.bool false), .lit (.int .i64 0)], .nil]], [], places) :=
  ⟨[], by kernel_rfl⟩
set_option maxRecDepth 100000 in
theorem spClosed_lifted (os : Os) (started : os.Started) (H : Type) (enc : TypeId × Value → H) (F : Stop.Interp) :
    ReturnsInHanded {} Tryd.checked os 9 .any ((Rows.OpenSpec.upto Rows.spClosedSpec).preRow enc Tryd.prog Tryd.f9 Rows.spClosedUptoRow.domain false Rows.spClosedUptoRow.laid) (((Rows.OpenSpec.upto Rows.spClosedSpec).at F).post enc Tryd.prog Tryd.f9 false true false false) := by
  obtain ⟨places, hx⟩ := spClosed_reads os enc
  refine returnsInHanded_of_row (C := Tryd.checked) (s := (Rows.OpenSpec.upto Rows.spClosedSpec)) own started (by kernel_rfl) Tryd.func9
    (witness_row_at (enc := enc) (C := Tryd.checked) false (laidWorld os) #[.agg #[.int .i64 0, .int .i64 0, .bool false, .int .i64 0, .slice none 0 0]] rfl (by kernel_rfl) (by kernel_rfl) (by kernel_rfl)
      (OpenSpec.preRow_of_cond 8 hx (by kernel_rfl) (fun k hk => by cases hk; kernel_rfl) (by kernel_rfl) (spClosed_met os))) ?_
  intro W base args ds gs before hval0 hW _ hcond _ hL _ _
  have hk := hcond _ rfl
  have hT := tab_of_spClosed hL
  have hval : ∀ (j : Nat) t v, Tryd.f9.params[j]? = some t → args[j]? = some v → Value.okWide Tryd.prog W .any base t v := hval0
  have hW' := hW
  have hlt := hW.lt
  obtain ⟨p, q, hA0, hV, rfl, hfz, hnd⟩ := hW
  have hA : DataW.TrodAll enc Tryd.prog W 0 (fun _ => true) true Tryd.f9.params.toList args.toList ds p := hA0
  rw [Tryd.params9] at hA hval
  obtain ⟨v0, vs0, d0, ds0, p0, q0, hargs, rfl, rfl, h0, r0⟩ := trodAll_cons hA
  obtain ⟨rfl, rfl, rfl⟩ := trodAll_nil r0
  obtain rfl : args = #[v0] := by cases args; simp_all
  obtain ⟨rfl, rfl⟩ := trodVars_none hV
  obtain ⟨cs0, t0, rfl, ht0, hs0⟩ := open_arg_term (hval 0 _ v0 rfl rfl) h0 (fun x hx => by simpa using hlt x (by simp [hx]))
  have hk' : Rows.uptoBulkAll [d0] ≤ 1048576 := of_decide_eq_true hk
  rw [Rows.uptoBulkAll] at hk'
  refine (spClosed_walk W _ t0 ht0 (by omega) hT).mono fun e W' ⟨he, hb⟩ => ?_
  subst he
  exact ⟨_, rfl, post_true laidOut (by kernel_rfl) Tryd.underlying4 (by decide +kernel) rfl rfl hW' hb⟩

theorem spClosed_upto : Rows.SpClosedUptoSaid :=
  OpenClaim.holds_of_cond 9 Tryd.f9 rfl rfl rfl rfl rfl rfl rfl ⟨rfl, rfl, rfl, rfl, rfl⟩ rfl rfl rfl rfl rfl (by kernel_rfl) Tryd.func9 (by kernel_rfl)
    (of_decide_eq_true (by kernel_rfl)) (by unfold Func.isWrapper; first | (rw [if_pos (by decide +kernel)]; kernel_rfl) | (rw [if_neg (by decide +kernel)]; exact ⟨rfl, rfl⟩))
    (fun os started H enc _ F => by rw [OpenClaim.pre_eq_preRow]; exact spClosed_lifted os started H enc F)
theorem spClosed_plain (f : FuncId) (fn : Func) (hf : Tryd.pinned.checked.prog.funcNamed "forkwright/forkwrightkeep.SpClosed" = some f) (hfn : Tryd.pinned.checked.prog.funcs[f]? = some fn) :
    false = Tryd.pinned.checked.prog.looks [] ∧ ∀ (j : Nat) t, fn.params[j]? = some t → Tryd.pinned.checked.prog.wantsStandIn t = false := by
  obtain rfl : f = 9 := Option.some.inj ((show Tryd.prog.funcNamed "forkwright/forkwrightkeep.SpClosed" = some 9 by kernel_rfl).symm.trans hf) |>.symm
  obtain rfl : fn = Tryd.f9 := (Option.some.inj (Tryd.func9.symm.trans hfn)).symm
  refine ⟨by kernel_rfl, fun j t ht => ?_⟩
  rw [Tryd.params9] at ht
  have hm := Array.mem_of_getElem? ht
  obtain rfl : t = 55 := by simpa using hm
  exact (show Tryd.prog.wantsStandIn 55 = false by kernel_rfl)
theorem spClosed_card : Rows.SpClosedUptoCardSaid :=
  Claim7.holds_tied_plain_at .later [] _ _ _ _ spClosed_upto (fun _ h => by cases h) (by kernel_rfl) (fun _ h => by cases h) spClosedUpto_row_tie rfl ⟨rfl, rfl⟩ (by kernel_rfl) rfl spClosed_plain (by kernel_rfl)
end Go.Proofs.YtcpoglchjkpbpaaDoor
