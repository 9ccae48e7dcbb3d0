/-
  UnfoldAsync: the plain law; statements wrapped in a row of their own, of what is not known but as a program; the walk.
-/
import Derived.Test.YtgaafgjhkkjalaaUpP1

namespace Go.Proofs.Ytgaafgjhkkjalaa
set_option linter.unusedVariables false
set_option linter.unusedSimpArgs false
set_option maxRecDepth 100000
open Go.RowKit

namespace Un
open St
theorem fin_run (a : P) (h : List Int) : (Sr.go (fin1 a .nil) h).heap = (Sr.go a h).heap ∧ (Sr.go (fin1 a .nil) h).steps = (Sr.go a h).steps + 1 := by
  have hl := Sr.run_like a [] 0 0 (Sr.M0 h) (Sr.M0 h).step 1 ⟨rfl, rfl⟩
  have e : Sr.go (fin1 a .nil) h = Sr.run a [] 0 (Sr.M0 h).step := by
    unfold Sr.go fin1
    rw [Sr.run, if_neg (by decide), if_neg (by decide), if_neg (by decide), if_pos (by decide)]
    rfl
  rw [e]
  exact ⟨hl.heap, hl.steps⟩
theorem fin_err (a b : P) (h : List Int) (fuel : Int) (he : Sr.err (fin1 a .nil) h fuel = 0) : Sr.err a h fuel = 0 := by
  unfold Sr.err at he ⊢
  split at he
  · cases he
  · rename_i h1
    split at he
    · cases he
    · split at he
      · cases he
      · have h1' : Sr.free (fin1 a .nil) = [] := by simpa using h1
        rw [Sr.free_nil] at h1'
        have h2 : Sr.free a = [] := by
          rw [Sr.free_nil]
          unfold fin1 at h1'
          rw [Sr.cl, if_neg (by decide), if_neg (by decide), if_pos (by decide)] at h1'
          exact h1'.1
        have h3 := (fin_run a h).2
        rw [if_neg (by simp [h2]), if_neg (by omega), if_neg (by omega)]
theorem fin_law (a b : P) (h : List Int) (fuel : Int) (he : Sr.err (fin1 a .nil) h fuel = 0) (hf : Sr.err (fin1 a b) h fuel = 0) :
    Sr.err a h fuel = 0 ∧ (Sr.fin (fin1 a .nil) h fuel).heap = (Sr.fin a h fuel).heap ∧ ∃ tb, term (fin1 a .nil) h fuel = .two false (term a h fuel) .nil ∧ term (fin1 a b) h fuel = .two false (term a h fuel) tb := by
  have h0 := fin_err a b h fuel he
  refine ⟨h0, ?_, ?_⟩
  · unfold Sr.fin
    rw [if_pos he, if_pos h0]
    exact (fin_run a h).1
  · obtain ⟨tb, h1, -⟩ := go_fin a b h
    obtain ⟨tn, h2, h3⟩ := go_fin a .nil h
    rw [h3 rfl] at h2
    unfold term
    rw [if_pos he, if_pos h0, if_pos hf]
    exact ⟨tb, h2, h1⟩
end Un
theorem Sp.T.before_pad (v : Sp.T) (i j : Int) : (Sp.T.two false v .nil).before i j = v.before i j := by
  have hs : (Sp.T.two false v .nil).size = v.size := by rw [Sp.T.size_two]; rfl
  by_cases h : i < v.size ∧ j < v.size
  · exact Sp.T.before_in false v .nil i j h.1 h.2
  · unfold Sp.T.before
    rw [hs, decide_eq_false (by omega), decide_eq_false (by omega)]

/-- one statement in a row of its own -/
def FL1 (cs : List Value) (p : St.P) : Fact (fun w w' => Below w.heap.size w w') := ⟨fun v w => ∃ A, v = .slice A 1 1 ∧ SlV w 12 (.slice A 1 1) 1 cs ∧ PC w.heap.size w cs 1 p, fun v w w' ⟨A, h1, h2, h3⟩ k => ⟨A, h1, h2.below k, PC.keep h3 k.size fun a ha => k.cell ha⟩⟩
theorem FL1.is {cs : List Value} {p : St.P} {v : Value} {w : World} (h : (FL1 cs p).holds v w) : ∃ A, v = .slice A 1 1 ∧ IsP w (.slice A 1 1) p := by
  obtain ⟨A, h1, h2, h3⟩ := h
  exact ⟨A, h1, IsP.of_slv h3 h2⟩
theorem FL1.new {w : World} {cs : List Value} {p : St.P} (hl : cs.length = 12) (h : PC w.heap.size w cs 1 p) : (FL1 cs p).holds (.slice (some ⟨w.heap.size, 0, none⟩) 1 1) (w.alloc (.cells cs.toArray 38)) :=
  ⟨_, rfl, SlV.lit w cs 38 12 1 (by omega) (by decide), PC.keep h (by simp) fun a ha => (below_alloc (Below.refl w.heap.size w) (.cells cs.toArray 38)).cell ha⟩
theorem IsP.flat {w : World} {D : Option Addr} {dl dc : Nat} {p : St.P} (h : IsP w (.slice D dl dc) p) : ∃ cs, PC w.heap.size w cs dl p ∧ SlV w 12 (.slice D dl dc) dl cs := by
  obtain ⟨A, n, c, e, h1, h2, h3⟩ := h
  injection e with e1 e2 e3
  subst e1 e2 e3
  obtain ⟨cs, h4, h5⟩ := h3.flat
  exact ⟨cs, h4, D, dc, rfl, h1, h2, h4.length, h5⟩
theorem run_append_zero {P : Program} (w : World) (t ty e : TypeId) (i : TypeInfo) (ht : P.underlying t = some (.slice e)) (hi : P.info? e = some i) (base A : Option Addr) (n cap c : Nat) (hle : n ≤ cap) :
    (Builtin.append_ #[t, t] ty #[.slice base n cap, .slice A 0 c]).run P w = .ok (.slice base n cap) w := by
  cases base <;> cases A <;> simp [Builtin.append_, Builtin.lenOf, Builtin.firstCells, run_underlying ht, sizeOf, typeInfo, hi, hle, storeCells, loadCells, loadCellsFrom]
/-- a full slice, appended to: what it is -/
theorem oper_app {P : Program} {w : World} {o : Oper} {a : Act} {K : Act → World → Prop} {Q : Exit → Act → World → Prop} (s x : Operand)
    (t e : TypeId) (z : Value) (size bytes : Nat) (ht : P.underlying t = some (.slice e)) (hinfo : (P.info? e).map (fun i => (i.zero, i.size, i.bytes)) = some (some z, size, bytes)) (hz : z.cells.size = size) (hsz : 0 < size)
    {A : Option Addr} {n : Nat} {xs : List Value} (h : SlV w size (.slice A n n) n xs) {D : Option Addr} {m c : Nat} {news : List Value} (hsl : SlV w size (.slice D m c) m news) (h1 : ∀ u ∈ news, u.oneCell' = true)
    (h63 : n + m ≤ maxLen) (hbytes : (n + m) * bytes ≤ 140737488355328) (ho : o.op = .call { callee := .builtin .append, args := #[s, x], argTypes := #[t, t] }) (hs : a.eval s = .slice A n n) (hx : a.eval x = .slice D m c)
    (hK : ∀ A' c' w', SlV w' size (.slice A' (n + m) c') (n + m) (xs ++ news) → Below w.heap.size w w' → K (a.put o.dst (.slice A' (n + m) c')) w') : o.wp P a w K Q := by
  rcases Nat.eq_zero_or_pos m with rfl | hm
  · obtain ⟨i, hi, -⟩ := info_parts hinfo
    have hn0 : news = [] := by
      obtain ⟨_, _, _, _, _, hl, _⟩ := hsl
      exact List.eq_nil_of_length_eq_zero (by omega)
    have hrun := run_append_zero (P := P) w t o.type e i ht hi A D n n c (Nat.le_refl _)
    unfold Oper.wp execOp
    simp only [ho, resolve, invoke, builtin, Sem.run_bind, Sem.run_pure, Result.andThen_ok, List.map_toArray, List.map_cons, List.map_nil, hs, hx, hrun]
    subst hn0
    exact hK A n w (by rw [List.append_nil]; exact h) (Below.refl _ _)
  · refine oper_full s x t e z size bytes ht hinfo hz hsz h hsl h1 hm h63 hbytes ho hs hx fun v' w' hown hb => ?_
    obtain ⟨A', c', rfl, -, -⟩ := own_slice hown
    exact hK A' c' w' (SlV.of_own hown) hb
end Go.Proofs.Ytgaafgjhkkjalaa


namespace Go.Proofs.Ytgaafgjhkkjalaa
set_option linter.unusedVariables false
set_option linter.unusedSimpArgs false
set_option maxRecDepth 100000
open Go.RowKit

theorem FL1.is' {cs : List Value} {p : St.P} {w : World} {A : Option Addr} (h : (FL1 cs p).holds (.slice A 1 1) w) : IsP w (.slice A 1 1) p := by
  obtain ⟨A', e, h2, h3⟩ := h
  injection e with e1
  subst e1
  exact IsP.of_slv h3 h2
/-- a term and a heap, put into variables of their own -/
def IT2 (B0 : Nat) (hc : List Value) (t : Sp.T) (v7 v8 : Value) (w : World) : Prop := IT B0 t v7 w ∧ ∃ H, v8 = .pointer (some ⟨H, 0, none⟩) ∧ B0 ≤ H ∧ Blk w H 24 hc
theorem IT2.step {B0 : Nat} {hc : List Value} {t : Sp.T} {v7 v8 : Value} {w w' : World} (h : IT2 B0 hc t v7 v8 w) (hb : Below w.heap.size w w') : IT2 B0 hc t v7 v8 w' := by
  obtain ⟨h1, H, h2, h3, h4⟩ := h
  exact ⟨h1.step hb, H, h2, h3, h4.below hb⟩
theorem IT2.cong {B0 : Nat} {hc : List Value} {t : Sp.T} {v7 v8 u7 u8 : Value} {w : World} (h : IT2 B0 hc t v7 v8 w) (h7 : v7 = u7) (h8 : v8 = u8) : IT2 B0 hc t u7 u8 w := h7 ▸ h8 ▸ h

namespace Un
open St
def asy (a b : P) : P := .cons 4 [] .bad .bad a .nil b
theorem async_law (a b c : P) (h : List Int) (fuel : Int) (he : Sr.err a h fuel = 0) (hf : Sr.err (fin1 (asy a b) c) h fuel = 0) (hg : Sr.err (fin1 (asy a b) .nil) h fuel = 0) :
    ∃ tb tc, term (fin1 (asy a b) c) h fuel = .two false (.two true (term a h fuel) tb) tc ∧ term (fin1 (asy a b) .nil) h fuel = .two false (.two true (term a h fuel) tb) .nil := by
  obtain ⟨tb, tc, h1, h2⟩ := go_async a b c h
  obtain ⟨tn, h3, h4⟩ := h2 .nil
  rw [h4 rfl] at h3
  unfold term
  rw [if_pos he, if_pos hf, if_pos hg]
  exact ⟨tb, tc, h1, h3⟩
end Un
theorem Sp.T.async_before (ta tb tc : Sp.T) (i j : Int) (h0 : 0 ≤ i) (hi : i < ta.size) (hj : (ta.size : Int) ≤ j) (hj2 : j < (Sp.T.two false (.two true ta tb) tc).size) : (Sp.T.two false (.two true ta tb) tc).before i j = decide (((Sp.T.two true ta tb).size : Int) ≤ j) := by
  have hs := Sp.T.size_two true ta tb
  by_cases h : ((Sp.T.two true ta tb).size : Int) ≤ j
  · rw [Sp.T.before_over false (.two true ta tb) tc i j h0 (by omega) h hj2, decide_eq_true h]
    rfl
  · rw [Sp.T.before_in false (.two true ta tb) tc i j (by omega) (by omega), Sp.T.before_over true ta tb i j h0 hi hj (by omega), decide_eq_false h]
    rfl

/-- one statement in a row of its own, whatever it holds; a statement around a body -/
def FLx (p : St.P) : Fact (fun w w' => Below w.heap.size w w') := ⟨fun v w => ∃ A cs, v = .slice A 1 1 ∧ SlV w 12 (.slice A 1 1) 1 cs ∧ PC w.heap.size w cs 1 p, fun v w w' ⟨A, cs, h1, h2, h3⟩ k => ⟨A, cs, h1, h2.below k, PC.keep h3 k.size fun a ha => k.cell ha⟩⟩
theorem FLx.new {w : World} {cs : List Value} {p : St.P} (hl : cs.length = 12) (h : PC w.heap.size w cs 1 p) : (FLx p).holds (.slice (some ⟨w.heap.size, 0, none⟩) 1 1) (w.alloc (.cells cs.toArray 38)) := by
  obtain ⟨A, h1, h2, h3⟩ := FL1.new hl h
  exact ⟨A, cs, h1, h2, h3⟩
theorem FLx.is {v : Value} {p : St.P} {w : World} (h : (FLx p).holds v w) : (FPu p).holds v w := by
  obtain ⟨A, cs, h1, h2, h3⟩ := h
  exact ⟨A, 1, 1, h1, IsP.of_slv h3 h2⟩
def FFu (p : St.P) : Fact (fun w w' => Below w.heap.size w w') := ⟨fun v w => ∃ A n c, v = .agg (([.int .i64 5, .string ⟨#[]⟩, .int .i64 0, .int .i64 0, .string ⟨#[]⟩, .slice none 0 0, .int .i64 0, .int .i64 0, .string ⟨#[]⟩, .slice none 0 0, .slice A n c, .slice none 0 0] : List Value)).toArray ∧ IsP w (.slice A n c) p, fun v w w' ⟨A, n, c, h1, h2⟩ k => ⟨A, n, c, h1, h2.step k⟩⟩
theorem finishF (w : World) (A : Option Addr) (n c : Nat) : Calls Try.prog 9 #[.slice A n c] w fun e w' => e = .returned (.agg (([.int .i64 5, .string ⟨#[]⟩, .int .i64 0, .int .i64 0, .string ⟨#[]⟩, .slice none 0 0, .int .i64 0, .int .i64 0, .string ⟨#[]⟩, .slice none 0 0, .slice A n c, .slice none 0 0] : List Value)).toArray) ∧ Below w.heap.size w w' := finishU_any w A n c
theorem asyncF (w : World) (A : Option Addr) (n c : Nat) : Calls Try.prog 12 #[.slice A n c] w fun e w' => e = .returned (.agg (([.int .i64 4, .string ⟨#[]⟩, .int .i64 0, .int .i64 0, .string ⟨#[]⟩, .slice none 0 0, .int .i64 0, .int .i64 0, .string ⟨#[]⟩, .slice none 0 0, .slice A n c, .slice none 0 0] : List Value)).toArray) ∧ Below w.heap.size w w' := asyncU_any w A n c
theorem fin_pc {w : World} {A : Option Addr} {n c : Nat} {p : St.P} (h : IsP w (.slice A n c) p) : PC w.heap.size w ([.int .i64 5, .string ⟨#[]⟩, .int .i64 0, .int .i64 0, .string ⟨#[]⟩, .slice none 0 0, .int .i64 0, .int .i64 0, .string ⟨#[]⟩, .slice none 0 0, .slice A n c, .slice none 0 0] : List Value) 1 (Un.fin1 p .nil) := by
  obtain ⟨A, n, c, e, h1, h2, h3⟩ := h
  injection e with e1 e2 e3
  subst e1 e2 e3
  exact PC.one ⟨h1, h2, Nat.le_refl _, Nat.zero_le _⟩ (xbadU w) (xbadU w) h3 (.nil _)
theorem asy_pc {w : World} {A : Option Addr} {n c : Nat} {p : St.P} (h : IsP w (.slice A n c) p) : PC w.heap.size w ([.int .i64 4, .string ⟨#[]⟩, .int .i64 0, .int .i64 0, .string ⟨#[]⟩, .slice none 0 0, .int .i64 0, .int .i64 0, .string ⟨#[]⟩, .slice none 0 0, .slice A n c, .slice none 0 0] : List Value) 1 (Un.asy p .nil) := by
  obtain ⟨A, n, c, e, h1, h2, h3⟩ := h
  injection e with e1 e2 e3
  subst e1 e2 e3
  exact PC.one ⟨h1, h2, Nat.le_refl _, Nat.zero_le _⟩ (xbadU w) (xbadU w) h3 (.nil _)
def FLen (n : Nat) : Fact (fun w w' => Below w.heap.size w w') := ⟨fun v _ => ∃ A c, v = .slice A n c, fun _ _ _ h _ => h⟩


set_option maxHeartbeats 16000000 in
theorem unfoldAsync_any (pa pq pc : St.P) (h : List Int) (fuel i j : Int) (w : World) (D : Option Addr) (dl dc : Nat) (D2 : Option Addr) (dl2 dc2 : Nat) (D3 : Option Addr) (dl3 dc3 : Nat) (hpa : IsP w (.slice D dl dc) pa) (hpq : IsP w (.slice D2 dl2 dc2) pq) (hpc : IsP w (.slice D3 dl3 dc3) pc) (hs : pa.size + pq.size + pc.size ≤ 137438953472) (hh : h.length = 8) (hr : ∀ x ∈ h, Ex.rng x) :
    Calls Try.prog 4 #[.slice D dl dc, .slice D2 dl2 dc2, .slice D3 dl3 dc3, hcells h, .int .i64 fuel, .int .i64 i, .int .i64 j] w fun e w' => e = .returned (.bool true) ∧ Below w.heap.size w w' := by
  obtain ⟨b0, b1, b2, b3, b4, b5, b6, b7, rfl⟩ := Sr.heap8 hh
  obtain ⟨ps, hps⟩ : ∃ x, x = Un.asy pa .nil := ⟨_, rfl⟩
  obtain ⟨pb, hpb⟩ : ∃ x, x = Un.asy pa pq := ⟨_, rfl⟩
  obtain ⟨pf, hpf⟩ : ∃ x, x = Un.fin1 pb .nil := ⟨_, rfl⟩
  obtain ⟨pg, hpg⟩ : ∃ x, x = Un.fin1 pb pc := ⟨_, rfl⟩
  have hsf : pf.size ≤ 274877906944 := by rw [hpf, hpb]; simp [Un.fin1, Un.asy, St.P.size, Ex.X.leaves]; omega
  have hsg : pg.size ≤ 274877906944 := by rw [hpg, hpb]; simp [Un.fin1, Un.asy, St.P.size, Ex.X.leaves]; omega
  have hUf := fun w' A n c (h : IsP w' (.slice A n c) pf) => isP_unfold h [b0, b1, b2, b3, b4, b5, b6, b7] fuel hsf rfl hr
  have hUg := fun w' A n c (h : IsP w' (.slice A n c) pg) => isP_unfold h [b0, b1, b2, b3, b4, b5, b6, b7] fuel hsg rfl hr
  have hUa := fun w' (h : IsP w' (.slice D dl dc) pa) => isP_unfold h [b0, b1, b2, b3, b4, b5, b6, b7] fuel (by omega) rfl hr
  have hlaw := Un.async_law pa pq pc [b0, b1, b2, b3, b4, b5, b6, b7] fuel
  rw [← hpb, ← hpf, ← hpg] at hlaw
  have hzf := Un.term_size pf [b0, b1, b2, b3, b4, b5, b6, b7] fuel
  have hzg := Un.term_size pg [b0, b1, b2, b3, b4, b5, b6, b7] fuel
  have hza := Un.term_size pa [b0, b1, b2, b3, b4, b5, b6, b7] fuel
  obtain ⟨Hf, hHf⟩ : ∃ x, x = (Sr.fin pf [b0, b1, b2, b3, b4, b5, b6, b7] fuel).heap := ⟨_, rfl⟩
  obtain ⟨Hg, hHg⟩ : ∃ x, x = (Sr.fin pg [b0, b1, b2, b3, b4, b5, b6, b7] fuel).heap := ⟨_, rfl⟩
  obtain ⟨Ha, hHa⟩ : ∃ x, x = (Sr.fin pa [b0, b1, b2, b3, b4, b5, b6, b7] fuel).heap := ⟨_, rfl⟩
  obtain ⟨Ef, hEf⟩ : ∃ x, x = Sr.err pf [b0, b1, b2, b3, b4, b5, b6, b7] fuel := ⟨_, rfl⟩
  obtain ⟨Eg, hEg⟩ : ∃ x, x = Sr.err pg [b0, b1, b2, b3, b4, b5, b6, b7] fuel := ⟨_, rfl⟩
  obtain ⟨Ea, hEa⟩ : ∃ x, x = Sr.err pa [b0, b1, b2, b3, b4, b5, b6, b7] fuel := ⟨_, rfl⟩
  obtain ⟨tf, htf⟩ : ∃ x, x = Un.term pf [b0, b1, b2, b3, b4, b5, b6, b7] fuel := ⟨_, rfl⟩
  obtain ⟨tg, htg⟩ : ∃ x, x = Un.term pg [b0, b1, b2, b3, b4, b5, b6, b7] fuel := ⟨_, rfl⟩
  obtain ⟨ta, hta⟩ : ∃ x, x = Un.term pa [b0, b1, b2, b3, b4, b5, b6, b7] fuel := ⟨_, rfl⟩
  have lf : Hf.length = 8 := by rw [hHf]; exact Un.fin_len _ _ _ rfl
  have lg : Hg.length = 8 := by rw [hHg]; exact Un.fin_len _ _ _ rfl
  have la : Ha.length = 8 := by rw [hHa]; exact Un.fin_len _ _ _ rfl
  simp only [← hHf, ← hEf, ← htf] at hUf
  simp only [← hHg, ← hEg, ← htg] at hUg
  simp only [← hHa, ← hEa, ← hta] at hUa
  simp only [← hEf, ← hEg, ← hEa, ← htf, ← htg, ← hta] at hlaw
  rw [← htf] at hzf
  rw [← htg] at hzg
  rw [← hta] at hza
  obtain ⟨x0, x1, x2, x3, x4, x5, x6, x7, rfl⟩ := Sr.heap8 lf
  obtain ⟨y0, y1, y2, y3, y4, y5, y6, y7, rfl⟩ := Sr.heap8 lg
  obtain ⟨z0, z1, z2, z3, z4, z5, z6, z7, rfl⟩ := Sr.heap8 la
  simp only [ints, List.map_cons, List.map_nil] at hUf hUg hUa
  simp only [hcells, ints, List.map_cons, List.map_nil]
  have HH := Lib.hid (And.intro hlaw (And.intro hzf (And.intro hzg hza)))
  have hb0 : Below w.heap.size w (w.alloc (.cells #[.int .i64 b0, .int .i64 b1, .int .i64 b2, .int .i64 b3, .int .i64 b4, .int .i64 b5, .int .i64 b6, .int .i64 b7] 24)) := below_alloc (Below.refl _ _) _
  have bx := Blk.new w 24 [.int .i64 b0, .int .i64 b1, .int .i64 b2, .int .i64 b3, .int .i64 b4, .int .i64 b5, .int .i64 b6, .int .i64 b7]
  have ipa := hpa.step hb0
  have ipq := hpq.step hb0
  have ipc := hpc.step hb0
  have hlq : dl2 = pq.length := by obtain ⟨A, n, c, e, -, -, h3⟩ := hpq; injection e with e1 e2 e3; subst e2; exact h3.length
  have hlq2 := pq.length_le
  have hlc : dl3 = pc.length := by obtain ⟨A, n, c, e, -, -, h3⟩ := hpc; injection e with e1 e2 e3; subst e2; exact h3.length
  have hlc2 := pc.length_le
  have n63 : 1 + dl2 ≤ maxLen := by unfold maxLen; omega
  have n47 : (1 + dl2) * 184 ≤ 140737488355328 := by omega
  have n63c : 1 + dl3 ≤ maxLen := by unfold maxLen; omega
  have n47c : (1 + dl3) * 184 ≤ 140737488355328 := by omega
  have HPG := Lib.hid (And.intro hps (And.intro hpb (And.intro hpf hpg)))
  clear hHf hHg hHa hEf hEg hEa htf htg hta hlaw hzf hzg hza lf lg la hpa hpq hpc hs hh hr hsf hsg hlq hlq2 hlc hlc2 hpf hpg hps hpb
  go_enter Try.func4, Try.ntmps4
  go_upto_region 1 with (fail)
  obtain ⟨Q, hQ⟩ : ∃ Q, Q = w.heap.size := ⟨_, rfl⟩
  generalize (w.alloc (.cells #[.int .i64 b0, .int .i64 b1, .int .i64 b2, .int .i64 b3, .int .i64 b4, .int .i64 b5, .int .i64 b6, .int .i64 b7] 24)) = W0 at hb0 bx ipa ipq ipc ⊢
  rw [← hQ] at bx ⊢
  clear hQ
  go_wp2_with fail
  refine (alive14_any W0).mono ?_
  rintro e w1 ⟨rfl, hb1⟩
  replace bx := bx.below hb1
  replace ipa := ipa.step hb1
  replace ipq := ipq.step hb1
  replace ipc := ipc.step hb1
  replace hb0 := below_next hb1 hb0
  clear hb1
  have d0 : w1.cell? ⟨Q, 0, none⟩ = some (.int .i64 b0) := (bx.cell 0).trans rfl
  have d1 : w1.cell? ⟨Q, 1, none⟩ = some (.int .i64 b1) := (bx.cell 1).trans rfl
  have d2 : w1.cell? ⟨Q, 2, none⟩ = some (.int .i64 b2) := (bx.cell 2).trans rfl
  have d3 : w1.cell? ⟨Q, 3, none⟩ = some (.int .i64 b3) := (bx.cell 3).trans rfl
  have d4 : w1.cell? ⟨Q, 4, none⟩ = some (.int .i64 b4) := (bx.cell 4).trans rfl
  have d5 : w1.cell? ⟨Q, 5, none⟩ = some (.int .i64 b5) := (bx.cell 5).trans rfl
  have d6 : w1.cell? ⟨Q, 6, none⟩ = some (.int .i64 b6) := (bx.cell 6).trans rfl
  have d7 : w1.cell? ⟨Q, 7, none⟩ = some (.int .i64 b7) := (bx.cell 7).trans rfl
  go_wp2_with fail
  refine (hUa w1 ipa).mono ?_
  rintro e w5 ⟨k5, c5, t5, l5, A5, n5, p5, rfl, -, ks5, hb5⟩
  replace hb0 := below_next hb5 hb0
  replace bx := bx.below hb5
  replace ipa := ipa.step hb5
  replace ipq := ipq.step hb5
  replace ipc := ipc.step hb5
  clear d0 d1 d2 d3 d4 d5 d6 d7 hb5 hUa
  have hB1 : Below w5.heap.size w5 ((w5.alloc (.cells zterm.toArray 30)).alloc (.cells zheap.toArray 24)) := below_alloc (below_alloc (Below.refl _ _) _) _
  have v1 := (Blk.new w5 30 zterm).alloc (.cells zheap.toArray 24)
  have v2 := Blk.new (w5.alloc (.cells zterm.toArray 30)) 24 zheap
  have hz : ((w5.alloc (.cells zterm.toArray 30)).alloc (.cells zheap.toArray 24)).heap.size = w5.heap.size + 1 + 1 := by simp
  simp only [World.size_alloc] at v2
  have hend : ∀ w7 w8, ((w5.alloc (.cells zterm.toArray 30)).alloc (.cells zheap.toArray 24)).grownBy w7 (some w5.heap.size) → w7.grownBy w8 (some (w5.heap.size + 1)) → Below w5.heap.size w5 w8 := fun w7 w8 g7 g8 => (hB1.trans (below_of_grown g7 (by omega) (by omega))).trans (below_of_grown g8 (by have := g7.size; omega) (by omega))
  have hx2 : ∀ w7, ((w5.alloc (.cells zterm.toArray 30)).alloc (.cells zheap.toArray 24)).grownBy w7 (some w5.heap.size) → Blk w7 (w5.heap.size + 1) 24 zheap := fun w7 g7 => v2.grown g7 (by intro e; injection e with e; omega)
  have HE := Lib.hid (And.intro hend (And.intro hx2 (And.intro ks5 (And.intro hb0 (And.intro bx (And.intro ipa (And.intro ipq ipc)))))))
  clear hend hB1 hz hx2 v2 ks5 hb0 bx ipa ipq ipc
  unfold zterm zheap at *
  go_upto_region 4 with (first | (refine wpl_put_blk v1 [.int .i64 k5, .int .i64 c5, .bool t5, .int .i64 l5, .slice A5 n5 p5] (by kernel_rfl) rfl (by intro v hv; simp at hv; rcases hv with rfl | rfl | rfl | rfl | rfl <;> rfl) rfl rfl rfl rfl ?_; intro w7 hB7 hg7; have hB72 := HE.out.2.1 w7 hg7) | (refine wpl_put_blk hB72 [.int .i64 z0, .int .i64 z1, .int .i64 z2, .int .i64 z3, .int .i64 z4, .int .i64 z5, .int .i64 z6, .int .i64 z7] (by kernel_rfl) rfl (by intro v hv; simp at hv; rcases hv with rfl | rfl | rfl | rfl | rfl | rfl | rfl | rfl <;> rfl) rfl rfl rfl rfl ?_; intro w2 hB8 hg8) | fail)
  obtain ⟨hend, -, ks5, hb0, bx, ipa, ipq, ipc⟩ := HE.out
  have hb52 := hend w7 w2 hg7 hg8
  have q5t := hB7.grown hg8 (by intro e; injection e with e; omega)
  replace hb0 := below_next hb52 hb0
  replace bx := bx.below hb52
  replace ipa := ipa.step hb52
  replace ipq := ipq.step hb52
  replace ipc := ipc.step hb52
  replace ks5 := ks5.step_ hb52
  obtain ⟨S5, hS5⟩ : ∃ x, x = w5.heap.size := ⟨_, rfl⟩
  rw [← hS5] at q5t ⊢
  clear hend hb52 hB7 hg7 hg8 hB72 v1 hS5 HE hB8
  obtain ⟨csq, hcq, hsq⟩ := ipq.flat
  have honeb := hcq.one_cells
  obtain ⟨csc, hcc, hsc⟩ := ipc.flat
  have honec := hcc.one_cells
  have hpsq : ps ++ pq = pb := by rw [HPG.out.1, HPG.out.2.1]; rfl
  have hpbf : Un.fin1 pb .nil = pf := HPG.out.2.2.1.symm
  have hpgc : pf ++ pc = pg := by rw [HPG.out.2.2.1, HPG.out.2.2.2]; rfl
  have hpsa : ps = Un.asy pa .nil := HPG.out.1
  have keepS : ∀ w', Below w2.heap.size w2 w' → (Below w2.heap.size w2 w' ∧ w'.cell? ⟨Q, 0, none⟩ = some (.int .i64 b0) ∧ w'.cell? ⟨Q, 1, none⟩ = some (.int .i64 b1) ∧ w'.cell? ⟨Q, 2, none⟩ = some (.int .i64 b2) ∧ w'.cell? ⟨Q, 3, none⟩ = some (.int .i64 b3) ∧ w'.cell? ⟨Q, 4, none⟩ = some (.int .i64 b4) ∧ w'.cell? ⟨Q, 5, none⟩ = some (.int .i64 b5) ∧ w'.cell? ⟨Q, 6, none⟩ = some (.int .i64 b6) ∧ w'.cell? ⟨Q, 7, none⟩ = some (.int .i64 b7)) := fun w' hb => ⟨hb, ((bx.below hb).cell 0).trans rfl, ((bx.below hb).cell 1).trans rfl, ((bx.below hb).cell 2).trans rfl, ((bx.below hb).cell 3).trans rfl, ((bx.below hb).cell 4).trans rfl, ((bx.below hb).cell 5).trans rfl, ((bx.below hb).cell 6).trans rfl, ((bx.below hb).cell 7).trans rfl⟩
  have hS0 := keepS _ (below_drew (Below.refl _ _))
  have gA : ∀ w', Below w2.heap.size w2 w' → Calls Try.prog 12 #[.slice D dl dc] w' fun e w'' => e = .returned (.agg (([.int .i64 4, .string ⟨#[]⟩, .int .i64 0, .int .i64 0, .string ⟨#[]⟩, .slice none 0 0, .int .i64 0, .int .i64 0, .string ⟨#[]⟩, .slice none 0 0, .slice D dl dc, .slice none 0 0] : List Value)).toArray) ∧ Below w'.heap.size w' w'' := fun w' hb => asyncF w' D dl dc
  have gC : ∀ w', Below w2.heap.size w2 w' → PC w'.heap.size w' ([.int .i64 4, .string ⟨#[]⟩, .int .i64 0, .int .i64 0, .string ⟨#[]⟩, .slice none 0 0, .int .i64 0, .int .i64 0, .string ⟨#[]⟩, .slice none 0 0, .slice D dl dc, .slice none 0 0] : List Value) 1 ps := fun w' hb => hpsa ▸ asy_pc (ipa.step hb)
  have gV : ∀ w', Below w2.heap.size w2 w' → PC w'.heap.size w' csq dl2 pq ∧ SlV w' 12 (.slice D2 dl2 dc2) dl2 csq := fun w' hb => ⟨hcq.step hb, hsq.below hb⟩
  have gV3 : ∀ w', Below w2.heap.size w2 w' → PC w'.heap.size w' csc dl3 pc ∧ SlV w' 12 (.slice D3 dl3 dc3) dl3 csc := fun w' hb => ⟨hcc.step hb, hsc.below hb⟩
  clear hpsa
  go_wp2_with fail
  refine wp_walk_pg 20 (fun i => ([18,19] : List Nat).contains i) (fun i => ([14,15,17] : List Nat).contains i) [18,19] (by intro m h; simpa using h) (by kernel_rfl) (by kernel_rfl) (by kernel_rfl) [18,19] (by kernel_rfl) (fun w w' => Below w.heap.size w w') (fun w w' => ∀ q, Blk8 w q → Blk8 w' q) (fun w' => (Below w2.heap.size w2 w' ∧ w'.cell? ⟨Q, 0, none⟩ = some (.int .i64 b0) ∧ w'.cell? ⟨Q, 1, none⟩ = some (.int .i64 b1) ∧ w'.cell? ⟨Q, 2, none⟩ = some (.int .i64 b2) ∧ w'.cell? ⟨Q, 3, none⟩ = some (.int .i64 b3) ∧ w'.cell? ⟨Q, 4, none⟩ = some (.int .i64 b4) ∧ w'.cell? ⟨Q, 5, none⟩ = some (.int .i64 b5) ∧ w'.cell? ⟨Q, 6, none⟩ = some (.int .i64 b6) ∧ w'.cell? ⟨Q, 7, none⟩ = some (.int .i64 b7))) (fun c ρ w' => match c with | 0 => True | 1 => IT w2.heap.size tg (ρ 18) w' | _ + 2 => IT2 w2.heap.size [.int .i64 y0, .int .i64 y1, .int .i64 y2, .int .i64 y3, .int .i64 y4, .int .i64 y5, .int .i64 y6, .int .i64 y7] tg (ρ 18) (ρ 19) w') hS0 (fun _ => trivial) (fun c ρ w w' h k => match c, h with | 0, _ => trivial | 1, h => IT.step h k | _ + 2, h => IT2.step h k) (fun _ _ _ _ => trivial) (fun c ρ ρ' w h k => match c, k with | 0, _ => trivial | 1, k => IT.cong k (h 18 (by simp)) | _ + 2, k => IT2.cong k (h 18 (by simp)) (h 19 (by simp))) ?_
  simp only [List.length_cons, List.length_nil, Nat.reduceAdd, Nat.reduceSub, List.take_succ_cons, List.take_zero, List.drop_succ_cons, List.drop_zero]
  repeat (first | (refine gsettle_skip (by rfl) (fun _ => by rfl) ?_; (simp only [Act.put, List.setIfInBounds_toArray, List.set_cons_zero, List.set_cons_succ])) | (refine' gsettle_run (by rfl) (fun _ _ => Below.refl _ _) (fun _ => by rfl) ?_ ?_; rotate_left; (focus (intro ρ w hS hF hP hU; (try dsimp only at hS); go_split_ands; go_simp; try with_reducible rfl)); (simp only [Act.put, List.setIfInBounds_toArray, List.set_cons_zero, List.set_cons_succ])))
  (refine' gsettle_step (by rfl) (fun _ => by rfl) ?_ ?_; rotate_left; (focus (intro ρ w hS hF hP hU K hK; (simp only [Act.put, List.setIfInBounds_toArray, List.set_cons_zero, List.set_cons_succ] at hK); go_simp; go_at_call 12; refine (gA _ hS.1).mono ?_; rintro e w' ⟨rfl, hb'⟩; have hS' := keepS _ (below_next hb' hS.1); have hE' := hb'; exact hK _ hS' hE')); (simp only [Act.put, List.setIfInBounds_toArray, List.set_cons_zero, List.set_cons_succ]))
  (refine gsettle_known (FLx ps) (by rfl) (by rfl) (by rfl) (fun _ => by rfl)  ?_ ?_; (focus (intro ρ w hS hF hP hU K hK; (simp only [Act.put, List.setIfInBounds_toArray, List.set_cons_zero, List.set_cons_succ] at hK); go_simp; exact hK _ _ (FLx.new rfl (gC _ hS.1)) (keepS _ (below_alloc hS.1 _)) (below_alloc (Below.refl _ _) _))); (simp only [Act.put, List.setIfInBounds_toArray, List.set_cons_zero, List.set_cons_succ]))
  repeat (first | (refine gsettle_skip (by rfl) (fun _ => by rfl) ?_; (simp only [Act.put, List.setIfInBounds_toArray, List.set_cons_zero, List.set_cons_succ])) | (refine' gsettle_run (by rfl) (fun _ _ => Below.refl _ _) (fun _ => by rfl) ?_ ?_; rotate_left; (focus (intro ρ w hS hF hP hU; (try dsimp only at hS); go_split_ands; go_simp; try with_reducible rfl)); (simp only [Act.put, List.setIfInBounds_toArray, List.set_cons_zero, List.set_cons_succ])))
  (refine gsettle_known (FPu pb) (by rfl) (by rfl) (by rfl) (fun _ => by rfl) ?_ ?_; (focus (intro ρ w hS hF hP hU K hK; obtain ⟨A1, cs1, e38, h38, hp38⟩ := hF.1 (by rfl); refine oper_app (.tmp 39) (.tmp 40) _ _ _ _ _ Try.underlying22 info_stmt rfl (by decide) h38 (gV _ hS.1).2 honeb n63 n47 rfl e38 rfl ?_; intro A' c' w' hsl hb'; exact hK _ _ ⟨A', _, c', rfl, hpsq ▸ IsP.of_slv ((PC.step hp38 hb').append (PC.step (gV _ hS.1).1 hb')) hsl⟩ (keepS _ (below_next hb' hS.1)) hb')); (simp only [Act.put, List.setIfInBounds_toArray, List.set_cons_zero, List.set_cons_succ]))
  (refine gsettle_known (FFu pb) (by rfl) (by rfl) (by rfl) (fun _ => by rfl)  ?_ ?_; (focus (intro ρ w hS hF hP hU K hK; (simp only [Act.put, List.setIfInBounds_toArray, List.set_cons_zero, List.set_cons_succ] at hK); go_simp; (obtain ⟨A0, n0, c0, e41, h41⟩ := hF.1 (by rfl); rw [e41] at hK ⊢; go_at_call 9; refine (finishF _ A0 n0 c0).mono ?_; rintro e w' ⟨rfl, hb'⟩; exact hK _ _ ⟨A0, n0, c0, rfl, h41.step hb'⟩ (keepS _ (below_next hb' hS.1)) hb'))); (simp only [Act.put, List.setIfInBounds_toArray, List.set_cons_zero, List.set_cons_succ]))
  (refine gsettle_known (FLx pf) (by rfl) (by rfl) (by rfl) (fun _ => by rfl) ?_ ?_; (focus (intro ρ w hS hF hP hU K hK; (simp only [Act.put, List.setIfInBounds_toArray, List.set_cons_zero, List.set_cons_succ] at hK); obtain ⟨A0, n0, c0, e42, h42⟩ := hF.1 (by rfl); generalize ρ 42 = v42 at e42 hK ⊢; subst e42; go_simp; exact hK _ _ (FLx.new rfl (hpbf ▸ fin_pc h42)) (keepS _ (below_alloc hS.1 _)) (below_alloc (Below.refl _ _) _))); (simp only [Act.put, List.setIfInBounds_toArray, List.set_cons_zero, List.set_cons_succ]))
  repeat (first | (refine gsettle_skip (by rfl) (fun _ => by rfl) ?_; (simp only [Act.put, List.setIfInBounds_toArray, List.set_cons_zero, List.set_cons_succ])) | (refine' gsettle_run (by rfl) (fun _ _ => Below.refl _ _) (fun _ => by rfl) ?_ ?_; rotate_left; (focus (intro ρ w hS hF hP hU; (try dsimp only at hS); go_split_ands; go_simp; try with_reducible rfl)); (simp only [Act.put, List.setIfInBounds_toArray, List.set_cons_zero, List.set_cons_succ])))
  (refine gsettle_known (FPu pg) (by rfl) (by rfl) (by rfl) (fun _ => by rfl) ?_ ?_; (focus (intro ρ w hS hF hP hU K hK; obtain ⟨A1, cs1, e38, h38, hp38⟩ := hF.1 (by rfl); refine oper_app (.tmp 43) (.tmp 44) _ _ _ _ _ Try.underlying22 info_stmt rfl (by decide) h38 (gV3 _ hS.1).2 honec n63c n47c rfl e38 rfl ?_; intro A' c' w' hsl hb'; exact hK _ _ ⟨A', _, c', rfl, hpgc ▸ IsP.of_slv ((PC.step hp38 hb').append (PC.step (gV3 _ hS.1).1 hb')) hsl⟩ (keepS _ (below_next hb' hS.1)) hb')); (simp only [Act.put, List.setIfInBounds_toArray, List.set_cons_zero, List.set_cons_succ]))
  repeat (first | (refine gsettle_skip (by rfl) (fun _ => by rfl) ?_; (simp only [Act.put, List.setIfInBounds_toArray, List.set_cons_zero, List.set_cons_succ])) | (refine' gsettle_run (by rfl) (fun _ _ => Below.refl _ _) (fun _ => by rfl) ?_ ?_; rotate_left; (focus (intro ρ w hS hF hP hU; (try dsimp only at hS); go_split_ands; go_simp; try with_reducible rfl)); (simp only [Act.put, List.setIfInBounds_toArray, List.set_cons_zero, List.set_cons_succ])))
  (refine gsettle_known (FUn #[.int .i64 y0, .int .i64 y1, .int .i64 y2, .int .i64 y3, .int .i64 y4, .int .i64 y5, .int .i64 y6, .int .i64 y7] Eg tg) (by rfl) (by rfl) (by rfl) (fun _ => by rfl)  ?_ ?_; (focus (intro ρ w hS hF hP hU K hK; (simp only [Act.put, List.setIfInBounds_toArray, List.set_cons_zero, List.set_cons_succ] at hK); go_simp; (obtain ⟨A0, n0, c0, e14, h14⟩ := hF.1 (by rfl); rw [e14] at hK ⊢; go_at_call 8; refine (hUg _ _ _ _ h14).mono ?_; rintro e w' ⟨k, c, b, l, A, n, cap, rfl, -, h2, hb'⟩; exact hK _ _ ⟨k, c, b, l, A, n, cap, rfl, h2⟩ (keepS _ (below_next hb' hS.1)) hb'))); (simp only [Act.put, List.setIfInBounds_toArray, List.set_cons_zero, List.set_cons_succ]))
  (refine gsettle_known (FUn #[.int .i64 y0, .int .i64 y1, .int .i64 y2, .int .i64 y3, .int .i64 y4, .int .i64 y5, .int .i64 y6, .int .i64 y7] Eg tg) (by rfl) (by rfl) (by rfl) (fun _ => by rfl)  ?_ ?_; (focus (intro ρ w hS hF hP hU K hK; (simp only [Act.put, List.setIfInBounds_toArray, List.set_cons_zero, List.set_cons_succ] at hK); go_simp; exact hK _ _ (hF.1 (by rfl)) hS (Below.refl _ _))); (simp only [Act.put, List.setIfInBounds_toArray, List.set_cons_zero, List.set_cons_succ]))
  (refine gsettle_known (FTu tg) (by rfl) (by rfl) (by rfl) (fun _ => by rfl)  ?_ ?_; (focus (intro ρ w hS hF hP hU K hK; (simp only [Act.put, List.setIfInBounds_toArray, List.set_cons_zero, List.set_cons_succ] at hK); go_simp; (obtain ⟨k, c, b, l, A, n, cap, e12, h12⟩ := hF.1 (by rfl); generalize ρ 36 = v12 at e12 hK ⊢; subst e12; go_simp; exact hK _ _ ⟨k, c, b, l, A, n, cap, rfl, h12⟩ hS (Below.refl _ _)))); (simp only [Act.put, List.setIfInBounds_toArray, List.set_cons_zero, List.set_cons_succ]))
  (refine gsettle_run (v := .agg #[.int .i64 y0, .int .i64 y1, .int .i64 y2, .int .i64 y3, .int .i64 y4, .int .i64 y5, .int .i64 y6, .int .i64 y7]) (by rfl) (fun _ _ => Below.refl _ _) (fun _ => by rfl) ?_ ?_; (focus (intro ρ w hS hF hP hU2; obtain ⟨w9, k, c, b, l, A, n, cap, e12, -⟩ := hU2.1 36 (FUn #[.int .i64 y0, .int .i64 y1, .int .i64 y2, .int .i64 y3, .int .i64 y4, .int .i64 y5, .int .i64 y6, .int .i64 y7] Eg tg) (by repeat (first | exact List.mem_cons_self | apply List.mem_cons_of_mem)) (by decide); generalize ρ 36 = v12 at e12 ⊢; subst e12; go_simp)); (simp only [Act.put, List.setIfInBounds_toArray, List.set_cons_zero, List.set_cons_succ]))
  (refine gsettle_run (v := .int .i64 Eg) (by rfl) (fun _ _ => Below.refl _ _) (fun _ => by rfl) ?_ ?_; (focus (intro ρ w hS hF hP hU2; obtain ⟨w9, k, c, b, l, A, n, cap, e12, -⟩ := hU2.1 36 (FUn #[.int .i64 y0, .int .i64 y1, .int .i64 y2, .int .i64 y3, .int .i64 y4, .int .i64 y5, .int .i64 y6, .int .i64 y7] Eg tg) (by repeat (first | exact List.mem_cons_self | apply List.mem_cons_of_mem)) (by decide); generalize ρ 36 = v12 at e12 ⊢; subst e12; go_simp)); (simp only [Act.put, List.setIfInBounds_toArray, List.set_cons_zero, List.set_cons_succ]))
  (refine gsettle_known (FZu w2.heap.size 30 zterm) (by rfl) (by rfl) (by rfl) (fun _ => by rfl)  ?_ ?_; (focus (intro ρ w hS hF hP hU K hK; (simp only [Act.put, List.setIfInBounds_toArray, List.set_cons_zero, List.set_cons_succ] at hK); go_simp; exact hK _ _ ⟨_, rfl, hS.1.size, Blk.new _ _ zterm⟩ (keepS _ (below_alloc hS.1 _)) (below_alloc (Below.refl _ _) _))); (simp only [Act.put, List.setIfInBounds_toArray, List.set_cons_zero, List.set_cons_succ]))
  (refine gsettle_float (FH8 w2.heap.size) (fun v w w' ⟨g, h1, h2, h3⟩ k ↦ ⟨g, h1, h2, k _ h3⟩) (by rfl) (by rfl) (by rfl) (fun _ => by rfl) ?_ ?_; (focus (intro ρ w hS hF hP hU K hK; (simp only [Act.put, List.setIfInBounds_toArray, List.set_cons_zero, List.set_cons_succ] at hK); go_simp; exact hK _ _ ⟨_, rfl, hS.1.size, zheap, rfl, Blk.new _ _ zheap⟩ (keepS _ (below_alloc hS.1 _)) (below_alloc (Below.refl _ _) _))); (simp only [Act.put, List.setIfInBounds_toArray, List.set_cons_zero, List.set_cons_succ]))
  (refine gsettle_turn (v := undef) (by rfl) (fun _ => by rfl) ?_ ?_; (focus (intro ρ w hS hF hP hU K hK; (simp only [Act.put, List.setIfInBounds_toArray, List.set_cons_zero, List.set_cons_succ] at hK); (obtain ⟨S, hv, hg1, hB⟩ := hF.2.1 (by rfl); obtain ⟨k, c, b, l, A, n, cap, e18, h18⟩ := hF.2.2.1 (by rfl); refine wp_put_blk hB [.int .i64 k, .int .i64 c, .bool b, .int .i64 l, .slice A n cap] (by kernel_rfl) rfl (by intro v hv; simp at hv; rcases hv with rfl | rfl | rfl | rfl | rfl <;> rfl) rfl hv e18 ?_; intro w5 hB5 hg5; exact hK _ (keepS _ (hS.1.trans (below_of_grown hg5 hS.1.size hg1))) ⟨S, k, c, b, l, A, n, cap, hv, hg1, hB5, (h18.put_short hB (by decide) hg5 (Nat.le_refl _)).up hg5.size⟩ (fun q ⟨cs, hl, hq⟩ => ⟨cs, hl, hq.grown hg5 (fun e => by injection e with e; subst e; exact absurd (blk_type hq hB) (by decide))⟩)))); (simp only [Act.put, List.setIfInBounds_toArray, List.set_cons_zero, List.set_cons_succ]))
  (refine gsettle_turn (v := undef) (by rfl) (fun _ => by rfl) ?_ ?_; (focus (intro ρ w hS hF hP hU K hK; (simp only [Act.put, List.setIfInBounds_toArray, List.set_cons_zero, List.set_cons_succ] at hK); (obtain ⟨S, k, c, b, l, A, n, cap, hv, hg1, hB, h18⟩ := hP (by rfl); obtain ⟨H, hv8, hg8, cs8, hl8, hB8⟩ := hU.2 19 (FH8 w2.heap.size) (by repeat (first | exact List.mem_cons_self | apply List.mem_cons_of_mem)) (by decide); refine wp_put_blk hB8 [.int .i64 y0, .int .i64 y1, .int .i64 y2, .int .i64 y3, .int .i64 y4, .int .i64 y5, .int .i64 y6, .int .i64 y7] (by rw [hl8]; kernel_rfl) (by rw [hl8]; rfl) (by intro v hv; simp at hv; rcases hv with rfl | rfl | rfl | rfl | rfl | rfl | rfl | rfl <;> rfl) rfl hv8 rfl ?_; intro w5 hB5 hg5; exact hK _ (keepS _ (hS.1.trans (below_of_grown hg5 hS.1.size hg8))) ⟨⟨S, k, c, b, l, A, n, cap, hv, hg1, hB.grown hg5 (fun e => by injection e with e; subst e; exact absurd (blk_type hB hB8) (by decide)), (h18.put_short hB8 (by omega) hg5 (Nat.le_refl _)).up hg5.size⟩, H, hv8, hg8, hB5⟩ (blk8_put rfl hB5 hg5)))); (simp only [Act.put, List.setIfInBounds_toArray, List.set_cons_zero, List.set_cons_succ]))
  refine gsettle_nil ?_
  intro ρ w4 hS hI hF hG
  obtain ⟨⟨S4, k4, c4, t4, l4, A4, n4, p4, e7, -, q4t, ks4⟩, H4, e8, -, q4h⟩ := hI
  have hb4 := hS.1
  clear hF hG hS hS0 keepS
  dsimp only
  rw [e7, e8]
  clear e7 e8
  replace bx := bx.below hb4
  replace ipa := ipa.step hb4
  replace hb0 := below_next hb4 hb0
  replace q5t := q5t.below hb4
  replace ks5 := ks5.step_ hb4
  replace hcq := hcq.step hb4
  replace hsq := hsq.below hb4
  clear hUg gV gV3 gA gC hcc hsc honec hpgc n63c n47c ipc ipq q4h
  have hpsa : ps = Un.asy pa .nil := HPG.out.1
  have keepS : ∀ w', Below w4.heap.size w4 w' → (Below w4.heap.size w4 w' ∧ w'.cell? ⟨Q, 0, none⟩ = some (.int .i64 b0) ∧ w'.cell? ⟨Q, 1, none⟩ = some (.int .i64 b1) ∧ w'.cell? ⟨Q, 2, none⟩ = some (.int .i64 b2) ∧ w'.cell? ⟨Q, 3, none⟩ = some (.int .i64 b3) ∧ w'.cell? ⟨Q, 4, none⟩ = some (.int .i64 b4) ∧ w'.cell? ⟨Q, 5, none⟩ = some (.int .i64 b5) ∧ w'.cell? ⟨Q, 6, none⟩ = some (.int .i64 b6) ∧ w'.cell? ⟨Q, 7, none⟩ = some (.int .i64 b7)) := fun w' hb => ⟨hb, ((bx.below hb).cell 0).trans rfl, ((bx.below hb).cell 1).trans rfl, ((bx.below hb).cell 2).trans rfl, ((bx.below hb).cell 3).trans rfl, ((bx.below hb).cell 4).trans rfl, ((bx.below hb).cell 5).trans rfl, ((bx.below hb).cell 6).trans rfl, ((bx.below hb).cell 7).trans rfl⟩
  have hS0 := keepS _ (below_drew (Below.refl _ _))
  have gA : ∀ w', Below w4.heap.size w4 w' → Calls Try.prog 12 #[.slice D dl dc] w' fun e w'' => e = .returned (.agg (([.int .i64 4, .string ⟨#[]⟩, .int .i64 0, .int .i64 0, .string ⟨#[]⟩, .slice none 0 0, .int .i64 0, .int .i64 0, .string ⟨#[]⟩, .slice none 0 0, .slice D dl dc, .slice none 0 0] : List Value)).toArray) ∧ Below w'.heap.size w' w'' := fun w' hb => asyncF w' D dl dc
  have gC : ∀ w', Below w4.heap.size w4 w' → PC w'.heap.size w' ([.int .i64 4, .string ⟨#[]⟩, .int .i64 0, .int .i64 0, .string ⟨#[]⟩, .slice none 0 0, .int .i64 0, .int .i64 0, .string ⟨#[]⟩, .slice none 0 0, .slice D dl dc, .slice none 0 0] : List Value) 1 ps := fun w' hb => hpsa ▸ asy_pc (ipa.step hb)
  have gV : ∀ w', Below w4.heap.size w4 w' → PC w'.heap.size w' csq dl2 pq ∧ SlV w' 12 (.slice D2 dl2 dc2) dl2 csq := fun w' hb => ⟨hcq.step hb, hsq.below hb⟩
  clear hpsa hb4
  go_wp2_with fail
  refine wp_walk_pg 18 (fun i => ([16,17] : List Nat).contains i) (fun i => ([12,13,15] : List Nat).contains i) [16,17] (by intro m h; simpa using h) (by kernel_rfl) (by kernel_rfl) (by kernel_rfl) [21,22] (by kernel_rfl) (fun w w' => Below w.heap.size w w') (fun w w' => ∀ q, Blk8 w q → Blk8 w' q) (fun w' => (Below w4.heap.size w4 w' ∧ w'.cell? ⟨Q, 0, none⟩ = some (.int .i64 b0) ∧ w'.cell? ⟨Q, 1, none⟩ = some (.int .i64 b1) ∧ w'.cell? ⟨Q, 2, none⟩ = some (.int .i64 b2) ∧ w'.cell? ⟨Q, 3, none⟩ = some (.int .i64 b3) ∧ w'.cell? ⟨Q, 4, none⟩ = some (.int .i64 b4) ∧ w'.cell? ⟨Q, 5, none⟩ = some (.int .i64 b5) ∧ w'.cell? ⟨Q, 6, none⟩ = some (.int .i64 b6) ∧ w'.cell? ⟨Q, 7, none⟩ = some (.int .i64 b7))) (fun c ρ w' => match c with | 0 => True | 1 => IT w4.heap.size tf (ρ 21) w' | _ + 2 => IT2 w4.heap.size [.int .i64 x0, .int .i64 x1, .int .i64 x2, .int .i64 x3, .int .i64 x4, .int .i64 x5, .int .i64 x6, .int .i64 x7] tf (ρ 21) (ρ 22) w') hS0 (fun _ => trivial) (fun c ρ w w' h k => match c, h with | 0, _ => trivial | 1, h => IT.step h k | _ + 2, h => IT2.step h k) (fun _ _ _ _ => trivial) (fun c ρ ρ' w h k => match c, k with | 0, _ => trivial | 1, k => IT.cong k (h 21 (by simp)) | _ + 2, k => IT2.cong k (h 21 (by simp)) (h 22 (by simp))) ?_
  simp only [List.length_cons, List.length_nil, Nat.reduceAdd, Nat.reduceSub, List.take_succ_cons, List.take_zero, List.drop_succ_cons, List.drop_zero]
  repeat (first | (refine gsettle_skip (by rfl) (fun _ => by rfl) ?_; (simp only [Act.put, List.setIfInBounds_toArray, List.set_cons_zero, List.set_cons_succ])) | (refine' gsettle_run (by rfl) (fun _ _ => Below.refl _ _) (fun _ => by rfl) ?_ ?_; rotate_left; (focus (intro ρ w hS hF hP hU; (try dsimp only at hS); go_split_ands; go_simp; try with_reducible rfl)); (simp only [Act.put, List.setIfInBounds_toArray, List.set_cons_zero, List.set_cons_succ])))
  (refine' gsettle_step (by rfl) (fun _ => by rfl) ?_ ?_; rotate_left; (focus (intro ρ w hS hF hP hU K hK; (simp only [Act.put, List.setIfInBounds_toArray, List.set_cons_zero, List.set_cons_succ] at hK); go_simp; go_at_call 12; refine (gA _ hS.1).mono ?_; rintro e w' ⟨rfl, hb'⟩; have hS' := keepS _ (below_next hb' hS.1); have hE' := hb'; exact hK _ hS' hE')); (simp only [Act.put, List.setIfInBounds_toArray, List.set_cons_zero, List.set_cons_succ]))
  (refine gsettle_known (FLx ps) (by rfl) (by rfl) (by rfl) (fun _ => by rfl)  ?_ ?_; (focus (intro ρ w hS hF hP hU K hK; (simp only [Act.put, List.setIfInBounds_toArray, List.set_cons_zero, List.set_cons_succ] at hK); go_simp; exact hK _ _ (FLx.new rfl (gC _ hS.1)) (keepS _ (below_alloc hS.1 _)) (below_alloc (Below.refl _ _) _))); (simp only [Act.put, List.setIfInBounds_toArray, List.set_cons_zero, List.set_cons_succ]))
  repeat (first | (refine gsettle_skip (by rfl) (fun _ => by rfl) ?_; (simp only [Act.put, List.setIfInBounds_toArray, List.set_cons_zero, List.set_cons_succ])) | (refine' gsettle_run (by rfl) (fun _ _ => Below.refl _ _) (fun _ => by rfl) ?_ ?_; rotate_left; (focus (intro ρ w hS hF hP hU; (try dsimp only at hS); go_split_ands; go_simp; try with_reducible rfl)); (simp only [Act.put, List.setIfInBounds_toArray, List.set_cons_zero, List.set_cons_succ])))
  (refine gsettle_known (FPu pb) (by rfl) (by rfl) (by rfl) (fun _ => by rfl) ?_ ?_; (focus (intro ρ w hS hF hP hU K hK; obtain ⟨A1, cs1, e38, h38, hp38⟩ := hF.1 (by rfl); refine oper_app (.tmp 55) (.tmp 56) _ _ _ _ _ Try.underlying22 info_stmt rfl (by decide) h38 (gV _ hS.1).2 honeb n63 n47 rfl e38 rfl ?_; intro A' c' w' hsl hb'; exact hK _ _ ⟨A', _, c', rfl, hpsq ▸ IsP.of_slv ((PC.step hp38 hb').append (PC.step (gV _ hS.1).1 hb')) hsl⟩ (keepS _ (below_next hb' hS.1)) hb')); (simp only [Act.put, List.setIfInBounds_toArray, List.set_cons_zero, List.set_cons_succ]))
  (refine gsettle_known (FFu pb) (by rfl) (by rfl) (by rfl) (fun _ => by rfl)  ?_ ?_; (focus (intro ρ w hS hF hP hU K hK; (simp only [Act.put, List.setIfInBounds_toArray, List.set_cons_zero, List.set_cons_succ] at hK); go_simp; (obtain ⟨A0, n0, c0, e41, h41⟩ := hF.1 (by rfl); rw [e41] at hK ⊢; go_at_call 9; refine (finishF _ A0 n0 c0).mono ?_; rintro e w' ⟨rfl, hb'⟩; exact hK _ _ ⟨A0, n0, c0, rfl, h41.step hb'⟩ (keepS _ (below_next hb' hS.1)) hb'))); (simp only [Act.put, List.setIfInBounds_toArray, List.set_cons_zero, List.set_cons_succ]))
  (refine gsettle_known (FPu pf) (by rfl) (by rfl) (by rfl) (fun _ => by rfl) ?_ ?_; (focus (intro ρ w hS hF hP hU K hK; (simp only [Act.put, List.setIfInBounds_toArray, List.set_cons_zero, List.set_cons_succ] at hK); obtain ⟨A0, n0, c0, e42, h42⟩ := hF.1 (by rfl); generalize ρ 58 = v42 at e42 hK ⊢; subst e42; go_simp; exact hK _ _ (FLx.is (FLx.new rfl (hpbf ▸ fin_pc h42))) (keepS _ (below_alloc hS.1 _)) (below_alloc (Below.refl _ _) _))); (simp only [Act.put, List.setIfInBounds_toArray, List.set_cons_zero, List.set_cons_succ]))
  repeat (first | (refine gsettle_skip (by rfl) (fun _ => by rfl) ?_; (simp only [Act.put, List.setIfInBounds_toArray, List.set_cons_zero, List.set_cons_succ])) | (refine' gsettle_run (by rfl) (fun _ _ => Below.refl _ _) (fun _ => by rfl) ?_ ?_; rotate_left; (focus (intro ρ w hS hF hP hU; (try dsimp only at hS); go_split_ands; go_simp; try with_reducible rfl)); (simp only [Act.put, List.setIfInBounds_toArray, List.set_cons_zero, List.set_cons_succ])))
  (refine gsettle_known (FUn #[.int .i64 x0, .int .i64 x1, .int .i64 x2, .int .i64 x3, .int .i64 x4, .int .i64 x5, .int .i64 x6, .int .i64 x7] Ef tf) (by rfl) (by rfl) (by rfl) (fun _ => by rfl)  ?_ ?_; (focus (intro ρ w hS hF hP hU K hK; (simp only [Act.put, List.setIfInBounds_toArray, List.set_cons_zero, List.set_cons_succ] at hK); go_simp; (obtain ⟨A0, n0, c0, e14, h14⟩ := hF.1 (by rfl); rw [e14] at hK ⊢; go_at_call 8; refine (hUf _ _ _ _ h14).mono ?_; rintro e w' ⟨k, c, b, l, A, n, cap, rfl, -, h2, hb'⟩; exact hK _ _ ⟨k, c, b, l, A, n, cap, rfl, h2⟩ (keepS _ (below_next hb' hS.1)) hb'))); (simp only [Act.put, List.setIfInBounds_toArray, List.set_cons_zero, List.set_cons_succ]))
  (refine gsettle_known (FUn #[.int .i64 x0, .int .i64 x1, .int .i64 x2, .int .i64 x3, .int .i64 x4, .int .i64 x5, .int .i64 x6, .int .i64 x7] Ef tf) (by rfl) (by rfl) (by rfl) (fun _ => by rfl)  ?_ ?_; (focus (intro ρ w hS hF hP hU K hK; (simp only [Act.put, List.setIfInBounds_toArray, List.set_cons_zero, List.set_cons_succ] at hK); go_simp; exact hK _ _ (hF.1 (by rfl)) hS (Below.refl _ _))); (simp only [Act.put, List.setIfInBounds_toArray, List.set_cons_zero, List.set_cons_succ]))
  (refine gsettle_known (FTu tf) (by rfl) (by rfl) (by rfl) (fun _ => by rfl)  ?_ ?_; (focus (intro ρ w hS hF hP hU K hK; (simp only [Act.put, List.setIfInBounds_toArray, List.set_cons_zero, List.set_cons_succ] at hK); go_simp; (obtain ⟨k, c, b, l, A, n, cap, e12, h12⟩ := hF.1 (by rfl); generalize ρ 52 = v12 at e12 hK ⊢; subst e12; go_simp; exact hK _ _ ⟨k, c, b, l, A, n, cap, rfl, h12⟩ hS (Below.refl _ _)))); (simp only [Act.put, List.setIfInBounds_toArray, List.set_cons_zero, List.set_cons_succ]))
  (refine gsettle_run (v := .agg #[.int .i64 x0, .int .i64 x1, .int .i64 x2, .int .i64 x3, .int .i64 x4, .int .i64 x5, .int .i64 x6, .int .i64 x7]) (by rfl) (fun _ _ => Below.refl _ _) (fun _ => by rfl) ?_ ?_; (focus (intro ρ w hS hF hP hU2; obtain ⟨w9, k, c, b, l, A, n, cap, e12, -⟩ := hU2.1 52 (FUn #[.int .i64 x0, .int .i64 x1, .int .i64 x2, .int .i64 x3, .int .i64 x4, .int .i64 x5, .int .i64 x6, .int .i64 x7] Ef tf) (by repeat (first | exact List.mem_cons_self | apply List.mem_cons_of_mem)) (by decide); generalize ρ 52 = v12 at e12 ⊢; subst e12; go_simp)); (simp only [Act.put, List.setIfInBounds_toArray, List.set_cons_zero, List.set_cons_succ]))
  (refine gsettle_run (v := .int .i64 Ef) (by rfl) (fun _ _ => Below.refl _ _) (fun _ => by rfl) ?_ ?_; (focus (intro ρ w hS hF hP hU2; obtain ⟨w9, k, c, b, l, A, n, cap, e12, -⟩ := hU2.1 52 (FUn #[.int .i64 x0, .int .i64 x1, .int .i64 x2, .int .i64 x3, .int .i64 x4, .int .i64 x5, .int .i64 x6, .int .i64 x7] Ef tf) (by repeat (first | exact List.mem_cons_self | apply List.mem_cons_of_mem)) (by decide); generalize ρ 52 = v12 at e12 ⊢; subst e12; go_simp)); (simp only [Act.put, List.setIfInBounds_toArray, List.set_cons_zero, List.set_cons_succ]))
  (refine gsettle_known (FZu w4.heap.size 30 zterm) (by rfl) (by rfl) (by rfl) (fun _ => by rfl)  ?_ ?_; (focus (intro ρ w hS hF hP hU K hK; (simp only [Act.put, List.setIfInBounds_toArray, List.set_cons_zero, List.set_cons_succ] at hK); go_simp; exact hK _ _ ⟨_, rfl, hS.1.size, Blk.new _ _ zterm⟩ (keepS _ (below_alloc hS.1 _)) (below_alloc (Below.refl _ _) _))); (simp only [Act.put, List.setIfInBounds_toArray, List.set_cons_zero, List.set_cons_succ]))
  (refine gsettle_float (FH8 w4.heap.size) (fun v w w' ⟨g, h1, h2, h3⟩ k ↦ ⟨g, h1, h2, k _ h3⟩) (by rfl) (by rfl) (by rfl) (fun _ => by rfl) ?_ ?_; (focus (intro ρ w hS hF hP hU K hK; (simp only [Act.put, List.setIfInBounds_toArray, List.set_cons_zero, List.set_cons_succ] at hK); go_simp; exact hK _ _ ⟨_, rfl, hS.1.size, zheap, rfl, Blk.new _ _ zheap⟩ (keepS _ (below_alloc hS.1 _)) (below_alloc (Below.refl _ _) _))); (simp only [Act.put, List.setIfInBounds_toArray, List.set_cons_zero, List.set_cons_succ]))
  (refine gsettle_turn (v := undef) (by rfl) (fun _ => by rfl) ?_ ?_; (focus (intro ρ w hS hF hP hU K hK; (simp only [Act.put, List.setIfInBounds_toArray, List.set_cons_zero, List.set_cons_succ] at hK); (obtain ⟨S, hv, hg1, hB⟩ := hF.2.1 (by rfl); obtain ⟨k, c, b, l, A, n, cap, e18, h18⟩ := hF.2.2.1 (by rfl); refine wp_put_blk hB [.int .i64 k, .int .i64 c, .bool b, .int .i64 l, .slice A n cap] (by kernel_rfl) rfl (by intro v hv; simp at hv; rcases hv with rfl | rfl | rfl | rfl | rfl <;> rfl) rfl hv e18 ?_; intro w5 hB5 hg5; exact hK _ (keepS _ (hS.1.trans (below_of_grown hg5 hS.1.size hg1))) ⟨S, k, c, b, l, A, n, cap, hv, hg1, hB5, (h18.put_short hB (by decide) hg5 (Nat.le_refl _)).up hg5.size⟩ (fun q ⟨cs, hl, hq⟩ => ⟨cs, hl, hq.grown hg5 (fun e => by injection e with e; subst e; exact absurd (blk_type hq hB) (by decide))⟩)))); (simp only [Act.put, List.setIfInBounds_toArray, List.set_cons_zero, List.set_cons_succ]))
  (refine gsettle_turn (v := undef) (by rfl) (fun _ => by rfl) ?_ ?_; (focus (intro ρ w hS hF hP hU K hK; (simp only [Act.put, List.setIfInBounds_toArray, List.set_cons_zero, List.set_cons_succ] at hK); (obtain ⟨S, k, c, b, l, A, n, cap, hv, hg1, hB, h18⟩ := hP (by rfl); obtain ⟨H, hv8, hg8, cs8, hl8, hB8⟩ := hU.2 22 (FH8 w4.heap.size) (by repeat (first | exact List.mem_cons_self | apply List.mem_cons_of_mem)) (by decide); refine wp_put_blk hB8 [.int .i64 x0, .int .i64 x1, .int .i64 x2, .int .i64 x3, .int .i64 x4, .int .i64 x5, .int .i64 x6, .int .i64 x7] (by rw [hl8]; kernel_rfl) (by rw [hl8]; rfl) (by intro v hv; simp at hv; rcases hv with rfl | rfl | rfl | rfl | rfl | rfl | rfl | rfl <;> rfl) rfl hv8 rfl ?_; intro w5 hB5 hg5; exact hK _ (keepS _ (hS.1.trans (below_of_grown hg5 hS.1.size hg8))) ⟨⟨S, k, c, b, l, A, n, cap, hv, hg1, hB.grown hg5 (fun e => by injection e with e; subst e; exact absurd (blk_type hB hB8) (by decide)), (h18.put_short hB8 (by omega) hg5 (Nat.le_refl _)).up hg5.size⟩, H, hv8, hg8, hB5⟩ (blk8_put rfl hB5 hg5)))); (simp only [Act.put, List.setIfInBounds_toArray, List.set_cons_zero, List.set_cons_succ]))
  refine gsettle_nil ?_
  intro ρ w8 hS hI hF hG
  obtain ⟨⟨S3, k3, c3, t3, l3, A3, n3, p3, e7, -, q3t, ks3⟩, H3, e8, -, q3h⟩ := hI
  have hb8 := hS.1
  clear hF hG hS hS0 keepS
  dsimp only
  rw [e7, e8]
  clear e7 e8
  replace hb0 := below_next hb8 hb0
  replace q5t := q5t.below hb8
  replace ks5 := ks5.step_ hb8
  replace q4t := q4t.below hb8
  replace ks4 := ks4.step_ hb8
  clear hUf gV gA gC hcq hsq honeb hpsq hpbf n63 n47 ipa bx q3h hb8 HPG
  have HB8 := Lib.hid hb0
  clear hb0
  rcases hf0 : (Ea != 0) with _ | _
  · rcases hg0 : (Eg != 0) with _ | _
    · rcases hk0 : (Ef != 0) with _ | _
      · have hEa : Ea = 0 := by rw [bne_eq_false_iff_eq] at hf0; exact hf0
        have hEg : Eg = 0 := by rw [bne_eq_false_iff_eq] at hg0; exact hg0
        have hEf : Ef = 0 := by rw [bne_eq_false_iff_eq] at hk0; exact hk0
        subst hEf hEg hEa
        obtain ⟨hlaw, hzf, hzg, hza⟩ := HH.out
        obtain ⟨tb, tc, ht1, ht2⟩ := hlaw rfl rfl rfl
        have hsz : tf.size = (Sp.T.two true ta tb).size := by rw [ht2, Sp.T.size_two]; rfl
        have hbf : ¬ i < 0 → ¬ (ta.size : Int) ≤ i → ¬ j < (ta.size : Int) → ¬ (tg.size : Int) ≤ j → tg.before i j = decide ((tf.size : Int) ≤ j) ∧ tg.before j i = false := fun h1 h2 h3 h4 => by
          refine ⟨?_, Sp.T.before_not tg j i (by omega)⟩
          rw [ht1] at h4 ⊢
          rw [hsz]
          exact Sp.T.async_before ta tb tc i j (by omega) (by omega) (by omega) (by omega)
        have HL := Lib.hid (And.intro hbf (And.intro hzf (And.intro hzg hza)))
        have hcs : ∀ w', Below w8.heap.size w8 w' → (Below w8.heap.size w8 w' ∧ w'.cell? ⟨S3, 0, none⟩ = some (.int .i64 k3) ∧ w'.cell? ⟨S3, 1, none⟩ = some (.int .i64 c3) ∧ w'.cell? ⟨S3, 2, none⟩ = some (.bool t3) ∧ w'.cell? ⟨S3, 3, none⟩ = some (.int .i64 l3) ∧ w'.cell? ⟨S3, 4, none⟩ = some (.slice A3 n3 p3) ∧ w'.cell? ⟨S4, 0, none⟩ = some (.int .i64 k4) ∧ w'.cell? ⟨S4, 1, none⟩ = some (.int .i64 c4) ∧ w'.cell? ⟨S4, 2, none⟩ = some (.bool t4) ∧ w'.cell? ⟨S4, 3, none⟩ = some (.int .i64 l4) ∧ w'.cell? ⟨S4, 4, none⟩ = some (.slice A4 n4 p4) ∧ w'.cell? ⟨S5, 0, none⟩ = some (.int .i64 k5) ∧ w'.cell? ⟨S5, 1, none⟩ = some (.int .i64 c5) ∧ w'.cell? ⟨S5, 2, none⟩ = some (.bool t5) ∧ w'.cell? ⟨S5, 3, none⟩ = some (.int .i64 l5) ∧ w'.cell? ⟨S5, 4, none⟩ = some (.slice A5 n5 p5)) := fun w' hb => ⟨hb, ((q3t.below hb).cell 0).trans rfl, ((q3t.below hb).cell 1).trans rfl, ((q3t.below hb).cell 2).trans rfl, ((q3t.below hb).cell 3).trans rfl, ((q3t.below hb).cell 4).trans rfl, ((q4t.below hb).cell 0).trans rfl, ((q4t.below hb).cell 1).trans rfl, ((q4t.below hb).cell 2).trans rfl, ((q4t.below hb).cell 3).trans rfl, ((q4t.below hb).cell 4).trans rfl, ((q5t.below hb).cell 0).trans rfl, ((q5t.below hb).cell 1).trans rfl, ((q5t.below hb).cell 2).trans rfl, ((q5t.below hb).cell 3).trans rfl, ((q5t.below hb).cell 4).trans rfl⟩
        have hT3 : ∀ w', Below w8.heap.size w8 w' → TmR w'.heap.size w' (tcells k3 c3 t3 l3 A3 n3 p3) tf := fun w' hb => (ks3.step_ hb).tm
        have hT4 : ∀ w', Below w8.heap.size w8 w' → TmR w'.heap.size w' (tcells k4 c4 t4 l4 A4 n4 p4) tg := fun w' hb => (ks4.step_ hb).tm
        have hT5 : ∀ w', Below w8.heap.size w8 w' → TmR w'.heap.size w' (tcells k5 c5 t5 l5 A5 n5 p5) ta := fun w' hb => (ks5.step_ hb).tm
        have HC := Lib.hid (And.intro hcs (And.intro hT3 (And.intro hT4 hT5)))
        clear hcs hT3 hT4 hT5 hbf hzf hzg hza ht1 ht2 hsz hlaw q3t ks3 q4t ks4 q5t ks5 hf0 hg0 hk0 HH
        unfold tcells at HC
        have gL3 := fun w' (hb : Below w8.heap.size w8 w') => leaves_any w' [.int .i64 k3, .int .i64 c3, .bool t3, .int .i64 l3, .slice A3 n3 p3] tf (HC.out.2.1 w' hb) (by have := HL.out; omega)
        have gL5 := fun w' (hb : Below w8.heap.size w8 w') => leaves_any w' [.int .i64 k5, .int .i64 c5, .bool t5, .int .i64 l5, .slice A5 n5 p5] ta (HC.out.2.2.2 w' hb) (by have := HL.out; omega)
        have hS0 := HC.out.1 _ (below_drew (Below.refl _ _))
        go_wp2_with fail
        refine wp_walk (by kernel_rfl) (by kernel_rfl) (fun w w' => Below w.heap.size w w') (fun w' => (Below w8.heap.size w8 w' ∧ w'.cell? ⟨S3, 0, none⟩ = some (.int .i64 k3) ∧ w'.cell? ⟨S3, 1, none⟩ = some (.int .i64 c3) ∧ w'.cell? ⟨S3, 2, none⟩ = some (.bool t3) ∧ w'.cell? ⟨S3, 3, none⟩ = some (.int .i64 l3) ∧ w'.cell? ⟨S3, 4, none⟩ = some (.slice A3 n3 p3) ∧ w'.cell? ⟨S4, 0, none⟩ = some (.int .i64 k4) ∧ w'.cell? ⟨S4, 1, none⟩ = some (.int .i64 c4) ∧ w'.cell? ⟨S4, 2, none⟩ = some (.bool t4) ∧ w'.cell? ⟨S4, 3, none⟩ = some (.int .i64 l4) ∧ w'.cell? ⟨S4, 4, none⟩ = some (.slice A4 n4 p4) ∧ w'.cell? ⟨S5, 0, none⟩ = some (.int .i64 k5) ∧ w'.cell? ⟨S5, 1, none⟩ = some (.int .i64 c5) ∧ w'.cell? ⟨S5, 2, none⟩ = some (.bool t5) ∧ w'.cell? ⟨S5, 3, none⟩ = some (.int .i64 l5) ∧ w'.cell? ⟨S5, 4, none⟩ = some (.slice A5 n5 p5))) hS0 ?_
        repeat (first | (refine settle_skip (fun _ => by rfl) ?_; (simp only [Act.put, List.setIfInBounds_toArray, List.set_cons_zero, List.set_cons_succ])) | (refine' settle_run (fun _ _ => Below.refl _ _) (fun _ => by rfl) ?_ ?_; rotate_left; (focus (intro ρ w hS hF; (try dsimp only at hS); go_split_ands; go_simp; try with_reducible rfl)); (simp only [Act.put, List.setIfInBounds_toArray, List.set_cons_zero, List.set_cons_succ])))
        (refine settle_known (FLen ta.size) (by rfl) (fun _ => by rfl)  ?_ ?_; (focus (intro ρ w hS hF K hK; (simp only [Act.put, List.setIfInBounds_toArray, List.set_cons_zero, List.set_cons_succ] at hK); go_simp; (go_at_call 10; refine (gL5 _ hS.1).mono ?_; rintro e w' ⟨v', rfl, hs', hb'⟩; obtain ⟨A', c', rfl, -⟩ := hs'; exact hK _ _ ⟨A', c', rfl⟩ (HC.out.1 _ (below_next hb' hS.1)) hb'))); (simp only [Act.put, List.setIfInBounds_toArray, List.set_cons_zero, List.set_cons_succ]))
        (refine settle_run (v := .int .i64 (ta.size : Int)) (fun _ _ => Below.refl _ _) (fun _ => by rfl) ?_ ?_; (focus (intro ρ w hS hF; obtain ⟨A, c, hρ⟩ := hF.1 (by rfl); generalize ρ 77 = v77 at hρ ⊢; subst hρ; go_simp)); (simp only [Act.put, List.setIfInBounds_toArray, List.set_cons_zero, List.set_cons_succ]))
        repeat (first | (refine settle_skip (fun _ => by rfl) ?_; (simp only [Act.put, List.setIfInBounds_toArray, List.set_cons_zero, List.set_cons_succ])) | (refine' settle_run (fun _ _ => Below.refl _ _) (fun _ => by rfl) ?_ ?_; rotate_left; (focus (intro ρ w hS hF; (try dsimp only at hS); go_split_ands; go_simp; try with_reducible rfl)); (simp only [Act.put, List.setIfInBounds_toArray, List.set_cons_zero, List.set_cons_succ])))
        (refine settle_known (FLen tf.size) (by rfl) (fun _ => by rfl)  ?_ ?_; (focus (intro ρ w hS hF K hK; (simp only [Act.put, List.setIfInBounds_toArray, List.set_cons_zero, List.set_cons_succ] at hK); go_simp; (go_at_call 10; refine (gL3 _ hS.1).mono ?_; rintro e w' ⟨v', rfl, hs', hb'⟩; obtain ⟨A', c', rfl, -⟩ := hs'; exact hK _ _ ⟨A', c', rfl⟩ (HC.out.1 _ (below_next hb' hS.1)) hb'))); (simp only [Act.put, List.setIfInBounds_toArray, List.set_cons_zero, List.set_cons_succ]))
        (refine settle_run (v := .int .i64 (tf.size : Int)) (fun _ _ => Below.refl _ _) (fun _ => by rfl) ?_ ?_; (focus (intro ρ w hS hF; obtain ⟨A, c, hρ⟩ := hF.1 (by rfl); generalize ρ 80 = v77 at hρ ⊢; subst hρ; go_simp)); (simp only [Act.put, List.setIfInBounds_toArray, List.set_cons_zero, List.set_cons_succ]))
        repeat (first | (refine settle_skip (fun _ => by rfl) ?_; (simp only [Act.put, List.setIfInBounds_toArray, List.set_cons_zero, List.set_cons_succ])) | (refine' settle_run (fun _ _ => Below.refl _ _) (fun _ => by rfl) ?_ ?_; rotate_left; (focus (intro ρ w hS hF; (try dsimp only at hS); go_split_ands; go_simp; try with_reducible rfl)); (simp only [Act.put, List.setIfInBounds_toArray, List.set_cons_zero, List.set_cons_succ])))
        refine settle_nil ?_
        intro ρ w9 hS hF
        have h89 := hS.1
        clear hS hF hS0 gL3 gL5
        dsimp only
        rcases h1 : decide (i < 0) with _ | _
        · rcases h2 : decide ((ta.size : Int) ≤ i) with _ | _
          · rcases h3 : decide (j < (ta.size : Int)) with _ | _
            · obtain ⟨-, -, -, -, -, -, s0, s1, s2, s3, s4, -⟩ := HC.out.1 w9 h89
              go_wp2_with fail
              refine (leaves_any w9 [.int .i64 k4, .int .i64 c4, .bool t4, .int .i64 l4, .slice A4 n4 p4] tg (HC.out.2.2.1 w9 h89) (by have := HL.out; omega)).mono ?_
              rintro e wA ⟨vA, rfl, hsA, hbA⟩
              obtain ⟨AA, cA, rfl, -⟩ := hsA
              clear s0 s1 s2 s3 s4
              have h8A := below_next hbA h89
              clear h89 hbA
              rcases h4 : decide ((tg.size : Int) ≤ j) with _ | _
              · obtain ⟨hij, hji⟩ := HL.out.1 (by have := of_decide_eq_false h1; omega) (by have := of_decide_eq_false h2; omega) (by have := of_decide_eq_false h3; omega) (by have := of_decide_eq_false h4; omega)
                rcases h5 : decide ((tf.size : Int) ≤ j) with _ | _
                · have gB := before_any wA [.int .i64 k4, .int .i64 c4, .bool t4, .int .i64 l4, .slice A4 n4 p4] tg i j (HC.out.2.2.1 wA h8A) (by have := HL.out; omega)
                  have gC := fun w' (hb : Below w8.heap.size w8 w') => before_any w' [.int .i64 k4, .int .i64 c4, .bool t4, .int .i64 l4, .slice A4 n4 p4] tg j i (HC.out.2.2.1 w' hb) (by have := HL.out; omega)
                  rw [hij, h5] at gB
                  rw [hji] at gC
                  obtain ⟨-, -, -, -, -, -, s0, s1, s2, s3, s4, -⟩ := HC.out.1 wA h8A
                  go_wp2_with fail
                  refine gB.mono ?_
                  rintro e wB ⟨rfl, hbB⟩
                  have h8B := below_next hbB h8A
                  clear s0 s1 s2 s3 s4 gB hbB
                  obtain ⟨-, -, -, -, -, -, s0, s1, s2, s3, s4, -⟩ := HC.out.1 wB h8B
                  go_wp2_with fail
                  refine (gC wB h8B).mono ?_
                  rintro e wC ⟨rfl, hbC⟩
                  clear s0 s1 s2 s3 s4 gC
                  have hZZ := Lib.hid (below_next (below_next hbC h8B) HB8.out)
                  clear hbC h8B h8A
                  go_wp2_with fail
                  go_ret
                  exact ⟨rfl, hZZ.out⟩
                · have gB := before_any wA [.int .i64 k4, .int .i64 c4, .bool t4, .int .i64 l4, .slice A4 n4 p4] tg i j (HC.out.2.2.1 wA h8A) (by have := HL.out; omega)
                  have gC := fun w' (hb : Below w8.heap.size w8 w') => before_any w' [.int .i64 k4, .int .i64 c4, .bool t4, .int .i64 l4, .slice A4 n4 p4] tg j i (HC.out.2.2.1 w' hb) (by have := HL.out; omega)
                  rw [hij, h5] at gB
                  rw [hji] at gC
                  obtain ⟨-, -, -, -, -, -, s0, s1, s2, s3, s4, -⟩ := HC.out.1 wA h8A
                  go_wp2_with fail
                  refine gB.mono ?_
                  rintro e wB ⟨rfl, hbB⟩
                  have h8B := below_next hbB h8A
                  clear s0 s1 s2 s3 s4 gB hbB
                  obtain ⟨-, -, -, -, -, -, s0, s1, s2, s3, s4, -⟩ := HC.out.1 wB h8B
                  go_wp2_with fail
                  refine (gC wB h8B).mono ?_
                  rintro e wC ⟨rfl, hbC⟩
                  clear s0 s1 s2 s3 s4 gC
                  have hZZ := Lib.hid (below_next (below_next hbC h8B) HB8.out)
                  clear hbC h8B h8A
                  go_wp2_with fail
                  go_ret
                  exact ⟨rfl, hZZ.out⟩
              · go_wp2_with fail
                go_ret
                exact ⟨rfl, below_next h8A HB8.out⟩
            · go_wp2_with fail
              go_ret
              exact ⟨rfl, below_next h89 HB8.out⟩
          · go_wp2_with fail
            go_ret
            exact ⟨rfl, below_next h89 HB8.out⟩
        · go_wp2_with fail
          go_ret
          exact ⟨rfl, below_next h89 HB8.out⟩
      · go_wp2_with fail
        go_ret
        exact ⟨rfl, HB8.out⟩
    · go_wp2_with fail
      go_ret
      exact ⟨rfl, HB8.out⟩
  · go_wp2_with fail
    go_ret
    exact ⟨rfl, HB8.out⟩
end Go.Proofs.Ytgaafgjhkkjalaa
