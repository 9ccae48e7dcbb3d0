/-
  What the laws of serial need of a run.
-/
import Derived.Test.YtdhjfckckghicaaDoorScP1
import Derived.Test.YtdhjfckckghicaaDoorChecked
import Derived.StillTailTactics
import Derived.Test.YtdhjfckckghicaaDoorScP2
import Derived.Test.YtdhjfckckghicaaDoorScP3
import Derived.Deep.RegionLaw
import Derived.WalkLawsBesides
import Derived.ArgAppend
import Derived.Test.YtdhjfckckghicaaDoorScP4
import Derived.Defers
import Derived.Recover
import Derived.Laws.StructEq

namespace Go.Proofs.YtdhjfckckghicaaDoor.Ex
set_option linter.unusedVariables false
set_option linter.unusedSimpArgs false
set_option maxRecDepth 100000
open Go Go.RowKit

theorem doo_rng (k a b : Int) (ha : rng a) (hb : rng b) : rng (doo k a b) := by
  have hw : ∀ x, rng (wrap64 x) := fun x => by unfold rng wrap64; omega
  unfold doo
  split; exact hw _
  split; exact hw _
  split; exact hw _
  split; (split <;> (unfold rng; omega))
  split; (split <;> (unfold rng; omega))
  split; (unfold rng; omega)
  split; exact hw _
  split
  · rename_i h0 _ _
    have h1 := Int.natAbs_tmod a b
    unfold rng at *
    have : (a.tmod b).natAbs < b.natAbs := by rw [h1]; exact Nat.mod_lt _ (by omega)
    omega
  · unfold rng; omega
def ok : X → Prop
  | .num n => rng n
  | .two _ a b => ok a ∧ ok b
  | _ => True
theorem doo_rng' (k a b : Int) (ha : rng a) (hb : rng b) : rng (doo k a b) := doo_rng k a b ha hb
theorem look_rng (s : Bs) : ∀ l : List (Bs × Int), (∀ b ∈ l, rng b.2) → rng (look s l)
  | [], _ => by unfold look rng; omega
  | b :: l, h => by
    unfold look
    split
    · exact look_rng s l fun x hx => h x (List.mem_cons_of_mem _ hx)
    · split
      · exact h b List.mem_cons_self
      · unfold rng; omega
theorem evl_rng (env : List (Bs × Int)) (h : ∀ b ∈ env, rng b.2) : ∀ e : X, ok e → rng (evl env e)
  | .num n, he => he
  | .name s, _ => look_rng s env h
  | .bad, _ => by unfold evl rng; omega
  | .two k a b, he => doo_rng _ _ _ (evl_rng env h a he.1) (evl_rng env h b he.2)
end Go.Proofs.YtdhjfckckghicaaDoor.Ex
namespace Go.Proofs.YtdhjfckckghicaaDoor
theorem XRN.ok {N : Bool} {B : Nat} {w : World} {cs : List Value} {e : Ex.X} (h : XRN N B w cs e) : Ex.ok e := by
  induction h with
  | num n s A len cap h1 h2 h3 hN => exact h3
  | name n s A len cap h1 h2 hN => trivial
  | bad k n s A len cap h1 h2 h3 h4 h5 hN => trivial
  | two k n s g o len cap cs0 cs1 e0 e1 h1 h2 h3 h4 h5 h6 h7 h8 _ _ hN i0 i1 => exact ⟨i0, i1⟩
end Go.Proofs.YtdhjfckckghicaaDoor


namespace Go.Proofs.YtdhjfckckghicaaDoor
set_option linter.unusedVariables false
set_option linter.unusedSimpArgs false
set_option maxRecDepth 100000
open Go.RowKit
namespace Sp
def accc (a : Acc) : List Value := [.int .i64 a.1, .bool a.2.1, .int .i64 a.2.2]
def acccs (l : List Acc) : List Value := l.flatMap accc
theorem acccs_length (l : List Acc) : (acccs l).length = l.length * 3 := flat_length accc 3 (fun _ => rfl) l
theorem acccs_append (a b : List Acc) : acccs (a ++ b) = acccs a ++ acccs b := by simp [acccs]
theorem acc_one (a : Acc) : ∀ u ∈ accc a, u.oneCell' = true := by
  intro u hu
  simp only [accc, List.mem_cons, List.not_mem_nil, or_false] at hu
  rcases hu with rfl | rfl | rfl <;> rfl
theorem info_acc : (Tryd.prog.info? 63).map (fun i => (i.zero, i.size, i.bytes)) = some (some (.agg #[.int .i64 0, .bool false, .int .i64 0]), 3, 24) := by kernel_rfl
end Sp
end Go.Proofs.YtdhjfckckghicaaDoor


namespace Go.Proofs.YtdhjfckckghicaaDoor
set_option linter.unusedVariables false
set_option linter.unusedSimpArgs false
set_option maxRecDepth 100000
open Go Go.RowKit

theorem still_tail {P : Go.Program} {id : Nat} {Q : Exit → Act → World → Prop} {a : Act} {w : World} {l : List Oper} (n : Nat) (hm : P.follows .mixedOrders = true) (hB : Region.lexTailB .any l.toArray n = true)
    (h : wpStill P l.toArray (w.drewN 1) (fun a' => wpList P l.toArray Q (l.drop n) a' (w.drewN 1)) (l.take n) a) : (Code.region id l.toArray true).wp P Q a w :=
  wp_region_still_tail n hm hB h

/-- its last operation is the store -/
theorem still_last {P : Go.Program} {id : Nat} {Q : Exit → Act → World → Prop} {a : Act} {w : World} {l : List Oper} (hm : P.follows .mixedOrders = true) (hB : Region.lexTailB .any l.toArray (l.length - 1) = true)
    (h : wpStill P l.toArray (w.drewN 1) (fun a' => wpList P l.toArray Q (l.drop (l.length - 1)) a' (w.drewN 1)) (l.take (l.length - 1)) a) : (Code.region id l.toArray true).wp P Q a w :=
  still_tail (l.length - 1) hm hB h

/-- an own row and its block: the block as a whole -/
theorem own_blk {w : World} {base : Nat} {e : TypeId} {g n c : Nat} {xs : List Value} (h : w.ownsRow base e 1 (.slice (some ⟨g, 0, none⟩) n c) n xs) :
    ∃ cs, Blk w g e cs ∧ cs.length = c ∧ cs.take n = xs ∧ n ≤ c ∧ c ≤ maxLen ∧ base ≤ g := by
  rcases h.2 with ⟨h', _⟩ | ⟨g1, cap, cur, he, hb, hh, hle, hm, hs, ht⟩
  · cases h'
  · cases he
    exact ⟨cur.toList, hh, by simpa using hs, by simpa using ht, hle, hm, hb⟩
theorem own_of_blk {w : World} {base : Nat} {e : TypeId} {g n : Nat} {cs : List Value} (h : Blk w g e cs) (hb : base ≤ g) (hn : n ≤ cs.length) (hm : cs.length ≤ maxLen) : w.ownsRow base e 1 (.slice (some ⟨g, 0, none⟩) n cs.length) n (cs.take n) :=
  ⟨by simp; omega, .inr ⟨g, cs.length, cs.toArray, rfl, hb, h, hn, hm, by simp, by simp⟩⟩

theorem wpl_set_own {P : Go.Program} {w : World} {base : Nat} {e : TypeId} {g n c : Nat} {xs : List Value} {ops : Array Oper} {rest : List Oper} {o : Oper} {a : Act} {Q : Exit → Act → World → Prop} (h : w.ownsRow base e 1 (.slice (some ⟨g, 0, none⟩) n c) n xs) (i : Nat) (u : Value) {ty : TypeId} (hi : (P.info? ty).map (·.size) = some 1) (hk : i < n) (hu : u.cells = #[u]) (h1 : u.oneCell' = true)
    (hgd : Region.wanted o (yielded ops a.tmps) = true) {x y : Operand} (ho : o.op = .store ty x y) (hx : a.eval x = .pointer (some ⟨g, i, none⟩)) (hy : a.eval y = u)
    (hK : ∀ w', w'.ownsRow base e 1 (.slice (some ⟨g, 0, none⟩) n c) n (xs.set i u) → w.grownBy w' (some g) → wpList P ops Q rest (a.put o.dst undef) w') : wpList P ops Q (o :: rest) a w := by
  obtain ⟨cs, hB, rfl, rfl, hn, hm, hb⟩ := own_blk h
  refine wpl_set_blk hB i u hi (by omega) hu h1 hgd ho hx hy fun w' hB' hg => hK w' ?_ hg
  have := own_of_blk (n := n) hB' hb (by simpa using hn) (by simpa using hm)
  rw [List.length_set, List.take_set] at this
  exact this
end Go.Proofs.YtdhjfckckghicaaDoor


namespace Go.Proofs.YtdhjfckckghicaaDoor
set_option linter.unusedVariables false
set_option linter.unusedSimpArgs false
set_option maxRecDepth 100000
open Go.RowKit

namespace Sr
/-- the accesses that are kept -/
def rows (vt : Value) (t : List Sp.Acc) : List Rw := [⟨63, 3, vt, t.length, Sp.acccs t⟩]
def rcells (F : Nat) (m : M) (vt : Value) : List Value := ints .i64 m.heap ++ [.int .i64 (F : Int), .int .i64 (m.steps : Int), vt]
end Sr
abbrev RuO (B : Nat) (w : World) (g F : Nat) (m : Sr.M) (vt : Value) : Prop := Own B w g 69 (Sr.rcells F m vt) (Sr.rows vt m.trace)
abbrev RuT (g : Nat) (m : Sr.M) (vt : Value) : Nat → Prop := Tw g (Sr.rows vt m.trace)
abbrev RuTo (B : Nat) (w0 : World) (T : Nat → Prop) (w : World) (g F : Nat) (m : Sr.M) (vt : Value) : Prop := OwnTo B w0 T w g 69 (Sr.rcells F m vt) (Sr.rows vt m.trace)
/-- what ends a run for lack of fuel -/
def spent : List PanicEntry := [{ v := .iface 78 (.agg #[]), recovered := false }]

theorem Sr.heap8 {h : List Int} (hl : h.length = 8) : ∃ a b c d e f g i, h = [a, b, c, d, e, f, g, i] := by
  match h, hl with
  | [a, b, c, d, e, f, g, i], _ => exact ⟨a, b, c, d, e, f, g, i, rfl⟩

theorem Sr.cell_eq (n : Int) : (wrap64 (n.tmod 8 + 8)).tmod 8 = ((Sr.cell n : Nat) : Int) := by
  have h1 := Int.mul_tdiv_add_tmod n 8
  have h2 := Int.tmod_lt_of_pos n (b := 8) (by decide)
  have h3 := Int.lt_tmod_of_pos n (b := 8) (by decide)
  unfold Sr.cell
  generalize n.tmod 8 = x at h1 h2 h3 ⊢
  generalize n.tdiv 8 = q at h1
  rw [show wrap64 (x + 8) = x + 8 by unfold wrap64; omega, Int.tmod_eq_emod_of_nonneg (by omega)]
  omega

theorem cell_any (n : Int) (w : World) : Calls Tryd.prog 29 #[.int .i64 n] w fun e w' => e = .returned (.int .i64 (Sr.cell n : Nat)) ∧ w = w' := by
  have HH := Lib.hid (Sr.cell_eq n)
  go_enter Tryd.func29, Tryd.ntmps29
  go_wp2
  go_ret
  exact ⟨ret_int HH.out, rfl⟩

theorem Sr.rcells_get {F : Nat} {m : Sr.M} {vt : Value} (hl : m.heap.length = 8) : (∀ c, c < 8 → (Sr.rcells F m vt)[c]? = some (.int .i64 (m.heap.getD c 0))) ∧ (Sr.rcells F m vt)[8]? = some (.int .i64 (F : Int)) ∧ (Sr.rcells F m vt)[9]? = some (.int .i64 (m.steps : Int)) ∧ (Sr.rcells F m vt)[10]? = some vt := by
  obtain ⟨a, b, c, d, e, f, g, i, h⟩ := Sr.heap8 hl
  unfold Sr.rcells
  rw [h]
  refine ⟨fun c hc => ?_, rfl, rfl, rfl⟩
  match c, hc with
  | 0, _ => rfl
  | 1, _ => rfl
  | 2, _ => rfl
  | 3, _ => rfl
  | 4, _ => rfl
  | 5, _ => rfl
  | 6, _ => rfl
  | 7, _ => rfl

theorem step_ok (B : Nat) (w : World) (g F : Nat) (m : Sr.M) (vt : Value) (h : RuO B w g F m vt) (hl : m.heap.length = 8) (hs : m.steps < F) (hF : F ≤ 2000) :
    Calls Tryd.prog 44 #[.pointer (some ⟨g, 0, none⟩)] w fun e w' => e = .returned (.tuple #[]) ∧ RuTo B w (RuT g m vt) w' g F m.step vt := by
  obtain ⟨r0, r8, r9, r10⟩ := Sr.rcells_get (F := F) (vt := vt) hl
  have c8 : w.cell? ⟨g, 8, none⟩ = some (.int .i64 (F : Int)) := (h.blk.cell 8).trans r8
  have c9 : w.cell? ⟨g, 9, none⟩ = some (.int .i64 (m.steps : Int)) := (h.blk.cell 9).trans r9
  have g1 : ((m.steps : Int) == (F : Int)) = false := by simp; omega
  have hB := h.blk
  have hend : ∀ w2, Blk w2 g 69 ((Sr.rcells F m vt).set 9 (.int .i64 ((m.steps : Int) + 1))) → w.grownBy w2 (some g) → RuTo B w (RuT g m vt) w2 g F m.step vt := fun w2 b2 g2 => by
    have := h.cells_to b2 g2
    obtain ⟨a, b, c, d, e, f, g', i, h8⟩ := Sr.heap8 hl
    have e : (Sr.rcells F m vt).set 9 (.int .i64 ((m.steps : Int) + 1)) = Sr.rcells F m.step vt := by
      unfold Sr.rcells Sr.M.step
      rw [h8]
      rfl
    rw [e] at this
    exact this
  have HE := Lib.hid hend
  clear hend h r0 r8 r9 r10
  go_enter Tryd.func44, Tryd.ntmps44
  go_wp2_with fail
  go_quiet (fail)
  go_wp2_with (first | (refine wpl_set_blk hB 9 (.int .i64 ((m.steps : Int) + 1)) (by kernel_rfl) (by simp [Sr.rcells, ints_length, hl]) rfl rfl rfl rfl rfl rfl ?_; intro w2 hB2 hg2) | fail)
  go_end0
  exact ⟨rfl, HE.out w2 hB2 (grown_undrewN hg2)⟩

theorem step_out (B : Nat) (w : World) (g F : Nat) (m : Sr.M) (vt : Value) (h : RuO B w g F m vt) (hl : m.heap.length = 8) (hs : m.steps = F) :
    Calls Tryd.prog 44 #[.pointer (some ⟨g, 0, none⟩)] w fun e w' => e = .panicked spent ∧ Below w.heap.size w w' := by
  obtain ⟨r0, r8, r9, r10⟩ := Sr.rcells_get (F := F) (vt := vt) hl
  have c8 : w.cell? ⟨g, 8, none⟩ = some (.int .i64 (F : Int)) := (h.blk.cell 8).trans r8
  have c9 : w.cell? ⟨g, 9, none⟩ = some (.int .i64 (m.steps : Int)) := (h.blk.cell 9).trans r9
  have g1 : ((m.steps : Int) == (F : Int)) = true := by simp; omega
  clear h r0 r8 r9 r10
  go_enter Tryd.func44, Tryd.ntmps44
  go_wp2_with fail
  go_quiet (fail)
  go_wp2
  exact ⟨rfl, rfl, below_drewN (Below.refl _ _) _⟩


set_option maxHeartbeats 1000000 in
theorem access_any (B : Nat) (w : World) (g F : Nat) (m : Sr.M) (vt : Value) (n : Int) (wr : Bool) (l : Nat) (h : RuO B w g F m vt) (hl : m.heap.length = 8) (ht : m.trace.length ≤ 2000) :
    Calls Tryd.prog 47 #[.pointer (some ⟨g, 0, none⟩), .int .i64 n, .bool wr, .int .i64 (l : Int)] w fun e w' => e = .returned (.int .i64 (Sr.cell n : Nat)) ∧ ∃ vt', RuTo B w (RuT g m vt) w' g F (m.acc (Sr.cell n) wr l) vt' := by
  obtain ⟨r0, r8, r9, r10⟩ := Sr.rcells_get (F := F) (vt := vt) hl
  have c10 : w.cell? ⟨g, 10, none⟩ = some vt := (h.blk.cell 10).trans r10
  have rt : w.ownsRow B 63 3 vt m.trace.length (Sp.acccs m.trace) := h.row 0 rfl
  have hbase := h.base
  obtain ⟨VT, ct, rfl, -, -⟩ := own_slice rt
  obtain ⟨N, hN⟩ : ∃ N, N = m.trace.length := ⟨_, rfl⟩
  have hHE : ∀ (w4 : World) (v' : Value) (w5 : World), w4.ownsRow B 63 3 v' (m.trace.length + 1) (Sp.acccs m.trace ++ [.int .i64 (Sr.cell n : Nat), .bool wr, .int .i64 (l : Int)]) → w.grownBy w4 (Value.slice VT m.trace.length ct).ownBlock → (v'.ownBlock = (Value.slice VT m.trace.length ct).ownBlock ∨ v'.ownBlock = some (w.heap.size + 1)) →
      Blk w4 g 69 (Sr.rcells F m (.slice VT m.trace.length ct)) ∧ (Blk w5 g 69 ((Sr.rcells F m (.slice VT m.trace.length ct)).set 10 v') → w4.grownBy w5 (some g) → RuTo B w (RuT g m (.slice VT m.trace.length ct)) w5 g F (m.acc (Sr.cell n) wr l) v') := fun w4 v' w5 o4 g4 e4 => by
    have o4' : w4.ownsRow B 63 3 v' (m.acc (Sr.cell n) wr l).trace.length (Sp.acccs (m.acc (Sr.cell n) wr l).trace) := by
      simpa [Sr.M.acc, Sp.acccs, Sp.accc] using o4
    have hv : v'.ownBlock = (Value.slice VT m.trace.length ct).ownBlock ∨ ∃ k, w.heap.size ≤ k ∧ v'.ownBlock = some k := e4.imp id fun e => ⟨_, Nat.le_succ _, e⟩
    refine ⟨(h.put (i := 0) rfl o4' g4 hv).1, fun b5 g5 => ?_⟩
    have := h.put_to (i := 0) rfl o4' g4 hv b5 g5
    obtain ⟨a, b, c, d, e, f, g', i, h8⟩ := Sr.heap8 hl
    have e : (Sr.rcells F m (.slice VT m.trace.length ct)).set 10 v' = Sr.rcells F (m.acc (Sr.cell n) wr l) v' := by
      unfold Sr.rcells Sr.M.acc
      rw [h8]
      rfl
    rw [e] at this
    exact this
  have hn63 : N + 1 ≤ maxLen := by unfold maxLen; omega
  have hn47 : (N + 1) * 24 ≤ 140737488355328 := by omega
  have hlen10 : 10 < (Sr.rcells F m (.slice VT m.trace.length ct)).length := by simp [Sr.rcells, ints_length, hl]
  rw [← hN] at rt c10 hHE hlen10
  have HE := Lib.hid hHE
  clear hHE h r0 r8 r9 r10
  have h3 : ∀ u ∈ ([.int .i64 (Sr.cell n : Nat), .bool wr, .int .i64 (l : Int)] : List Value), u.oneCell' = true := by
    intro u hu
    rcases List.mem_cons.1 hu with rfl | hu
    · rfl
    rcases List.mem_cons.1 hu with rfl | hu
    · rfl
    rcases List.mem_singleton.1 hu with rfl
    rfl
  have HN := Lib.hid hN
  clear hN
  go_enter Tryd.func47, Tryd.ntmps47
  go_wp2_with fail
  refine (cell_any n w).mono ?_
  rintro e w1 ⟨rfl, rfl⟩
  go_wp2_with (first | (at_builtin; refine wp_push w _ _ B _ _ _ _ _ Tryd.underlying59 Sp.info_acc rfl (by decide) rt [.int .i64 (Sr.cell n : Nat), .bool wr, .int .i64 (l : Int)] rfl h3 hn63 hn47 hbase rfl rfl rfl rfl ?_; intro v' w4 hown4 hg4 hv4 _; have hB4 := (HE.out w4 v' w4 hown4 hg4 hv4).1; obtain ⟨V', c', rfl, _, _⟩ := own_slice hown4) | (refine wpl_set_blk hB4 10 _ (by kernel_rfl) hlen10 rfl rfl rfl rfl rfl rfl ?_; intro w5 hB5 hg5) | fail)
  go_ret
  exact ⟨rfl, _, by rw [← HN.out]; exact (HE.out w4 _ w5 hown4 hg4 hv4).2 hB5 hg5⟩
end Go.Proofs.YtdhjfckckghicaaDoor


namespace Go.Proofs.YtdhjfckckghicaaDoor
set_option linter.unusedVariables false
set_option linter.unusedSimpArgs false
set_option maxRecDepth 100000
open Go Go.RowKit

namespace Sr
open Ex St
/-- all its numbers are 64-bit numbers -/
def okp : P → Prop
  | .nil => True
  | .cons _ _ a b body els rest => ok a ∧ ok b ∧ okp body ∧ okp els ∧ okp rest
structure Fit (F : Nat) (m : M) : Prop where
  len : m.heap.length = 8
  rg : ∀ x ∈ m.heap, rng x
  st : m.steps ≤ F
  tr : m.trace.length ≤ m.steps
theorem getD_rng {h : List Int} (hr : ∀ x ∈ h, rng x) (c : Nat) : rng (h.getD c 0) := by
  rw [List.getD_eq_getElem?_getD]
  rcases hc : h[c]? with _ | x
  · unfold rng; simp
  · exact hr x (List.mem_of_getElem? hc)
theorem iter_rng {f : Int → M → M} (hf : ∀ i m, rng i → (∀ x ∈ m.heap, rng x) → ∀ x ∈ (f i m).heap, rng x) : ∀ (n : Nat) (i : Int) (m : M), rng i → rng (i + (n : Int)) → (∀ x ∈ m.heap, rng x) → ∀ x ∈ (iter n i f m).heap, rng x
  | 0, _, _, _, _, h => h
  | n + 1, i, m, hi, hn, h => iter_rng hf n (i + 1) (f i m) (by unfold rng at *; omega) (by unfold rng at *; omega) (hf i m hi h)
theorem env_snoc {env : Env} (h : ∀ b ∈ env, rng b.2) (nm : Bs) {v : Int} (hv : rng v) : ∀ b ∈ env ++ [(nm, v)], rng b.2 := fun b hb => by
  rcases List.mem_append.1 hb with hb | hb
  · exact h b hb
  · rw [List.mem_singleton.1 hb]; exact hv
theorem run_rng : ∀ (p : P) (env : Env) (l : Nat) (m : M), okp p → (∀ b ∈ env, rng b.2) → (∀ x ∈ m.heap, rng x) → ∀ x ∈ (run p env l m).heap, rng x
  | .nil, _, _, _, _, _, h => h
  | .cons k nm a b body els rest, env, l, m, ⟨ha, hb, hbo, hel, hre⟩, he, h => by
    unfold run
    split
    · exact run_rng rest _ _ _ hre (env_snoc he _ (evl_rng env he a ha)) h
    split
    · exact run_rng rest _ _ _ hre (env_snoc he _ (getD_rng h _)) h
    split
    · refine run_rng rest _ _ _ hre he fun x hx => ?_
      rcases List.mem_or_eq_of_mem_set (show x ∈ m.heap.set _ _ from hx) with hx | rfl
      · exact h x hx
      · exact evl_rng env he b hb
    split
    · exact run_rng rest _ _ _ hre he (run_rng body _ _ _ hbo he h)
    split
    · refine run_rng rest _ _ _ hre he ?_
      split
      · exact run_rng body _ _ _ hbo he h
      · exact run_rng els _ _ _ hel he h
    split
    · have hra := evl_rng env he a ha
      have hrb := evl_rng env he b hb
      refine run_rng rest _ _ _ hre he ?_
      by_cases hn : evl env a ≤ evl env b
      · exact iter_rng (fun i m hi h => run_rng body (env ++ [(nm, i)]) l m.step hbo (env_snoc he _ hi) h) (evl env b - evl env a).toNat _ _ hra (by unfold rng at *; omega) h
      · rw [show (evl env b - evl env a).toNat = 0 by omega]
        exact h
    exact run_rng rest _ _ _ hre he h
theorem Fit.on {F : Nat} {m m' : M} (h : Fit F m) (ho : On m m') (hr : ∀ x ∈ m'.heap, rng x) (hs : m'.steps ≤ F) : Fit F m' := by
  obtain ⟨h1, h2, t, h3, h4, -⟩ := ho
  exact ⟨h2.trans h.len, hr, hs, by rw [h3, List.length_append]; have := h.tr; omega⟩
end Sr

theorem PR.ok {B : Nat} {w : World} {A : Option Addr} {n : Nat} {p : St.P} (h : PR B w A n p) : Sr.okp p := by
  induction h with
  | nil A => trivial
  | cons g o n k nm ca cb ea eb D dl dc E el ec body els rest h1 h2 h3 h4 h5 h6 h7 h8 _ _ _ i1 i2 i3 => exact ⟨h7.ok, h8.ok, i1, i2, i3⟩

/-! ### a slice that is full, appended to: always a new block -/
theorem run_append_full {P : Program} (w : World) (t ty e : TypeId) (z : Value) (size bytes : Nat) (ht : P.underlying t = some (.slice e)) (hinfo : (P.info? e).map (fun i => (i.zero, i.size, i.bytes)) = some (some z, size, bytes)) (hz : z.cells.size = size) (hsz : 0 < size)
    {A : Option Addr} {n : Nat} {xs : List Value} (h : SlV w size (.slice A n n) n xs) {vs : Value} {m : Nat} {news : List Value} (hs : SlV w size vs m news) (h1 : ∀ u ∈ news, u.oneCell' = true) (hm : 0 < m)
    (h63 : n + m ≤ maxLen) (hbytes : (n + m) * bytes ≤ 140737488355328) :
    ∃ v' w', (Builtin.append_ #[t, t] ty #[.slice A n n, vs]).run P w = .ok v' w' ∧ w'.ownsRow w.heap.size e size v' (n + m) (xs ++ news) ∧ Below w.heap.size w w' := by
  obtain ⟨A', c', he, _, _, hl, hc⟩ := h
  injection he with e1 e2 e3
  subst e1 e3
  obtain ⟨D, c, rfl, hc1, hc2, hln, hcn⟩ := hs
  obtain ⟨i, hi, hz0, hz1, hz2⟩ := info_parts hinfo
  have hne : news ≠ [] := by
    intro h0
    rw [h0] at hln
    have : 0 < m * size := Nat.mul_pos hm hsz
    simp at hln
    omega
  obtain ⟨b, o, rfl, hb, hcell⟩ := hcn.at_ hne
  rcases A with _ | a
  · have h0 : xs = [] := by
      apply Classical.byContradiction
      intro hx
      obtain ⟨_, _, h, _⟩ := hc.at_ hx
      cases h
    subst h0
    have hn0 : n = 0 := by
      have : n * size = 0 := by simpa using hl.symm
      rcases Nat.mul_eq_zero.1 this with h | h <;> omega
    subst hn0
    obtain ⟨v', w', hrun, h2, h3, h4⟩ := run_append (P := P) w w.heap.size t ty e z size bytes ht hinfo hz hsz (.slice none 0 0) 0 [] (World.ownsRow_nil w _ e size) w.heap.size (some ⟨b, o, none⟩) m c news hln hcn h1 h63 hbytes (Nat.le_refl _)
    exact ⟨v', w', hrun, h2, (Below.refl _ _).grown h3 (Nat.le_refl _) (by intro k hk; cases hk)⟩
  · obtain ⟨v', w', hrun, h2, h3⟩ := run_append_arg_grows (P := P) w t ty e i z size bytes ht hi hz0 hz1 hz2 hz hsz a n n xs hl (fun j u hu => by
      obtain ⟨b', o', e', _, h'⟩ := hc.at_ (fun e => by rw [e] at hu; simp at hu)
      injection e' with e'
      subst e'
      rw [Addr.add_lit]
      exact h' j u hu) ⟨b, o, none⟩ m c news hln (fun j u hu => by rw [Addr.add_lit]; exact hcell j u hu) (by omega) h63 hbytes
    exact ⟨v', w', hrun, h2, (Below.refl _ _).grown h3 (Nat.le_refl _) (by intro k hk; cases hk)⟩
/-- the same, as an operation -/
theorem oper_full {P : Program} {w : World} {o : Oper} {a : Act} {K : Act → World → Prop} {Q : Exit → Act → World → Prop} (s x : Operand)
    (t e : TypeId) (z : Value) (size bytes : Nat) (ht : P.underlying t = some (.slice e)) (hinfo : (P.info? e).map (fun i => (i.zero, i.size, i.bytes)) = some (some z, size, bytes)) (hz : z.cells.size = size) (hsz : 0 < size)
    {A : Option Addr} {n : Nat} {xs : List Value} (h : SlV w size (.slice A n n) n xs) {vs : Value} {m : Nat} {news : List Value} (hsl : SlV w size vs m news) (h1 : ∀ u ∈ news, u.oneCell' = true) (hm : 0 < m)
    (h63 : n + m ≤ maxLen) (hbytes : (n + m) * bytes ≤ 140737488355328) (ho : o.op = .call { callee := .builtin .append, args := #[s, x], argTypes := #[t, t] }) (hs : a.eval s = .slice A n n) (hx : a.eval x = vs)
    (hK : ∀ v' w', w'.ownsRow w.heap.size e size v' (n + m) (xs ++ news) → Below w.heap.size w w' → K (a.put o.dst v') w') : o.wp P a w K Q := by
  obtain ⟨v', w', hrun, h2, h3⟩ := run_append_full (P := P) w t o.type e z size bytes ht hinfo hz hsz h hsl h1 hm h63 hbytes
  unfold Oper.wp execOp
  simp only [ho, resolve, invoke, builtin, Sem.run_bind, Sem.run_pure, Result.andThen_ok, List.map_toArray, List.map_cons, List.map_nil, hs, hx, hrun]
  exact hK v' w' h2 h3

theorem clip_any (w : World) (A : Option Addr) (n c : Nat) (hnc : n ≤ c) (hc : c ≤ maxLen) (hA : A = none → n = 0) : Calls Tryd.prog 45 #[.slice A n c] w fun e w' => e = .returned (.slice A n n) ∧ w = w' := by
  unfold maxLen at hc
  go_enter Tryd.func45, Tryd.ntmps45
  rcases A with _ | a
  · obtain rfl := hA rfl
    go_wp2
    go_ret
    exact ⟨rfl, rfl⟩
  · go_wp2
    go_ret
    exact ⟨rfl, rfl⟩
end Go.Proofs.YtdhjfckckghicaaDoor


namespace Go.Proofs.YtdhjfckckghicaaDoor
set_option linter.unusedVariables false
set_option linter.unusedSimpArgs false
set_option maxRecDepth 100000
open Go.RowKit

/-- bindings in memory, that the runner does not turn -/
structure EnvAt (w : World) (T : Nat → Prop) (ve : Value) (zs : List Ex.Bd) : Prop where
  sl : SlV w 2 ve zs.length (Ex.bindcs zs)
  lt : ∀ i, ve.ownBlock = some i → i < w.heap.size
  off : ∀ i, ve.ownBlock = some i → ¬ T i
  rg : ∀ z ∈ zs, Ex.rng z.2
theorem EnvAt.step {w w' : World} {T T' : Nat → Prop} {ve : Value} {zs : List Ex.Bd} (h : EnvAt w T ve zs) (k : Keeps T w w') (nw : ∀ i, T' i → T i ∨ w.heap.size ≤ i) : EnvAt w' T' ve zs := by
  refine ⟨?_, fun i hi => Nat.lt_of_lt_of_le (h.lt i hi) k.size, fun i hi ht => ?_, h.rg⟩
  · obtain ⟨A, c, rfl, h1, h2, h3, h4⟩ := h.sl
    refine ⟨A, c, rfl, h1, h2, h3, ?_⟩
    by_cases hne : Ex.bindcs zs = []
    · rw [hne]; exact Cells.nil _ _ _
    · obtain ⟨b, o, rfl, hb, hc⟩ := h4.at_ hne
      exact ⟨b, o, fun _ => ⟨rfl, Nat.lt_of_lt_of_le hb k.size⟩, fun j u hu => k.cell (hc j u hu) (h.off b rfl)⟩
  · rcases nw i ht with h1 | h1
    · exact h.off i hi h1
    · have := h.lt i hi
      omega
theorem EnvAt.later {w w' : World} {T : Nat → Prop} {ve : Value} {zs : List Ex.Bd} (h : EnvAt w T ve zs) (hb : Below w.heap.size w w') : EnvAt w' T ve zs :=
  h.step (Keeps.of_below hb T) fun i hi => .inl hi
theorem EnvAt.addr {w : World} {T : Nat → Prop} {A : Option Addr} {n c : Nat} {zs : List Ex.Bd} (h : EnvAt w T (.slice A n c) zs) : n = zs.length ∧ n ≤ c ∧ c ≤ maxLen ∧ (A = none → n = 0) := by
  obtain ⟨A', c', he, h1, h2, h3, h4⟩ := h.sl
  injection he with e1 e2 e3
  subst e1 e2 e3
  refine ⟨rfl, h1, h2, fun hA => ?_⟩
  subst hA
  apply Classical.byContradiction
  intro h0
  have hz : Ex.bindcs zs ≠ [] := fun e => h0 (by rw [Ex.bindcs_length] at h3; have : (Ex.bindcs zs).length = 0 := by rw [e]; rfl
                                                 rw [Ex.bindcs_length] at this; omega)
  obtain ⟨_, _, h, _⟩ := h4.at_ hz
  cases h
theorem EnvAt.rng {w : World} {T : Nat → Prop} {ve : Value} {zs : List Ex.Bd} (h : EnvAt w T ve zs) : ∀ b ∈ Ex.bs zs, Ex.rng b.2 := fun b hb => by
  obtain ⟨z, hz, rfl⟩ := List.mem_map.1 hb
  exact h.rg z hz
theorem bs_snoc (zs : List Ex.Bd) (z : Ex.Bd) : Ex.bs (zs ++ [z]) = Ex.bs zs ++ [(z.1.data.toList, z.2)] := by simp [Ex.bs]
/-- one binding more, in a row of its own -/
theorem EnvAt.grown {w w' : World} {T : Nat → Prop} {ve v' : Value} {zs : List Ex.Bd} (h : EnvAt w T ve zs) {z : Ex.Bd} (hz : Ex.rng z.2) (hT : ∀ i, T i → i < w.heap.size)
    (hown : w'.ownsRow w.heap.size 89 2 v' (zs.length + 1) (Ex.bindcs zs ++ Ex.bindc z)) : EnvAt w' T v' (zs ++ [z]) := by
  refine ⟨?_, fun i hi => (hown.lt i hi).2, fun i hi ht => ?_, fun x hx => ?_⟩
  · have := SlV.of_own hown
    simpa [Ex.bindcs] using this
  · have := hT i ht
    have := (hown.lt i hi).1
    omega
  · rcases List.mem_append.1 hx with hx | hx
    · exact h.rg x hx
    · rw [List.mem_singleton.1 hx]; exact hz

/-- a run goes on, or ends for lack of fuel -/
def RnEnd (B : Nat) (w : World) (T : Nat → Prop) (g F : Nat) (m : Sr.M) : Ending → World → Prop := fun e w' =>
  (m.steps ≤ F ∧ e = .returned (.tuple #[]) ∧ ∃ vt, RuTo B w T w' g F m vt) ∨ (F < m.steps ∧ e = .panicked spent ∧ Keeps T w w')
def BlockOK (p : St.P) : Prop := ∀ (w : World) (B n c g F : Nat) (A : Option Addr) (vt ve : Value) (m : Sr.M) (zs : List Ex.Bd) (l : Nat), PR B w A n p → n ≤ c → c ≤ maxLen → RuO B w g F m vt → Sr.Fit F m → F ≤ 2000 → EnvAt w (RuT g m vt) ve zs →
  zs.length + p.size ≤ 549755813888 → l + p.size ≤ 576460752303423488 →
  Calls Tryd.prog 39 #[.pointer (some ⟨g, 0, none⟩), .slice A n c, ve, .int .i64 (l : Int)] w (RnEnd B w (RuT g m vt) g F (Sr.run p (Ex.bs zs) l m))

theorem bindc_one (z : Ex.Bd) : ∀ u ∈ Ex.bindc z, u.oneCell' = true := by
  intro u hu
  rcases List.mem_cons.1 hu with rfl | hu
  · rfl
  · rcases List.mem_singleton.1 hu with rfl
    rfl
theorem info_bnd : (Tryd.prog.info? 89).map (fun i => (i.zero, i.size, i.bytes)) = some (some (.agg #[.string ⟨#[]⟩, .int .i64 0]), 2, 24) := by kernel_rfl

set_option maxHeartbeats 2000000 in
theorem loop_any (body : St.P) (ih : BlockOK body) (w : World) (B g F : Nat) (vt ve : Value) (m : Sr.M) (zs : List Ex.Bd) (l : Nat) (kd : Int) (nm : ByteArray) (ak an : Int) (sa : ByteArray) (aA : Option Addr) (al ac : Nat) (bk bn : Int) (sb : ByteArray) (bA : Option Addr) (bl bc : Nat) (D : Option Addr) (dl dc : Nat) (E : Option Addr) (el ec : Nat) (ea eb : Ex.X) (els : St.P)
    (xa : XR B w (xcells ak an sa aA al ac) ea) (xb : XR B w (xcells bk bn sb bA bl bc) eb) (pb : PR B w D dl body) (pe : PR B w E el els) (hd1 : dl ≤ dc) (hd2 : dc ≤ maxLen)
    (hO : RuO B w g F m vt) (hf : Sr.Fit F m) (hF : F ≤ 2000) (hv : EnvAt w (RuT g m vt) ve zs) (hz : zs.length + 1 + body.size ≤ 549755813888) (hl : l + body.size ≤ 576460752303423488) :
    Calls Tryd.prog 48 #[.pointer (some ⟨g, 0, none⟩), .agg (stcells kd nm (xcells ak an sa aA al ac) (xcells bk bn sb bA bl bc) D dl dc E el ec).toArray, ve, .int .i64 (l : Int)] w
      (RnEnd B w (RuT g m vt) g F (Sr.iter (Ex.evl (Ex.bs zs) eb - Ex.evl (Ex.bs zs) ea).toNat (Ex.evl (Ex.bs zs) ea) (fun i m => Sr.run body (Ex.bs zs ++ [(nm.data.toList, i)]) l m.step) m)) := by
  obtain ⟨VE, ce, rfl, -⟩ := hv.sl
  obtain ⟨-, hce1, hce2, hce3⟩ := hv.addr
  obtain ⟨Q, hQq⟩ : ∃ Q, Q = w.heap.size := ⟨_, rfl⟩
  have hbA : Below w.heap.size w (w.alloc (.cells (stcells kd nm (xcells ak an sa aA al ac) (xcells bk bn sb bA bl bc) D dl dc E el ec).toArray 36)) := below_alloc (Below.refl _ _) _
  have hX : StBox B Q (w.alloc (.cells (stcells kd nm (xcells ak an sa aA al ac) (xcells bk bn sb bA bl bc) D dl dc E el ec).toArray 36)) (RuT g m vt) kd nm ak an sa aA al ac bk bn sb bA bl bc D dl dc E el ec ea eb body els := by
    refine StBox.of (t := 36) hbA hO.base (fun i hi => hO.ge hi) (fun h => by have := hO.lt h; omega) ?_ xa xb pb pe
    rw [hQq]
    exact Blk.new _ _ _
  have T0 : RuTo B (w.alloc (.cells (stcells kd nm (xcells ak an sa aA al ac) (xcells bk bn sb bA bl bc) D dl dc E el ec).toArray 36)) (RuT g m vt) (w.alloc (.cells (stcells kd nm (xcells ak an sa aA al ac) (xcells bk bn sb bA bl bc) D dl dc E el ec).toArray 36)) g F m vt := OwnTo.start (hO.later hbA)
  have hv0 := hv.later hbA
  have hra := Ex.evl_rng _ hv.rng _ xa.ok
  have hrb := Ex.evl_rng _ hv.rng _ xb.ok
  have hpk := pb.ok
  obtain ⟨a, ha⟩ : ∃ a, a = Ex.evl (Ex.bs zs) ea := ⟨_, rfl⟩
  obtain ⟨b, hb⟩ : ∃ b, b = Ex.evl (Ex.bs zs) eb := ⟨_, rfl⟩
  obtain ⟨f, hfq⟩ : ∃ f, f = (fun (i : Int) (m : Sr.M) => Sr.run body (Ex.bs zs ++ [(nm.data.toList, i)]) l m.step) := ⟨_, rfl⟩
  have hon : ∀ i m, Sr.On m (f i m) := fun i m => by rw [hfq]; exact (Sr.On.step m).trans (Sr.run_on _ _ _ _)
  have hrn : ∀ i m, Ex.rng i → (∀ x ∈ m.heap, Ex.rng x) → ∀ x ∈ (f i m).heap, Ex.rng x := fun i m hi hm => by
    rw [hfq]
    exact Sr.run_rng body _ _ _ hpk (Sr.env_snoc hv0.rng _ hi) hm
  rw [← ha, ← hb, ← hfq]
  rw [← ha] at hra
  rw [← hb] at hrb
  have HA := Lib.hid (And.intro ha (And.intro hb hfq))
  obtain ⟨R, hR⟩ : ∃ R, R = Sr.iter (b - a).toNat a f m := ⟨_, rfl⟩
  rw [← hR]
  have HR := Lib.hid (And.intro hR (And.intro hon hrn))
  clear ha hb hfq hR hon hrn
  have hQQ := Lib.hid hQq
  have HO := Lib.hid (And.intro hO (And.intro hf hv))
  unfold stcells xcells at hbA hX T0 hv0 ⊢
  simp only [List.cons_append, List.nil_append] at hbA hX T0 hv0 ⊢
  clear xa xb pb pe hO hf hv hQq
  go_enter Tryd.func48, Tryd.ntmps48
  go_wp2_with fail
  generalize (w.alloc (.cells #[.int .i64 kd, .string nm, .int .i64 ak, .int .i64 an, .string sa, .slice aA al ac, .int .i64 bk, .int .i64 bn, .string sb, .slice bA bl bc, .slice D dl dc, .slice E el ec] 36)) = W0 at hbA hX T0 hv0 ⊢
  rw [← hQQ.out]
  have gE : ∀ (w' : World) (ck cn : Int) (sc : ByteArray) (cA : Option Addr) (cl cc : Nat) (x : Ex.X) (y : Int), y = Ex.evl (Ex.bs zs) x → Below W0.heap.size W0 w' → XR B w' (xcells ck cn sc cA cl cc) x → Calls Tryd.prog 46 #[.agg #[.int .i64 ck, .int .i64 cn, .string sc, .slice cA cl cc], .slice VE zs.length ce] w' fun r w'' => r = .returned (.int .i64 y) ∧ Below w'.heap.size w' w'' := fun w' ck cn sc cA cl cc x y hy hb hx => by
    rw [hy]
    exact eval_ok (.slice VE zs.length ce) zs (by omega) x w' _ (hx.up (T0.later hb).own.base) (hv0.later hb).sl
  have keepS : ∀ w', Below W0.heap.size W0 w' → (Below W0.heap.size W0 w' ∧ w'.cell? ⟨Q, 2, none⟩ = some (.int .i64 ak) ∧ w'.cell? ⟨Q, 3, none⟩ = some (.int .i64 an) ∧ w'.cell? ⟨Q, 4, none⟩ = some (.string sa) ∧ w'.cell? ⟨Q, 5, none⟩ = some (.slice aA al ac) ∧
    w'.cell? ⟨Q, 6, none⟩ = some (.int .i64 bk) ∧ w'.cell? ⟨Q, 7, none⟩ = some (.int .i64 bn) ∧ w'.cell? ⟨Q, 8, none⟩ = some (.string sb) ∧ w'.cell? ⟨Q, 9, none⟩ = some (.slice bA bl bc)) := fun w' hb => by
    obtain ⟨c0, c1, c2, c3, c4, c5, c6, c7, c8, c9, c10, c11⟩ := hX.cells w' (Keeps.of_below hb _)
    exact ⟨hb, c2, c3, c4, c5, c6, c7, c8, c9⟩
  have gX : ∀ w', Below W0.heap.size W0 w' → XR B w' (xcells ak an sa aA al ac) ea ∧ XR B w' (xcells bk bn sb bA bl bc) eb := fun w' hb => ⟨(hX.read w' (Keeps.of_below hb _)).1, (hX.read w' (Keeps.of_below hb _)).2.1⟩
  have hS0 := keepS _ (below_drew (Below.refl _ _))
  refine wp_walk (by kernel_rfl) (by kernel_rfl) (fun w w' => Below w.heap.size w w') (fun w' => (Below W0.heap.size W0 w' ∧ w'.cell? ⟨Q, 2, none⟩ = some (.int .i64 ak) ∧ w'.cell? ⟨Q, 3, none⟩ = some (.int .i64 an) ∧ w'.cell? ⟨Q, 4, none⟩ = some (.string sa) ∧ w'.cell? ⟨Q, 5, none⟩ = some (.slice aA al ac) ∧ w'.cell? ⟨Q, 6, none⟩ = some (.int .i64 bk) ∧ w'.cell? ⟨Q, 7, none⟩ = some (.int .i64 bn) ∧ w'.cell? ⟨Q, 8, none⟩ = some (.string sb) ∧ w'.cell? ⟨Q, 9, none⟩ = some (.slice bA bl bc))) hS0 ?_
  repeat (first | (refine settle_skip (fun _ => by rfl) ?_; (simp only [Act.put, List.setIfInBounds_toArray, List.set_cons_zero, List.set_cons_succ])) | (refine' settle_run (fun _ _ => Below.refl _ _) (fun _ => by rfl) ?_ ?_; rotate_left; (focus (intro ρ w hS hF; (try dsimp only at hS); go_split_ands; go_simp; try with_reducible rfl)); (simp only [Act.put, List.setIfInBounds_toArray, List.set_cons_zero, List.set_cons_succ])))
  (refine' settle_step (fun _ => by rfl) ?_ ?_; rotate_left; (focus (intro ρ w hS hF K hK; (simp only [Act.put, List.setIfInBounds_toArray, List.set_cons_zero, List.set_cons_succ] at hK); go_simp; (refine (gE _ _ _ _ _ _ _ _ a HA.out.1 hS.1 (gX _ hS.1).1).mono ?_; rintro e w' ⟨rfl, hb'⟩; have hS' := keepS _ (below_next hb' hS.1); have hE' := hb'); exact hK _ hS' hE')); (simp only [Act.put, List.setIfInBounds_toArray, List.set_cons_zero, List.set_cons_succ]))
  repeat (first | (refine settle_skip (fun _ => by rfl) ?_; (simp only [Act.put, List.setIfInBounds_toArray, List.set_cons_zero, List.set_cons_succ])) | (refine' settle_run (fun _ _ => Below.refl _ _) (fun _ => by rfl) ?_ ?_; rotate_left; (focus (intro ρ w hS hF; (try dsimp only at hS); go_split_ands; go_simp; try with_reducible rfl)); (simp only [Act.put, List.setIfInBounds_toArray, List.set_cons_zero, List.set_cons_succ])))
  (refine' settle_step (fun _ => by rfl) ?_ ?_; rotate_left; (focus (intro ρ w hS hF K hK; (simp only [Act.put, List.setIfInBounds_toArray, List.set_cons_zero, List.set_cons_succ] at hK); go_simp; (refine (gE _ _ _ _ _ _ _ _ b HA.out.2.1 hS.1 (gX _ hS.1).2).mono ?_; rintro e w' ⟨rfl, hb'⟩; have hS' := keepS _ (below_next hb' hS.1); have hE' := hb'); exact hK _ hS' hE')); (simp only [Act.put, List.setIfInBounds_toArray, List.set_cons_zero, List.set_cons_succ]))
  repeat (first | (refine settle_skip (fun _ => by rfl) ?_; (simp only [Act.put, List.setIfInBounds_toArray, List.set_cons_zero, List.set_cons_succ])) | (refine' settle_run (fun _ _ => Below.refl _ _) (fun _ => by rfl) ?_ ?_; rotate_left; (focus (intro ρ w hS hF; (try dsimp only at hS); go_split_ands; go_simp; try with_reducible rfl)); (simp only [Act.put, List.setIfInBounds_toArray, List.set_cons_zero, List.set_cons_succ])))
  refine settle_nil ?_
  intro ρ w4 hS hF
  have T4 := T0.later hS.1
  have hfit := HO.out.2.1
  have HB := Lib.hid (And.intro hbA (And.intro hv0 hX))
  have HE := Lib.hid (And.intro hce1 (And.intro hce2 hce3))
  clear hF hS hS0 keepS gX gE T0 hv0 hX hbA hce1 hce2 hce3
  unfold Ex.rng at hra hrb
  dsimp only
  go_wp2_with fail
  go_loopw [8] (fun v wr => ∃ (i : Int) (mj : Sr.M) (vtj : Value), v = .int .i64 i ∧ a ≤ i ∧ (a = i ∨ i ≤ b) ∧ RuTo B W0 (RuT g m vt) wr g F mj vtj ∧ Sr.Fit F mj ∧ Sr.iter (b - i).toNat i f mj = R) (fun v _ => (b - intOf v).toNat)
  case atStart => exact ⟨a, m, vt, rfl, Int.le_refl _, .inl rfl, T4, hfit, HR.out.1.symm⟩
  case round =>
    clear T4 hfit
    obtain ⟨i, mj, vtj, rfl, hai, hib, hT, hfj, hit⟩ := hrel
    by_cases hlt : i < b
    · have hn : (b - i).toNat = (b - (i + 1)).toNat + 1 := by omega
      rw [hn, Sr.iter] at hit
      have hon1 := Sr.On.iter HR.out.2.1 (b - (i + 1)).toNat (i + 1) (f i mj)
      rw [hit] at hon1
      have hri : Ex.rng i := by unfold Ex.rng; omega
      have hst1 : mj.steps + 1 ≤ (f i mj).steps := by
        rw [HA.out.2.2]
        exact (Sr.run_on body _ _ mj.step).steps
      by_cases hst : mj.steps = F
      · have hg := step_out B wr g F mj vtj hT.own hfj.len hst
        have hend : ∀ w1, Below wr.heap.size wr w1 → F < R.steps ∧ Keeps (RuT g m vt) w w1 := fun w1 hb1 => ⟨by have := hon1.steps; omega, ((Keeps.of_below HB.out.1 _).trans hT.kp).trans (Keeps.of_below hb1 _)⟩
        have HH := Lib.hid hend
        clear hend hT hfj hit hon1 hst hst1
        go_wp2_with fail
        refine hg.mono ?_
        rintro e w1 ⟨rfl, hb1⟩
        obtain ⟨h1, h2⟩ := HH.out w1 hb1
        clear hg hb1
        go_wp2
        exact ⟨rfl, .inr ⟨h1, rfl, h2⟩⟩
      · have hg := step_ok B wr g F mj vtj hT.own hfj.len (by have := hfj.st; omega) hF
        have hfs : Sr.Fit F mj.step := ⟨hfj.len, hfj.rg, by have := hfj.st; show mj.steps + 1 ≤ F; omega, by have := hfj.tr; show mj.trace.length ≤ mj.steps + 1; omega⟩
        go_wp2_with fail
        refine hg.mono ?_
        rintro e w1 ⟨rfl, h1⟩
        have T1 := hT.step h1
        have v1 := HB.out.2.1.step T1.kp T1.nw
        have hlow : ∀ k, RuT g mj.step vtj k → k < w1.heap.size := fun k hk => T1.own.lt hk
        obtain ⟨-, c1, -, -, -, -, -, -, -, -, c10, -⟩ := HB.out.2.2.cells w1 T1.kp
        have hcc : ∀ w', Below w1.heap.size w1 w' → Keeps (RuT g m vt) W0 w' := fun w' hb => T1.kp.trans (Keeps.of_below hb _)
        have keepS : ∀ w', Below w1.heap.size w1 w' → (Below w1.heap.size w1 w' ∧ w'.cell? ⟨Q, 1, none⟩ = some (.string nm) ∧ w'.cell? ⟨Q, 10, none⟩ = some (.slice D dl dc)) := fun w' hb => by
          obtain ⟨-, c1, -, -, -, -, -, -, -, -, c10, -⟩ := HB.out.2.2.cells w' (hcc w' hb)
          exact ⟨hb, c1, c10⟩
        have gS : ∀ w', Below w1.heap.size w1 w' → SlV w' 2 (.slice VE zs.length zs.length) zs.length (Ex.bindcs zs) := fun w' hb => by
          obtain ⟨A', c', e', q1, q2, q3, q4⟩ := (v1.later hb).sl
          injection e' with e1 e2 e3
          subst e1
          exact ⟨VE, zs.length, rfl, Nat.le_refl _, by have := HE.out; omega, q3, q4⟩
        have hS0 := keepS _ (below_drew (Below.refl _ _))
        have hn63 : zs.length + 1 ≤ maxLen := by unfold maxLen; omega
        have hn47 : (zs.length + 1) * 24 ≤ 140737488355328 := by omega
        have hcl : ∀ w', Calls Tryd.prog 45 #[.slice VE zs.length ce] w' fun e w'' => e = .returned (.slice VE zs.length zs.length) ∧ w' = w'' := fun w' => clip_any w' VE zs.length ce HE.out.1 HE.out.2.1 HE.out.2.2
        have HT := Lib.hid (And.intro T1 (And.intro v1 (And.intro hlow (And.intro hit (And.intro hon1 hfj)))))
        clear hg hT hfj h1 T1 v1 hlow c1 c10 hcc hit hon1
        go_wp2_with fail
        refine wp_walk_last (by kernel_rfl) (by kernel_rfl) (fun w w' => Below w.heap.size w w') (fun w' => (Below w1.heap.size w1 w' ∧ w'.cell? ⟨Q, 1, none⟩ = some (.string nm) ∧ w'.cell? ⟨Q, 10, none⟩ = some (.slice D dl dc))) hS0 ?_
        simp only [List.length_cons, List.length_nil, Nat.reduceAdd, Nat.reduceSub, List.take_succ_cons, List.take_zero, List.drop_succ_cons, List.drop_zero]
        repeat (first | (refine settle_skip (fun _ => by rfl) ?_; (simp only [Act.put, List.setIfInBounds_toArray, List.set_cons_zero, List.set_cons_succ])) | (refine' settle_run (fun _ _ => Below.refl _ _) (fun _ => by rfl) ?_ ?_; rotate_left; (focus (intro ρ w hS hF; (try dsimp only at hS); go_split_ands; go_simp; try with_reducible rfl)); (simp only [Act.put, List.setIfInBounds_toArray, List.set_cons_zero, List.set_cons_succ])))
        (refine' settle_step (fun _ => by rfl) ?_ ?_; rotate_left; (focus (intro ρ w hS hF K hK; (simp only [Act.put, List.setIfInBounds_toArray, List.set_cons_zero, List.set_cons_succ] at hK); go_simp; (refine (hcl _).mono ?_; rintro e w' ⟨rfl, rfl⟩; have hS' := hS; have hE' := Below.refl w.heap.size w); exact hK _ hS' hE')); (simp only [Act.put, List.setIfInBounds_toArray, List.set_cons_zero, List.set_cons_succ]))
        repeat (first | (refine settle_skip (fun _ => by rfl) ?_; (simp only [Act.put, List.setIfInBounds_toArray, List.set_cons_zero, List.set_cons_succ])) | (refine' settle_run (fun _ _ => Below.refl _ _) (fun _ => by rfl) ?_ ?_; rotate_left; (focus (intro ρ w hS hF; (try dsimp only at hS); go_split_ands; go_simp; try with_reducible rfl)); (simp only [Act.put, List.setIfInBounds_toArray, List.set_cons_zero, List.set_cons_succ])))
        (refine settle_known (FSl 2 1 [.string nm, .int .i64 i]) (by rfl) (fun _ => by rfl)  ?_ ?_; (focus (intro ρ w hS hF K hK; (simp only [Act.put, List.setIfInBounds_toArray, List.set_cons_zero, List.set_cons_succ] at hK); go_simp; exact hK _ _ (SlV.lit w [.string nm, .int .i64 i] 89 2 1 rfl (by decide)) (keepS _ (below_alloc hS.1 _)) (below_alloc (Below.refl _ _) _))); (simp only [Act.put, List.setIfInBounds_toArray, List.set_cons_zero, List.set_cons_succ]))
        (refine settle_known (FRow w1.heap.size 89 2 (zs.length + 1) (Ex.bindcs zs ++ ([.string nm, .int .i64 i] : List Value))) (by rfl) (fun _ => by rfl) ?_ ?_; (focus (intro ρ w hS hF K hK; refine oper_full (.tmp 29) (.tmp 34) _ _ _ _ _ Tryd.underlying86 info_bnd rfl (by decide) (gS w hS.1) (hF.1 (by rfl)) (bindc_one (nm, i)) (by decide) hn63 hn47 rfl rfl rfl ?_; intro v' w' hown hb; exact hK v' w' (own_base hown hS.1.size) (keepS _ (below_next hb hS.1)) hb)); (simp only [Act.put, List.setIfInBounds_toArray, List.set_cons_zero, List.set_cons_succ]))
        repeat (first | (refine settle_skip (fun _ => by rfl) ?_; (simp only [Act.put, List.setIfInBounds_toArray, List.set_cons_zero, List.set_cons_succ])) | (refine' settle_run (fun _ _ => Below.refl _ _) (fun _ => by rfl) ?_ ?_; rotate_left; (focus (intro ρ w hS hF; (try dsimp only at hS); go_split_ands; go_simp; try with_reducible rfl)); (simp only [Act.put, List.setIfInBounds_toArray, List.set_cons_zero, List.set_cons_succ])))
        refine settle_nil ?_
        intro ρ w4 hS hF
        have hrow : w4.ownsRow w1.heap.size 89 2 (ρ 35) (zs.length + 1) (Ex.bindcs zs ++ Ex.bindc (nm, i)) := hF 35 (FRow w1.heap.size 89 2 (zs.length + 1) (Ex.bindcs zs ++ ([.string nm, .int .i64 i] : List Value))) (by repeat (first | exact List.mem_cons_self | apply List.mem_cons_of_mem))
        have hb4 := hS.1
        clear hF hS hS0 keepS gS hcl
        dsimp only
        generalize ρ 35 = v4 at hrow ⊢
        obtain ⟨T1, v1, hlow, hit, hon1, hfj⟩ := HT.out
        have T4 := T1.later hb4
        have e5 : EnvAt w4 (RuT g mj.step vtj) v4 (zs ++ [(nm, i)]) := v1.grown hri hlow hrow
        have p4 := (HB.out.2.2.read w4 T4.kp).2.2.1
        have hblk := ih w4 B dl dc g F D vtj v4 mj.step (zs ++ [(nm, i)]) l p4 hd1 hd2 T4.own hfs hF e5 (by rw [List.length_append, List.length_singleton]; omega) hl
        rw [bs_snoc] at hblk
        have hfi : Sr.run body (Ex.bs zs ++ [((nm, i).1.data.toList, (nm, i).2)]) l mj.step = f i mj := by rw [HA.out.2.2]
        rw [hfi] at hblk
        obtain ⟨V4, c4, rfl, -, -⟩ := own_slice hrow
        have HZ := Lib.hid (And.intro T4 (And.intro hit (And.intro hon1 hfj)))
        clear HT T1 v1 hlow hit hon1 hfj T4 e5 p4 hrow hfi hst hst1 hb4
        go_wp2_with fail
        refine hblk.mono ?_
        rintro e w5 (⟨h1, rfl, vt5, h2⟩ | ⟨h1, rfl, h2⟩)
        · have T5 := HZ.out.1.step h2
          have hf5 : Sr.Fit F (f i mj) := HZ.out.2.2.2.on (HR.out.2.1 i mj) (HR.out.2.2 i mj hri HZ.out.2.2.2.rg) h1
          have HY := Lib.hid (And.intro T5 (And.intro hf5 HZ.out.2.1))
          clear hblk h2 T5 hf5
          go_wp2_with fail
          go_roundw
          case rel => exact ⟨i + 1, _, _, by go_num, by omega, .inr (by omega), HY.out.1, HY.out.2.1, HY.out.2.2⟩
          case measure => simp [intOf]; omega
        · have hk : Keeps (RuT g m vt) w w5 := ((Keeps.of_below HB.out.1 _).trans HZ.out.1.kp).step h2 (fun k hk ht => (HZ.out.1.nw k ht).resolve_right (by have := HB.out.1.size; omega))
          have hlt' : F < R.steps := by have := HZ.out.2.2.1.steps; omega
          clear hblk h2
          go_wp2
          exact ⟨rfl, .inr ⟨hlt', rfl, hk⟩⟩
    · have h0 : (b - i).toNat = 0 := by omega
      rw [h0, Sr.iter] at hit
      subst hit
      have HY := Lib.hid (And.intro hT hfj)
      clear hT hfj
      go_wp2_with fail
      go_end0
      exact .inl ⟨HY.out.2.st, rfl, vtj, HY.out.1.since HB.out.1⟩
end Go.Proofs.YtdhjfckckghicaaDoor


namespace Go.Proofs.YtdhjfckckghicaaDoor
set_option linter.unusedVariables false
set_option linter.unusedSimpArgs false
set_option maxRecDepth 100000
open Go.RowKit

theorem one_pr {B : Nat} {w : World} {kd : Int} {nm : ByteArray} {ca cb : List Value} {D : Option Addr} {dl dc : Nat} {E : Option Addr} {el ec : Nat} {ea eb : Ex.X} {body els : St.P} (t : TypeId) (hB : B ≤ w.heap.size)
    (xa : XR B w ca ea) (xb : XR B w cb eb) (pb : PR B w D dl body) (pe : PR B w E el els) (h : dl ≤ dc ∧ dc ≤ maxLen ∧ el ≤ ec ∧ ec ≤ maxLen) :
    PR (w.alloc (.cells (stcells kd nm ca cb D dl dc E el ec).toArray t)).heap.size (w.alloc (.cells (stcells kd nm ca cb D dl dc E el ec).toArray t)) (some ⟨w.heap.size, 0, none⟩) 1 (.cons kd nm.data.toList ea eb body els .nil) := by
  have hb : Below B w (w.alloc (.cells (stcells kd nm ca cb D dl dc E el ec).toArray t)) := (Below.refl _ _).alloc hB _
  have hz : B ≤ (w.alloc (.cells (stcells kd nm ca cb D dl dc E el ec).toArray t)).heap.size := by simp; omega
  refine .cons _ 0 0 kd nm ca cb ea eb D dl dc E el ec body els .nil (by simp) h.1 h.2.1 h.2.2.1 h.2.2.2 (fun j u hu => ?_) ((xa.later hb).up hz) ((xb.later hb).up hz) ((pb.later hb).up hz) ((pe.later hb).up hz) (.nil _)
  rw [Nat.zero_add, (Blk.new w t (stcells kd nm ca cb D dl dc E el ec)).cell, hu]
theorem labels_one (kd : Int) (nm : List UInt8) (ea eb : Ex.X) (body els : St.P) : St.labels (.cons kd nm ea eb body els .nil) = St.lab1 kd (St.labels body) (St.labels els) := by
  simp [St.labels]
theorem size_one (kd : Int) (nm : List UInt8) (ea eb : Ex.X) (body els : St.P) : (St.P.cons kd nm ea eb body els .nil).size = 1 + ea.leaves + eb.leaves + body.size + els.size := by
  simp [St.P.size]

/-- an access is kept, and something is worth so much -/
def FAcc (B : Nat) (w1 : World) (T : Nat → Prop) (g F : Nat) (m : Sr.M) (z : Value) : Fact (fun w w' => Below w.heap.size w w') :=
  ⟨fun v w => v = z ∧ ∃ vt, RuTo B w1 T w g F m vt, fun v w w' ⟨h1, vt, h2⟩ k => ⟨h1, vt, h2.later k⟩⟩
theorem Sr.rcells_put {F : Nat} {m : Sr.M} {vt : Value} (hl : m.heap.length = 8) (c : Nat) (hc : c < 8) (x : Int) : (Sr.rcells F m vt).set c (.int .i64 x) = Sr.rcells F (m.put c x) vt := by
  unfold Sr.rcells Sr.M.put
  rw [List.set_append_left _ _ (by rw [ints_length]; omega), ints_set]






set_option maxHeartbeats 8000000 in
theorem block_step (p : St.P) (ih : ∀ q : St.P, q.size < p.size → BlockOK q) : BlockOK p := by
  intro w B n c g F A vt ve m zs l hp hnc hcm hO hfit hF hv hzs hls
  obtain ⟨g0, o, hA, hpl⟩ := hp.place
  have hn63 : n ≤ 9223372036854775807 := by unfold maxLen at hcm; omega
  have hP0 : ∀ w' (A' : Option Addr) (m' : Nat) (q : St.P), Keeps (RuT g m vt) w w' → PR B w A' m' q → PR B w' A' m' q := fun w' A' m' q k h => h.later (hO.below k)
  have HP0 := Lib.hid hP0
  obtain ⟨R, hR⟩ : ∃ R, R = Sr.run p (Ex.bs zs) l m := ⟨_, rfl⟩
  rw [← hR]
  have HR := Lib.hid (And.intro hR hp.ok)
  clear hP0 hp hR
  go_enter Tryd.func39, Tryd.ntmps39
  go_wp2
  go_loopw [2, 3, 13] (fun ve lb i wr => ∃ (k : Nat) (q : St.P) (zj : List Ex.Bd) (lj : Nat) (mj : Sr.M) (vtj : Value), k ≤ n ∧ i = .int .i64 (k : Int) ∧ lb = .int .i64 (lj : Int) ∧ PR B w (some ⟨g0, o + k * 12, none⟩) (n - k) q ∧ RuTo B w (RuT g m vt) wr g F mj vtj ∧ EnvAt wr (RuT g mj vtj) ve zj ∧ Sr.Fit F mj ∧ Sr.run q (Ex.bs zj) lj mj = R ∧ q.size ≤ p.size ∧ zj.length + q.size ≤ zs.length + p.size ∧ lj + q.size ≤ l + p.size) (fun _ _ i _ => n - (intOf i).toNat)
  case atStart => exact ⟨0, p, zs, l, m, vt, Nat.zero_le _, rfl, rfl, hpl, OwnTo.start hO, hv, hfit, HR.out.1.symm, Nat.le_refl _, Nat.le_refl _, Nat.le_refl _⟩
  case round =>
    clear hO hpl hv hfit
    obtain ⟨k, q, zj, lj, mj, vtj, hk, rfl, rfl, hq0, hW, hvj, hfj, hrun, hqs, hqz, hql⟩ := hrel
    have hq := HP0.out wr _ _ _ hW.kp hq0
    by_cases hlt : k < n
    · obtain ⟨kd, nm, ak, an, bk, bn, sa, sb, aA, bA, al, ac, bl, bc, ea, eb, D, dl, dc, E, el, ec, body, els, rest, rfl, hg, ⟨hd1, hd2, he1, he2⟩, hcell, xa, xb, pb, pe, pr⟩ := hq.next (by omega)
      have pr0 := hq0.tail (by omega)
      have hAA := hA (by omega)
      subst hAA
      have c0 : wr.cell? ⟨g0, o + k * 12, none⟩ = some (.int .i64 kd) := hcell 0 _ rfl
      have c1 := hcell 1 _ rfl
      have c2 := hcell 2 _ rfl
      have c3 := hcell 3 _ rfl
      have c4 := hcell 4 _ rfl
      have c5 := hcell 5 _ rfl
      have c6 := hcell 6 _ rfl
      have c7 := hcell 7 _ rfl
      have c8 := hcell 8 _ rfl
      have c9 := hcell 9 _ rfl
      have c10 := hcell 10 _ rfl
      have c11 := hcell 11 _ rfl
      have hd := And.intro hd1 (And.intro hd2 (And.intro he1 he2))
      have hoka := xa.ok
      have hokb := xb.ok
      have hokp := pb.ok
      have hoke := pe.ok
      have hs : body.size < p.size ∧ els.size < p.size ∧ rest.size ≤ p.size ∧ zj.length + (1 + ea.leaves + eb.leaves + body.size + els.size + rest.size) ≤ zs.length + p.size ∧ lj + (1 + ea.leaves + eb.leaves + body.size + els.size + rest.size) ≤ l + p.size := by rw [St.P.size] at hqs hqz hql; omega
      obtain ⟨VE, ce, rfl, -⟩ := hvj.sl
      have hce := hvj.addr.2
      have hrg := hvj.rng
      obtain ⟨Q, hQq⟩ : ∃ Q, Q = wr.heap.size := ⟨_, rfl⟩
      have hbA : Below wr.heap.size wr (wr.alloc (.cells (stcells kd nm (xcells ak an sa aA al ac) (xcells bk bn sb bA bl bc) D dl dc E el ec).toArray 36)) := below_alloc (Below.refl _ _) _
      have hX : StBox B Q (wr.alloc (.cells (stcells kd nm (xcells ak an sa aA al ac) (xcells bk bn sb bA bl bc) D dl dc E el ec).toArray 36)) (RuT g mj vtj) kd nm ak an sa aA al ac bk bn sb bA bl bc D dl dc E el ec ea eb body els := by
        refine StBox.of (t := 36) hbA hW.own.base (fun i hi => hW.own.ge hi) (fun h => by have := hW.own.lt h; omega) ?_ xa xb pb pe
        rw [hQq]
        exact Blk.new _ _ _
      have T0 : RuTo B (wr.alloc (.cells (stcells kd nm (xcells ak an sa aA al ac) (xcells bk bn sb bA bl bc) D dl dc E el ec).toArray 36)) (RuT g mj vtj) (wr.alloc (.cells (stcells kd nm (xcells ak an sa aA al ac) (xcells bk bn sb bA bl bc) D dl dc E el ec).toArray 36)) g F mj vtj := OwnTo.start (hW.own.later hbA)
      have v0 := hvj.later hbA
      have hQQ := Lib.hid hQq
      have HQ := Lib.hid (And.intro hs (And.intro hqs (And.intro hqz (And.intro hql (And.intro (And.intro hzs hls) pr0)))))
      have HRN := Lib.hid hrun
      have HW := Lib.hid hW
      have HC := Lib.hid hce
      clear hQq hcell hq hq0 hrun hs hqs hqz hql hW xa xb pb pe pr pr0 hvj hce
      unfold stcells xcells at hbA hX T0 v0
      simp only [List.cons_append, List.nil_append] at hbA hX T0 v0
      rcases fr_kinds kd with rfl | rfl | rfl | rfl | rfl | rfl | rfl | ⟨k1, k2, k3, k4, k5, k6, k7⟩
      · obtain ⟨y, hy⟩ : ∃ y, y = Ex.evl (Ex.bs zj) ea := ⟨_, rfl⟩
        have hry : Ex.rng y := by rw [hy]; exact Ex.evl_rng _ hrg _ hoka
        have hrun : Sr.run rest (Ex.bs (zj ++ [(nm, y)])) (lj + St.lab1 1 (St.labels body) (St.labels els)) mj.step = R := by rw [bs_snoc, hy]; exact HRN.out
        have hon1 := Sr.run_on rest (Ex.bs (zj ++ [(nm, y)])) (lj + St.lab1 1 (St.labels body) (St.labels els)) mj.step
        rw [hrun] at hon1
        have hmore : mj.steps + 1 ≤ R.steps := hon1.steps
        have HYY := Lib.hid hy
        clear hy
        go_wp2_with fail
        generalize (wr.alloc (.cells #[.int .i64 1, .string nm, .int .i64 ak, .int .i64 an, .string sa, .slice aA al ac, .int .i64 bk, .int .i64 bn, .string sb, .slice bA bl bc, .slice D dl dc, .slice E el ec] 36)) = W0 at hbA hX T0 v0 ⊢
        rw [← hQQ.out]
        clear c0 c1 c2 c3 c4 c5 c6 c7 c8 c9 c10 c11
        by_cases hst : mj.steps = F
        · have hg := step_out B W0 g F mj vtj T0.own hfj.len hst
          have hend : ∀ w1, Below W0.heap.size W0 w1 → F < R.steps ∧ Keeps (RuT g m vt) w w1 := fun w1 hb1 => ⟨by have := hmore; omega, (HW.out.kp.trans (Keeps.of_below hbA _)).trans (Keeps.of_below hb1 _)⟩
          have HH := Lib.hid hend
          clear hend hX T0 v0 hbA hst hmore
          refine hg.mono ?_
          rintro e w1 ⟨rfl, hb1⟩
          obtain ⟨h1, h2⟩ := HH.out w1 hb1
          clear hg hb1
          go_wp2
          exact ⟨rfl, .inr ⟨h1, rfl, h2⟩⟩
        have hfs : Sr.Fit F mj.step := ⟨hfj.len, hfj.rg, by have := hfj.st; show mj.steps + 1 ≤ F; omega, by have := hfj.tr; show mj.trace.length ≤ mj.steps + 1; omega⟩
        refine (step_ok B W0 g F mj vtj T0.own hfj.len (by have := hfj.st; omega) hF).mono ?_
        rintro e w1 ⟨rfl, h1⟩
        have T1 := T0.step h1
        have v1 := v0.step T1.kp T1.nw
        clear h1 T0 v0 hst hmore
        have gE : ∀ (w' : World), Below w1.heap.size w1 w' → Calls Tryd.prog 46 #[.agg #[.int .i64 ak, .int .i64 an, .string sa, .slice aA al ac], .slice VE zj.length ce] w' fun r w'' => r = .returned (.int .i64 y) ∧ Below w'.heap.size w' w'' := fun w' hb => by
          rw [HYY.out]
          exact eval_ok (.slice VE zj.length ce) zj (by have := HQ.out; omega) ea w' _ ((hX.read w' (T1.later hb).kp).1.up (T1.later hb).own.base) (v1.later hb).sl
        have keepS : ∀ w', Below w1.heap.size w1 w' → (Below w1.heap.size w1 w' ∧ w'.cell? ⟨Q, 1, none⟩ = some (.string nm) ∧ w'.cell? ⟨Q, 2, none⟩ = some (.int .i64 ak) ∧ w'.cell? ⟨Q, 3, none⟩ = some (.int .i64 an) ∧ w'.cell? ⟨Q, 4, none⟩ = some (.string sa) ∧ w'.cell? ⟨Q, 5, none⟩ = some (.slice aA al ac)) := fun w' hb => by
          obtain ⟨c0, c1, c2, c3, c4, c5, c6, c7, c8, c9, c10, c11⟩ := hX.cells w' (T1.later hb).kp
          exact ⟨hb, c1, c2, c3, c4, c5⟩
        have gS : ∀ w', Below w1.heap.size w1 w' → SlV w' 2 (.slice VE zj.length zj.length) zj.length (Ex.bindcs zj) := fun w' hb => by
          obtain ⟨A', c', e', q1, q2, q3, q4⟩ := (v1.later hb).sl
          injection e' with e1 e2 e3
          subst e1
          exact ⟨VE, zj.length, rfl, Nat.le_refl _, by have := HC.out; omega, q3, q4⟩
        have hS0 := keepS _ (below_drew (Below.refl _ _))
        have hn63 : zj.length + 1 ≤ maxLen := by have := HQ.out; unfold maxLen; omega
        have hn47 : (zj.length + 1) * 24 ≤ 140737488355328 := by have := HQ.out; omega
        have hcl : ∀ w', Calls Tryd.prog 45 #[.slice VE zj.length ce] w' fun e w'' => e = .returned (.slice VE zj.length zj.length) ∧ w' = w'' := fun w' => clip_any w' VE zj.length ce HC.out.1 HC.out.2.1 HC.out.2.2
        have HT := Lib.hid (And.intro T1 (And.intro v1 hX))
        clear T1 v1 hX
        go_wp2_with fail
        refine wp_walk (by kernel_rfl) (by kernel_rfl) (fun w w' => Below w.heap.size w w') (fun w' => (Below w1.heap.size w1 w' ∧ w'.cell? ⟨Q, 1, none⟩ = some (.string nm) ∧ w'.cell? ⟨Q, 2, none⟩ = some (.int .i64 ak) ∧ w'.cell? ⟨Q, 3, none⟩ = some (.int .i64 an) ∧ w'.cell? ⟨Q, 4, none⟩ = some (.string sa) ∧ w'.cell? ⟨Q, 5, none⟩ = some (.slice aA al ac))) hS0 ?_
        repeat (first | (refine settle_skip (fun _ => by rfl) ?_; (simp only [Act.put, List.setIfInBounds_toArray, List.set_cons_zero, List.set_cons_succ])) | (refine' settle_run (fun _ _ => Below.refl _ _) (fun _ => by rfl) ?_ ?_; rotate_left; (focus (intro ρ w hS hF; (try dsimp only at hS); go_split_ands; go_simp; try with_reducible rfl)); (simp only [Act.put, List.setIfInBounds_toArray, List.set_cons_zero, List.set_cons_succ])))
        (refine' settle_step (fun _ => by rfl) ?_ ?_; rotate_left; (focus (intro ρ w hS hF K hK; (simp only [Act.put, List.setIfInBounds_toArray, List.set_cons_zero, List.set_cons_succ] at hK); go_simp; (refine (hcl _).mono ?_; rintro e w' ⟨rfl, rfl⟩; have hS' := hS; have hE' := Below.refl w.heap.size w); exact hK _ hS' hE')); (simp only [Act.put, List.setIfInBounds_toArray, List.set_cons_zero, List.set_cons_succ]))
        repeat (first | (refine settle_skip (fun _ => by rfl) ?_; (simp only [Act.put, List.setIfInBounds_toArray, List.set_cons_zero, List.set_cons_succ])) | (refine' settle_run (fun _ _ => Below.refl _ _) (fun _ => by rfl) ?_ ?_; rotate_left; (focus (intro ρ w hS hF; (try dsimp only at hS); go_split_ands; go_simp; try with_reducible rfl)); (simp only [Act.put, List.setIfInBounds_toArray, List.set_cons_zero, List.set_cons_succ])))
        (refine' settle_step (fun _ => by rfl) ?_ ?_; rotate_left; (focus (intro ρ w hS hF K hK; (simp only [Act.put, List.setIfInBounds_toArray, List.set_cons_zero, List.set_cons_succ] at hK); go_simp; (refine (gE _ hS.1).mono ?_; rintro e w' ⟨rfl, hb'⟩; have hS' := keepS _ (below_next hb' hS.1); have hE' := hb'); exact hK _ hS' hE')); (simp only [Act.put, List.setIfInBounds_toArray, List.set_cons_zero, List.set_cons_succ]))
        repeat (first | (refine settle_skip (fun _ => by rfl) ?_; (simp only [Act.put, List.setIfInBounds_toArray, List.set_cons_zero, List.set_cons_succ])) | (refine' settle_run (fun _ _ => Below.refl _ _) (fun _ => by rfl) ?_ ?_; rotate_left; (focus (intro ρ w hS hF; (try dsimp only at hS); go_split_ands; go_simp; try with_reducible rfl)); (simp only [Act.put, List.setIfInBounds_toArray, List.set_cons_zero, List.set_cons_succ])))
        (refine settle_known (FSl 2 1 [.string nm, .int .i64 y]) (by rfl) (fun _ => by rfl)  ?_ ?_; (focus (intro ρ w hS hF K hK; (simp only [Act.put, List.setIfInBounds_toArray, List.set_cons_zero, List.set_cons_succ] at hK); go_simp; exact hK _ _ (SlV.lit w [.string nm, .int .i64 y] 89 2 1 rfl (by decide)) (keepS _ (below_alloc hS.1 _)) (below_alloc (Below.refl _ _) _))); (simp only [Act.put, List.setIfInBounds_toArray, List.set_cons_zero, List.set_cons_succ]))
        (refine settle_known (FRow w1.heap.size 89 2 (zj.length + 1) (Ex.bindcs zj ++ ([.string nm, .int .i64 y] : List Value))) (by rfl) (fun _ => by rfl) ?_ ?_; (focus (intro ρ w hS hF K hK; refine oper_full (.tmp 24) (.tmp 32) _ _ _ _ _ Tryd.underlying86 info_bnd rfl (by decide) (gS w hS.1) (hF.1 (by rfl)) (bindc_one (nm, y)) (by decide) hn63 hn47 rfl rfl rfl ?_; intro v' w' hown hb; exact hK v' w' (own_base hown hS.1.size) (keepS _ (below_next hb hS.1)) hb)); (simp only [Act.put, List.setIfInBounds_toArray, List.set_cons_zero, List.set_cons_succ]))
        (refine settle_known (FRow w1.heap.size 89 2 (zj.length + 1) (Ex.bindcs zj ++ ([.string nm, .int .i64 y] : List Value))) (by rfl) (fun _ => by rfl)  ?_ ?_; (focus (intro ρ w hS hF K hK; (simp only [Act.put, List.setIfInBounds_toArray, List.set_cons_zero, List.set_cons_succ] at hK); go_simp; exact hK _ _ (hF.1 (by rfl)) hS (Below.refl _ _))); (simp only [Act.put, List.setIfInBounds_toArray, List.set_cons_zero, List.set_cons_succ]))
        refine settle_nil ?_
        intro ρ w4 hS hF
        have hrow : w4.ownsRow w1.heap.size 89 2 (ρ 2) (zj.length + 1) (Ex.bindcs zj ++ Ex.bindc (nm, y)) := hF 2 (FRow w1.heap.size 89 2 (zj.length + 1) (Ex.bindcs zj ++ ([.string nm, .int .i64 y] : List Value))) (by repeat (first | exact List.mem_cons_self | apply List.mem_cons_of_mem))
        have hb4 := hS.1
        clear hF hS hS0 keepS gS hcl gE
        dsimp only
        generalize ρ 33 = v33
        generalize ρ 32 = v32
        generalize ρ 2 = v4 at hrow ⊢
        obtain ⟨T1, v1, hX⟩ := HT.out
        have T4 := T1.later hb4
        have v4e : EnvAt w4 (RuT g mj.step vtj) v4 (zj ++ [(nm, y)]) := v1.grown hry (fun k hk => T1.own.lt hk) hrow
        obtain ⟨V4, c4', rfl, -, -⟩ := own_slice hrow
        clear HT T1 v1 hb4 hrow
        have HZ := Lib.hid (And.intro T4 (And.intro v4e hfs))
        obtain ⟨c0, c1, c2, c3, c4, c5, c6, c7, c8, c9, c10, c11⟩ := hX.cells _ T4.kp
        obtain ⟨xa, xb, pb, pe⟩ := hX.read _ T4.kp
        have hlab := labels_any (.cons 1 nm.data.toList ea eb body els .nil) _ _ 1 1 _ (Nat.le_refl _) (one_pr 36 T4.own.base xa xb pb pe hd) (Nat.le_refl _) (by decide) (by rw [size_one]; have := HQ.out; omega)
        have hlo := T4.own.base
        unfold stcells xcells at hlab
        rw [labels_one] at hlab
        have hlb := St.lab1_le 1 (St.labels body) (St.labels els)
        have hlb1 := St.labels_le body
        have hlb2 := St.labels_le els
        have hlz : lj + (1 + St.labels body + St.labels els) ≤ 576460752303423488 := by have := HQ.out; omega
        have HL := Lib.hid (And.intro hlb (And.intro hlb1 (And.intro hlb2 hlz)))
        clear T4 v4e hfs xa xb pb pe hlb hlb1 hlb2 hlz hX
        try go_wp2_with fail
        refine hlab.mono ?_
        rintro e wl ⟨rfl, hbl⟩
        have hbl2 := below_next hbl (below_alloc (Below.refl _ _) _)
        have TE := ((HW.out.later hbA).step HZ.out.1).later hbl2
        have vE := HZ.out.2.1.later hbl2
        have HE := Lib.hid (And.intro TE vE)
        clear hlab hbl hbl2 TE vE hbA c0 c1 c2 c3 c4 c5 c6 c7 c8 c9 c10 c11
        go_wp2_with fail
        go_roundw
        case rel => exact ⟨k + 1, rest, _, lj + St.lab1 1 (St.labels body) (St.labels els), _, _, by omega, by go_num, by rw [i64_add _ _ (by have := HL.out; omega)], by rw [show n - (k + 1) = n - k - 1 by omega]; exact HQ.out.2.2.2.2.2, HE.out.1, HE.out.2, HZ.out.2.2, hrun, by have := HQ.out; omega, by have := HQ.out; first | omega | (simp only [List.length_append, List.length_singleton]; omega), by have := HQ.out; have := HL.out; omega⟩
        case measure => simp [intOf]; omega
      · obtain ⟨y, hy⟩ : ∃ y, y = Ex.evl (Ex.bs zj) ea := ⟨_, rfl⟩
        obtain ⟨c, hc⟩ : ∃ c, c = Sr.cell y := ⟨_, rfl⟩
        obtain ⟨x, hx⟩ : ∃ x, x = mj.heap.getD c 0 := ⟨_, rfl⟩
        have hc8 : c < 8 := by rw [hc]; exact Sr.cell_lt y
        have hrx : Ex.rng x := by rw [hx]; exact Sr.getD_rng hfj.rg c
        have hc8i : (c : Int) < 8 := by omega
        have hrun : Sr.run rest (Ex.bs (zj ++ [(nm, x)])) (lj + St.lab1 2 (St.labels body) (St.labels els)) (mj.step.acc c false lj) = R := by rw [bs_snoc, hx, hc, hy]; exact HRN.out
        have hon1 := Sr.run_on rest (Ex.bs (zj ++ [(nm, x)])) (lj + St.lab1 2 (St.labels body) (St.labels els)) (mj.step.acc c false lj)
        rw [hrun] at hon1
        have hmore : mj.steps + 1 ≤ R.steps := hon1.steps
        have f3 : mj.steps + 1 ≤ F → Sr.Fit F (mj.step.acc c false lj) := fun hs => ⟨hfj.len, hfj.rg, hs, by have := hfj.tr; show (mj.trace ++ [_]).length ≤ mj.steps + 1; simp; omega⟩
        have HYY := Lib.hid (And.intro hy (And.intro hc hx))
        clear hy hx
        go_wp2_with fail
        generalize (wr.alloc (.cells #[.int .i64 2, .string nm, .int .i64 ak, .int .i64 an, .string sa, .slice aA al ac, .int .i64 bk, .int .i64 bn, .string sb, .slice bA bl bc, .slice D dl dc, .slice E el ec] 36)) = W0 at hbA hX T0 v0 ⊢
        rw [← hQQ.out]
        clear c0 c1 c2 c3 c4 c5 c6 c7 c8 c9 c10 c11
        by_cases hst : mj.steps = F
        · have hg := step_out B W0 g F mj vtj T0.own hfj.len hst
          have hend : ∀ w1, Below W0.heap.size W0 w1 → F < R.steps ∧ Keeps (RuT g m vt) w w1 := fun w1 hb1 => ⟨by have := hmore; omega, (HW.out.kp.trans (Keeps.of_below hbA _)).trans (Keeps.of_below hb1 _)⟩
          have HH := Lib.hid hend
          clear hend hX T0 v0 hbA hst hmore
          refine hg.mono ?_
          rintro e w1 ⟨rfl, hb1⟩
          obtain ⟨h1, h2⟩ := HH.out w1 hb1
          clear hg hb1
          go_wp2
          exact ⟨rfl, .inr ⟨h1, rfl, h2⟩⟩
        have hfs : Sr.Fit F mj.step := ⟨hfj.len, hfj.rg, by have := hfj.st; show mj.steps + 1 ≤ F; omega, by have := hfj.tr; show mj.trace.length ≤ mj.steps + 1; omega⟩
        refine (step_ok B W0 g F mj vtj T0.own hfj.len (by have := hfj.st; omega) hF).mono ?_
        rintro e w1 ⟨rfl, h1⟩
        have T1 := T0.step h1
        have v1 := v0.step T1.kp T1.nw
        clear h1 T0 v0 hst hmore
        have f3 := f3 hfs.st
        obtain ⟨c0, c1, c2, c3, c4, c5, c6, c7, c8, c9, c10, c11⟩ := hX.cells _ T1.kp
        obtain ⟨xa, xb, pb, pe⟩ := hX.read _ T1.kp
        have gE : Calls Tryd.prog 46 #[.agg #[.int .i64 ak, .int .i64 an, .string sa, .slice aA al ac], .slice VE zj.length ce] w1 fun r w'' => r = .returned (.int .i64 y) ∧ Below w1.heap.size w1 w'' := by
          rw [HYY.out.1]
          exact eval_ok (.slice VE zj.length ce) zj (by have := HQ.out; omega) ea w1 _ (xa.up T1.own.base) v1.sl
        clear c0 c1 xa xb pb pe
        go_wp2_with fail
        refine gE.mono ?_
        rintro e w2 ⟨rfl, hb2⟩
        have T2 := T1.later hb2
        have v2 := v1.later hb2
        have hacc := access_any B w2 g F mj.step vtj y false lj T2.own hfs.len (by have := hfs.st; have := hfs.tr; omega)
        rw [← hc] at hacc
        clear gE T1 v1 c2 c3 c4 c5 c6 c7 c8 c9 c10 c11 hb2 hc
        go_wp2_with fail
        refine hacc.mono ?_
        rintro e w3 ⟨rfl, vt3, h3⟩
        have T3 := T2.step h3
        have v3 := v2.step h3.kp h3.nw
        have keepS : ∀ w', Below w3.heap.size w3 w' → (Below w3.heap.size w3 w' ∧ w'.cell? ⟨Q, 1, none⟩ = some (.string nm) ∧ w'.cell? ⟨g, c, none⟩ = some (.int .i64 x)) := fun w' hb => by
          obtain ⟨c0, c1, -⟩ := hX.cells w' (T3.later hb).kp
          exact ⟨hb, c1, by rw [HYY.out.2.2]; exact ((T3.later hb).own.blk.cell c).trans ((Sr.rcells_get f3.len).1 c hc8)⟩
        have gS : ∀ w', Below w3.heap.size w3 w' → SlV w' 2 (.slice VE zj.length zj.length) zj.length (Ex.bindcs zj) := fun w' hb => by
          obtain ⟨A', c', e', q1, q2, q3, q4⟩ := (v3.later hb).sl
          injection e' with e1 e2 e3
          subst e1
          exact ⟨VE, zj.length, rfl, Nat.le_refl _, by have := HC.out; omega, q3, q4⟩
        have hS0 := keepS _ (below_drew (Below.refl _ _))
        have hn63 : zj.length + 1 ≤ maxLen := by have := HQ.out; unfold maxLen; omega
        have hn47 : (zj.length + 1) * 24 ≤ 140737488355328 := by have := HQ.out; omega
        have hcl : ∀ w', Calls Tryd.prog 45 #[.slice VE zj.length ce] w' fun e w'' => e = .returned (.slice VE zj.length zj.length) ∧ w' = w'' := fun w' => clip_any w' VE zj.length ce HC.out.1 HC.out.2.1 HC.out.2.2
        have HT := Lib.hid (And.intro T3 (And.intro v3 hX))
        clear T3 v3 hX h3 hacc T2 v2
        go_wp2_with fail
        refine wp_walk (by kernel_rfl) (by kernel_rfl) (fun w w' => Below w.heap.size w w') (fun w' => (Below w3.heap.size w3 w' ∧ w'.cell? ⟨Q, 1, none⟩ = some (.string nm) ∧ w'.cell? ⟨g, c, none⟩ = some (.int .i64 x))) hS0 ?_
        repeat (first | (refine settle_skip (fun _ => by rfl) ?_; (simp only [Act.put, List.setIfInBounds_toArray, List.set_cons_zero, List.set_cons_succ])) | (refine' settle_run (fun _ _ => Below.refl _ _) (fun _ => by rfl) ?_ ?_; rotate_left; (focus (intro ρ w hS hF; (try dsimp only at hS); go_split_ands; go_simp; try with_reducible rfl)); (simp only [Act.put, List.setIfInBounds_toArray, List.set_cons_zero, List.set_cons_succ])))
        (refine' settle_step (fun _ => by rfl) ?_ ?_; rotate_left; (focus (intro ρ w hS hF K hK; (simp only [Act.put, List.setIfInBounds_toArray, List.set_cons_zero, List.set_cons_succ] at hK); go_simp; (refine (hcl _).mono ?_; rintro e w' ⟨rfl, rfl⟩; have hS' := hS; have hE' := Below.refl w.heap.size w); exact hK _ hS' hE')); (simp only [Act.put, List.setIfInBounds_toArray, List.set_cons_zero, List.set_cons_succ]))
        repeat (first | (refine settle_skip (fun _ => by rfl) ?_; (simp only [Act.put, List.setIfInBounds_toArray, List.set_cons_zero, List.set_cons_succ])) | (refine' settle_run (fun _ _ => Below.refl _ _) (fun _ => by rfl) ?_ ?_; rotate_left; (focus (intro ρ w hS hF; (try dsimp only at hS); go_split_ands; go_simp; try with_reducible rfl)); (simp only [Act.put, List.setIfInBounds_toArray, List.set_cons_zero, List.set_cons_succ])))
        (refine settle_known (FSl 2 1 [.string nm, .int .i64 x]) (by rfl) (fun _ => by rfl)  ?_ ?_; (focus (intro ρ w hS hF K hK; (simp only [Act.put, List.setIfInBounds_toArray, List.set_cons_zero, List.set_cons_succ] at hK); go_simp; exact hK _ _ (SlV.lit w [.string nm, .int .i64 x] 89 2 1 rfl (by decide)) (keepS _ (below_alloc hS.1 _)) (below_alloc (Below.refl _ _) _))); (simp only [Act.put, List.setIfInBounds_toArray, List.set_cons_zero, List.set_cons_succ]))
        (refine settle_known (FRow w3.heap.size 89 2 (zj.length + 1) (Ex.bindcs zj ++ ([.string nm, .int .i64 x] : List Value))) (by rfl) (fun _ => by rfl) ?_ ?_; (focus (intro ρ w hS hF K hK; refine oper_full (.tmp 46) (.tmp 56) _ _ _ _ _ Tryd.underlying86 info_bnd rfl (by decide) (gS w hS.1) (hF.1 (by rfl)) (bindc_one (nm, x)) (by decide) hn63 hn47 rfl rfl rfl ?_; intro v' w' hown hb; exact hK v' w' (own_base hown hS.1.size) (keepS _ (below_next hb hS.1)) hb)); (simp only [Act.put, List.setIfInBounds_toArray, List.set_cons_zero, List.set_cons_succ]))
        (refine settle_known (FRow w3.heap.size 89 2 (zj.length + 1) (Ex.bindcs zj ++ ([.string nm, .int .i64 x] : List Value))) (by rfl) (fun _ => by rfl)  ?_ ?_; (focus (intro ρ w hS hF K hK; (simp only [Act.put, List.setIfInBounds_toArray, List.set_cons_zero, List.set_cons_succ] at hK); go_simp; exact hK _ _ (hF.1 (by rfl)) hS (Below.refl _ _))); (simp only [Act.put, List.setIfInBounds_toArray, List.set_cons_zero, List.set_cons_succ]))
        refine settle_nil ?_
        intro ρ w4 hS hF
        have hrow : w4.ownsRow w3.heap.size 89 2 (ρ 2) (zj.length + 1) (Ex.bindcs zj ++ Ex.bindc (nm, x)) := hF 2 (FRow w3.heap.size 89 2 (zj.length + 1) (Ex.bindcs zj ++ ([.string nm, .int .i64 x] : List Value))) (by repeat (first | exact List.mem_cons_self | apply List.mem_cons_of_mem))
        have hb4 := hS.1
        clear hF hS hS0 keepS gS hcl
        dsimp only
        generalize ρ 57 = v57
        generalize ρ 56 = v56
        generalize ρ 2 = v4 at hrow ⊢
        obtain ⟨T3, v3, hX⟩ := HT.out
        have T4 := T3.later hb4
        have v4e : EnvAt w4 (RuT g (mj.step.acc c false lj) vt3) v4 (zj ++ [(nm, x)]) := v3.grown hrx (fun k hk => T3.own.lt hk) hrow
        obtain ⟨V4, c4', rfl, -, -⟩ := own_slice hrow
        clear HT T3 v3 hb4 hrow hc8
        have HZ := Lib.hid (And.intro T4 (And.intro v4e f3))
        obtain ⟨c0, c1, c2, c3, c4, c5, c6, c7, c8, c9, c10, c11⟩ := hX.cells _ T4.kp
        obtain ⟨xa, xb, pb, pe⟩ := hX.read _ T4.kp
        have hlab := labels_any (.cons 2 nm.data.toList ea eb body els .nil) _ _ 1 1 _ (Nat.le_refl _) (one_pr 36 T4.own.base xa xb pb pe hd) (Nat.le_refl _) (by decide) (by rw [size_one]; have := HQ.out; omega)
        have hlo := T4.own.base
        unfold stcells xcells at hlab
        rw [labels_one] at hlab
        have hlb := St.lab1_le 2 (St.labels body) (St.labels els)
        have hlb1 := St.labels_le body
        have hlb2 := St.labels_le els
        have hlz : lj + (1 + St.labels body + St.labels els) ≤ 576460752303423488 := by have := HQ.out; omega
        have HL := Lib.hid (And.intro hlb (And.intro hlb1 (And.intro hlb2 hlz)))
        clear T4 v4e f3 xa xb pb pe hlb hlb1 hlb2 hlz hX
        try go_wp2_with fail
        refine hlab.mono ?_
        rintro e wl ⟨rfl, hbl⟩
        have hbl2 := below_next hbl (below_alloc (Below.refl _ _) _)
        have TE := ((HW.out.later hbA).step HZ.out.1).later hbl2
        have vE := HZ.out.2.1.later hbl2
        have HE := Lib.hid (And.intro TE vE)
        clear hlab hbl hbl2 TE vE hbA c0 c1 c2 c3 c4 c5 c6 c7 c8 c9 c10 c11
        go_wp2_with fail
        go_roundw
        case rel => exact ⟨k + 1, rest, _, lj + St.lab1 2 (St.labels body) (St.labels els), _, _, by omega, by go_num, by rw [i64_add _ _ (by have := HL.out; omega)], by rw [show n - (k + 1) = n - k - 1 by omega]; exact HQ.out.2.2.2.2.2, HE.out.1, HE.out.2, HZ.out.2.2, hrun, by have := HQ.out; omega, by have := HQ.out; first | omega | (simp only [List.length_append, List.length_singleton]; omega), by have := HQ.out; have := HL.out; omega⟩
        case measure => simp [intOf]; omega
      · obtain ⟨y, hy⟩ : ∃ y, y = Ex.evl (Ex.bs zj) ea := ⟨_, rfl⟩
        obtain ⟨c, hc⟩ : ∃ c, c = Sr.cell y := ⟨_, rfl⟩
        obtain ⟨x, hx⟩ : ∃ x, x = Ex.evl (Ex.bs zj) eb := ⟨_, rfl⟩
        have hc8 : c < 8 := by rw [hc]; exact Sr.cell_lt y
        have hc8i : (c : Int) < 8 := by omega
        have hrx : Ex.rng x := by rw [hx]; exact Ex.evl_rng _ hrg _ hokb
        have hrun : Sr.run rest (Ex.bs zj) (lj + St.lab1 3 (St.labels body) (St.labels els)) ((mj.step.acc c true lj).put c x) = R := by rw [hx, hc, hy]; exact HRN.out
        have hon1 := Sr.run_on rest (Ex.bs zj) (lj + St.lab1 3 (St.labels body) (St.labels els)) ((mj.step.acc c true lj).put c x)
        rw [hrun] at hon1
        have hmore : mj.steps + 1 ≤ R.steps := hon1.steps
        have f3 : mj.steps + 1 ≤ F → Sr.Fit F (mj.step.acc c true lj) := fun hs => ⟨hfj.len, hfj.rg, hs, by have := hfj.tr; show (mj.trace ++ [_]).length ≤ mj.steps + 1; simp; omega⟩
        have f4 : mj.steps + 1 ≤ F → Sr.Fit F ((mj.step.acc c true lj).put c x) := fun hs => ⟨by show (mj.heap.set c x).length = 8; simp [hfj.len], fun z hz => by
          rcases List.mem_or_eq_of_mem_set (show z ∈ mj.heap.set c x from hz) with hz | rfl
          · exact hfj.rg z hz
          · exact hrx, hs, (f3 hs).tr⟩
        have HYY := Lib.hid (And.intro hy (And.intro hc hx))
        clear hy hx hc
        go_wp2_with fail
        generalize (wr.alloc (.cells #[.int .i64 3, .string nm, .int .i64 ak, .int .i64 an, .string sa, .slice aA al ac, .int .i64 bk, .int .i64 bn, .string sb, .slice bA bl bc, .slice D dl dc, .slice E el ec] 36)) = W0 at hbA hX T0 v0 ⊢
        rw [← hQQ.out]
        clear c0 c1 c2 c3 c4 c5 c6 c7 c8 c9 c10 c11
        by_cases hst : mj.steps = F
        · have hg := step_out B W0 g F mj vtj T0.own hfj.len hst
          have hend : ∀ w1, Below W0.heap.size W0 w1 → F < R.steps ∧ Keeps (RuT g m vt) w w1 := fun w1 hb1 => ⟨by have := hmore; omega, (HW.out.kp.trans (Keeps.of_below hbA _)).trans (Keeps.of_below hb1 _)⟩
          have HH := Lib.hid hend
          clear hend hX T0 v0 hbA hst hmore
          refine hg.mono ?_
          rintro e w1 ⟨rfl, hb1⟩
          obtain ⟨h1, h2⟩ := HH.out w1 hb1
          clear hg hb1
          go_wp2
          exact ⟨rfl, .inr ⟨h1, rfl, h2⟩⟩
        have hfs : Sr.Fit F mj.step := ⟨hfj.len, hfj.rg, by have := hfj.st; show mj.steps + 1 ≤ F; omega, by have := hfj.tr; show mj.trace.length ≤ mj.steps + 1; omega⟩
        refine (step_ok B W0 g F mj vtj T0.own hfj.len (by have := hfj.st; omega) hF).mono ?_
        rintro e w1 ⟨rfl, h1⟩
        have T1 := T0.step h1
        have v1 := v0.step T1.kp T1.nw
        clear h1 T0 v0 hst hmore
        have f3 := f3 hfs.st
        have f4 := f4 hfs.st
        have hkk : ∀ w', Keeps (RuT g mj.step vtj) w1 w' → Keeps (RuT g mj vtj) W0 w' := fun w' k => T1.kp.step k (fun i hi ht => (T1.nw i ht).resolve_right (by omega))
        have keepS : ∀ w', Keeps (RuT g mj.step vtj) w1 w' → (Keeps (RuT g mj.step vtj) w1 w' ∧ w'.cell? ⟨Q, 2, none⟩ = some (.int .i64 ak) ∧ w'.cell? ⟨Q, 3, none⟩ = some (.int .i64 an) ∧ w'.cell? ⟨Q, 4, none⟩ = some (.string sa) ∧ w'.cell? ⟨Q, 5, none⟩ = some (.slice aA al ac) ∧
          w'.cell? ⟨Q, 6, none⟩ = some (.int .i64 bk) ∧ w'.cell? ⟨Q, 7, none⟩ = some (.int .i64 bn) ∧ w'.cell? ⟨Q, 8, none⟩ = some (.string sb) ∧ w'.cell? ⟨Q, 9, none⟩ = some (.slice bA bl bc)) := fun w' hb => by
          obtain ⟨c0, c1, c2, c3, c4, c5, c6, c7, c8, c9, c10, c11⟩ := hX.cells w' (hkk w' hb)
          exact ⟨hb, c2, c3, c4, c5, c6, c7, c8, c9⟩
        have gE : ∀ (w' : World) (ck cn : Int) (sc : ByteArray) (cA : Option Addr) (cl cc : Nat) (e : Ex.X) (z : Int), z = Ex.evl (Ex.bs zj) e → Keeps (RuT g mj.step vtj) w1 w' → XR B w' (xcells ck cn sc cA cl cc) e → Calls Tryd.prog 46 #[.agg #[.int .i64 ck, .int .i64 cn, .string sc, .slice cA cl cc], .slice VE zj.length ce] w' fun r w'' => r = .returned (.int .i64 z) ∧ Below w'.heap.size w' w'' := fun w' ck cn sc cA cl cc e z hz hb hx => by
          rw [hz]
          exact eval_ok (.slice VE zj.length ce) zj (by have := HQ.out; omega) e w' _ (hx.up (Nat.le_trans T1.own.base hb.size)) (v1.step hb (fun i h => .inl h)).sl
        have gX : ∀ w', Keeps (RuT g mj.step vtj) w1 w' → XR B w' (xcells ak an sa aA al ac) ea ∧ XR B w' (xcells bk bn sb bA bl bc) eb := fun w' hb => ⟨(hX.read w' (hkk w' hb)).1, (hX.read w' (hkk w' hb)).2.1⟩
        have gA : ∀ w', Below w1.heap.size w1 w' → Calls Tryd.prog 47 #[.pointer (some ⟨g, 0, none⟩), .int .i64 y, .bool true, .int .i64 (lj : Int)] w' fun e w'' => e = .returned (.int .i64 (c : Int)) ∧ ∃ vt', RuTo B w1 (RuT g mj.step vtj) w'' g F (mj.step.acc c true lj) vt' := fun w' hb => by
          have h := access_any B w' g F mj.step vtj y true lj (T1.own.later hb) hfs.len (by have := hfs.st; have := hfs.tr; omega)
          rw [← HYY.out.2.1] at h
          exact h.mono fun e w'' ⟨h1, vt', h2⟩ => ⟨h1, vt', h2.since hb⟩
        have hS1 := keepS _ ((Keeps.refl _ w1).drewN 1)
        have HT := Lib.hid (And.intro T1 (And.intro v1 (And.intro hX (And.intro f3 f4))))
        clear T1 v1 hX hkk f3 f4
        go_wp2_with fail
        refine wp_walk_mt 15 (fun i => ([7] : List Nat).contains i) (fun i => ([0,8,9,10,12,13] : List Nat).contains i) [7] (by intro m h; simpa using h) (by kernel_rfl) (by kernel_rfl) (by kernel_rfl) (fun w w' => Below w.heap.size w w')  (fun w' => (Keeps (RuT g mj.step vtj) w1 w' ∧ w'.cell? ⟨Q, 2, none⟩ = some (.int .i64 ak) ∧ w'.cell? ⟨Q, 3, none⟩ = some (.int .i64 an) ∧ w'.cell? ⟨Q, 4, none⟩ = some (.string sa) ∧ w'.cell? ⟨Q, 5, none⟩ = some (.slice aA al ac) ∧ w'.cell? ⟨Q, 6, none⟩ = some (.int .i64 bk) ∧ w'.cell? ⟨Q, 7, none⟩ = some (.int .i64 bn) ∧ w'.cell? ⟨Q, 8, none⟩ = some (.string sb) ∧ w'.cell? ⟨Q, 9, none⟩ = some (.slice bA bl bc))) (fun w' => Below w1.heap.size w1 w') hS1 (below_drew (Below.refl _ _)) (fun _ _ h h' => below_next h' h) ?_
        simp only [List.length_cons, List.length_nil, Nat.reduceAdd, Nat.reduceSub, List.take_succ_cons, List.take_zero, List.drop_succ_cons, List.drop_zero]
        repeat (first | (refine nsettle_skip (by rfl) (fun _ => by rfl) ?_; (simp only [Act.put, List.setIfInBounds_toArray, List.set_cons_zero, List.set_cons_succ])) | (refine' nsettle_run (by rfl) (fun _ _ => Below.refl _ _) (fun _ => by rfl) ?_ ?_; rotate_left; (focus (intro ρ w hS hF hP; (try dsimp only at hS); go_split_ands; go_simp; try with_reducible rfl)); (simp only [Act.put, List.setIfInBounds_toArray, List.set_cons_zero, List.set_cons_succ])))
        (refine' nsettle_step (by rfl) (fun _ => by rfl) ?_ ?_; rotate_left; (focus (intro ρ w hS hF hP K hK; (simp only [Act.put, List.setIfInBounds_toArray, List.set_cons_zero, List.set_cons_succ] at hK); go_simp; (refine (gE _ _ _ _ _ _ _ _ y HYY.out.1 hS.1 (gX _ hS.1).1).mono ?_; rintro e w' ⟨rfl, hb'⟩; have hS' := keepS _ (hS.1.trans (Keeps.of_below hb' _)); have hE' := hb'); exact hK _ hS' hE')); (simp only [Act.put, List.setIfInBounds_toArray, List.set_cons_zero, List.set_cons_succ]))
        repeat (first | (refine nsettle_skip (by rfl) (fun _ => by rfl) ?_; (simp only [Act.put, List.setIfInBounds_toArray, List.set_cons_zero, List.set_cons_succ])) | (refine' nsettle_run (by rfl) (fun _ _ => Below.refl _ _) (fun _ => by rfl) ?_ ?_; rotate_left; (focus (intro ρ w hS hF hP; (try dsimp only at hS); go_split_ands; go_simp; try with_reducible rfl)); (simp only [Act.put, List.setIfInBounds_toArray, List.set_cons_zero, List.set_cons_succ])))
        (refine nsettle_mark (FAcc B w1 (RuT g mj.step vtj) g F (mj.step.acc c true lj) (.int .i64 (c : Int))) (by rfl) (by rfl) (by rfl) (fun _ => by rfl) ?_ ?_; (focus (intro ρ w hS hF hP K hK; (simp only [Act.put, List.setIfInBounds_toArray, List.set_cons_zero, List.set_cons_succ] at hK); go_simp; (refine (gA _ (hP (by rfl))).mono ?_; rintro e w' ⟨rfl, vt', h'⟩; exact hK _ _ ⟨rfl, vt', h'⟩ (keepS _ h'.kp)))); (simp only [Act.put, List.setIfInBounds_toArray, List.set_cons_zero, List.set_cons_succ]))
        repeat (first | (refine nsettle_skip (by rfl) (fun _ => by rfl) ?_; (simp only [Act.put, List.setIfInBounds_toArray, List.set_cons_zero, List.set_cons_succ])) | (refine' nsettle_run (by rfl) (fun _ _ => Below.refl _ _) (fun _ => by rfl) ?_ ?_; rotate_left; (focus (intro ρ w hS hF hP; (try dsimp only at hS); go_split_ands; go_simp; try with_reducible rfl)); (simp only [Act.put, List.setIfInBounds_toArray, List.set_cons_zero, List.set_cons_succ])))
        (refine' nsettle_step (by rfl) (fun _ => by rfl) ?_ ?_; rotate_left; (focus (intro ρ w hS hF hP K hK; (simp only [Act.put, List.setIfInBounds_toArray, List.set_cons_zero, List.set_cons_succ] at hK); go_simp; (refine (gE _ _ _ _ _ _ _ _ x HYY.out.2.2 hS.1 (gX _ hS.1).2).mono ?_; rintro e w' ⟨rfl, hb'⟩; have hS' := keepS _ (hS.1.trans (Keeps.of_below hb' _)); have hE' := hb'); exact hK _ hS' hE')); (simp only [Act.put, List.setIfInBounds_toArray, List.set_cons_zero, List.set_cons_succ]))
        repeat (first | (refine nsettle_skip (by rfl) (fun _ => by rfl) ?_; (simp only [Act.put, List.setIfInBounds_toArray, List.set_cons_zero, List.set_cons_succ])) | (refine' nsettle_run (by rfl) (fun _ _ => Below.refl _ _) (fun _ => by rfl) ?_ ?_; rotate_left; (focus (intro ρ w hS hF hP; (try dsimp only at hS); go_split_ands; go_simp; try with_reducible rfl)); (simp only [Act.put, List.setIfInBounds_toArray, List.set_cons_zero, List.set_cons_succ])))
        (refine nsettle_known (FAcc B w1 (RuT g mj.step vtj) g F (mj.step.acc c true lj) (.pointer (some ⟨g, c, none⟩))) (by rfl) (by rfl) (by rfl) (fun _ => by rfl)  ?_ ?_; (focus (intro ρ w hS hF hP K hK; (simp only [Act.put, List.setIfInBounds_toArray, List.set_cons_zero, List.set_cons_succ] at hK); go_simp; (obtain ⟨hv, vt', h'⟩ := hF.1 (by rfl); rw [hv] at hK ⊢; go_simp; exact hK _ _ ⟨rfl, vt', h'⟩ hS (Below.refl _ _)))); (simp only [Act.put, List.setIfInBounds_toArray, List.set_cons_zero, List.set_cons_succ]))
        refine nsettle_nil ?_
        intro ρ w4 hS hF
        obtain ⟨hv76, vt4, h4⟩ := hF 76 (FAcc B w1 (RuT g mj.step vtj) g F (mj.step.acc c true lj) (.pointer (some ⟨g, c, none⟩))) (by repeat (first | exact List.mem_cons_self | apply List.mem_cons_of_mem))
        obtain ⟨T1, v1, hX, f3, f4⟩ := HT.out
        have v4 := v1.step h4.kp h4.nw
        have T4 := T1.step h4
        have hB4 := h4.own.blk
        have hend : ∀ w5, Blk w5 g 69 ((Sr.rcells F (mj.step.acc c true lj) vt4).set c (.int .i64 x)) → w4.grownBy w5 (some g) → RuTo B W0 (RuT g mj vtj) w5 g F ((mj.step.acc c true lj).put c x) vt4 ∧ EnvAt w5 (RuT g ((mj.step.acc c true lj).put c x) vt4) (.slice VE zj.length ce) zj := fun w5 b5 g5 => by
          have h5 := h4.own.cells_to b5 g5
          rw [Sr.rcells_put f3.len c hc8] at h5
          exact ⟨T4.step h5, v4.step h5.kp h5.nw⟩
        have hcl8 : c < (Sr.rcells F (mj.step.acc c true lj) vt4).length := by unfold Sr.rcells; rw [List.length_append, ints_length, f3.len]; simp; omega
        have HE4 := Lib.hid hend
        clear hend hF hS hS1 keepS gE gX gA HT T1 v1 v4 T4 h4 f3
        dsimp only
        rw [hv76]
        generalize ρ 69 = v69
        clear hv76
        go_wp2_with (first | (refine wpl_set_blk hB4 c (.int .i64 x) (by kernel_rfl) hcl8 rfl rfl rfl rfl rfl rfl ?_; intro w5 hB5 hg5; obtain ⟨T5, v5⟩ := HE4.out w5 hB5 hg5; obtain ⟨c0, c1, c2, c3, c4, c5, c6, c7, c8, c9, c10, c11⟩ := hX.cells _ T5.kp; clear hB4 hB5 hg5 HE4 hcl8) | fail)
        clear c0 c1 c2 c3 c4 c5 c6 c7 c8 c9 c10 c11
        clear hc8 hc8i
        have HZ := Lib.hid (And.intro T5 (And.intro v5 f4))
        obtain ⟨c0, c1, c2, c3, c4, c5, c6, c7, c8, c9, c10, c11⟩ := hX.cells _ T5.kp
        obtain ⟨xa, xb, pb, pe⟩ := hX.read _ T5.kp
        have hlab := labels_any (.cons 3 nm.data.toList ea eb body els .nil) _ _ 1 1 _ (Nat.le_refl _) (one_pr 36 T5.own.base xa xb pb pe hd) (Nat.le_refl _) (by decide) (by rw [size_one]; have := HQ.out; omega)
        have hlo := T5.own.base
        unfold stcells xcells at hlab
        rw [labels_one] at hlab
        have hlb := St.lab1_le 3 (St.labels body) (St.labels els)
        have hlb1 := St.labels_le body
        have hlb2 := St.labels_le els
        have hlz : lj + (1 + St.labels body + St.labels els) ≤ 576460752303423488 := by have := HQ.out; omega
        have HL := Lib.hid (And.intro hlb (And.intro hlb1 (And.intro hlb2 hlz)))
        clear T5 v5 f4 xa xb pb pe hlb hlb1 hlb2 hlz hX
        try go_wp2_with fail
        refine hlab.mono ?_
        rintro e wl ⟨rfl, hbl⟩
        have hbl2 := below_next hbl (below_alloc (Below.refl _ _) _)
        have TE := ((HW.out.later hbA).step HZ.out.1).later hbl2
        have vE := HZ.out.2.1.later hbl2
        have HE := Lib.hid (And.intro TE vE)
        clear hlab hbl hbl2 TE vE hbA c0 c1 c2 c3 c4 c5 c6 c7 c8 c9 c10 c11
        go_wp2_with fail
        go_roundw
        case rel => exact ⟨k + 1, rest, _, lj + St.lab1 3 (St.labels body) (St.labels els), _, _, by omega, by go_num, by rw [i64_add _ _ (by have := HL.out; omega)], by rw [show n - (k + 1) = n - k - 1 by omega]; exact HQ.out.2.2.2.2.2, HE.out.1, HE.out.2, HZ.out.2.2, hrun, by have := HQ.out; omega, by have := HQ.out; first | omega | (simp only [List.length_append, List.length_singleton]; omega), by have := HQ.out; have := HL.out; omega⟩
        case measure => simp [intOf]; omega
      · have hrun : Sr.run rest (Ex.bs zj) (lj + St.labels body) (Sr.run body (Ex.bs zj) lj mj.step) = R := HRN.out
        have hon1 := Sr.run_on rest (Ex.bs zj) (lj + St.labels body) (Sr.run body (Ex.bs zj) lj mj.step)
        rw [hrun] at hon1
        have hon0 := Sr.run_on body (Ex.bs zj) lj mj.step
        have hmore : mj.steps + 1 ≤ R.steps := Nat.le_trans hon0.steps hon1.steps
        go_wp2_with fail
        generalize (wr.alloc (.cells #[.int .i64 4, .string nm, .int .i64 ak, .int .i64 an, .string sa, .slice aA al ac, .int .i64 bk, .int .i64 bn, .string sb, .slice bA bl bc, .slice D dl dc, .slice E el ec] 36)) = W0 at hbA hX T0 v0 ⊢
        rw [← hQQ.out]
        clear c0 c1 c2 c3 c4 c5 c6 c7 c8 c9 c10 c11
        by_cases hst : mj.steps = F
        · have hg := step_out B W0 g F mj vtj T0.own hfj.len hst
          have hend : ∀ w1, Below W0.heap.size W0 w1 → F < R.steps ∧ Keeps (RuT g m vt) w w1 := fun w1 hb1 => ⟨by have := hmore; omega, (HW.out.kp.trans (Keeps.of_below hbA _)).trans (Keeps.of_below hb1 _)⟩
          have HH := Lib.hid hend
          clear hend hX T0 v0 hbA hst hmore
          refine hg.mono ?_
          rintro e w1 ⟨rfl, hb1⟩
          obtain ⟨h1, h2⟩ := HH.out w1 hb1
          clear hg hb1
          go_wp2
          exact ⟨rfl, .inr ⟨h1, rfl, h2⟩⟩
        have hfs : Sr.Fit F mj.step := ⟨hfj.len, hfj.rg, by have := hfj.st; show mj.steps + 1 ≤ F; omega, by have := hfj.tr; show mj.trace.length ≤ mj.steps + 1; omega⟩
        refine (step_ok B W0 g F mj vtj T0.own hfj.len (by have := hfj.st; omega) hF).mono ?_
        rintro e w1 ⟨rfl, h1⟩
        have T1 := T0.step h1
        have v1 := v0.step T1.kp T1.nw
        clear h1 T0 v0 hst hmore
        obtain ⟨c0, c1, c2, c3, c4, c5, c6, c7, c8, c9, c10, c11⟩ := hX.cells _ T1.kp
        obtain ⟨xa, xb, pb, pe⟩ := hX.read _ T1.kp
        have hblk := ih body (by have := HQ.out; omega) w1 B dl dc g F D vtj _ mj.step zj lj pb hd1 hd2 T1.own hfs hF v1 (by have := HQ.out; omega) (by have := HQ.out; omega)
        have hrg1 := Sr.run_rng body (Ex.bs zj) lj mj.step hokp hrg hfj.rg
        clear xa xb pb pe
        go_wp2_with fail
        refine hblk.mono ?_
        rintro e w2 (⟨h1, rfl, vtw2, h2⟩ | ⟨h1, rfl, h2⟩)
        · have Tw2 := T1.step h2
          have vw2 := v1.step h2.kp h2.nw
          have f2 := hfs.on hon0 hrg1 h1
          clear hblk h2 T1 v1 hrg1
          try clear c0 c1 c2 c3 c4 c5 c6 c7 c8 c9 c10 c11
          have HZ := Lib.hid (And.intro Tw2 (And.intro vw2 f2))
          obtain ⟨c0, c1, c2, c3, c4, c5, c6, c7, c8, c9, c10, c11⟩ := hX.cells _ Tw2.kp
          obtain ⟨xa, xb, pb, pe⟩ := hX.read _ Tw2.kp
          have hlab := labels_any (.cons 4 nm.data.toList ea eb body els .nil) _ _ 1 1 _ (Nat.le_refl _) (one_pr 36 Tw2.own.base xa xb pb pe hd) (Nat.le_refl _) (by decide) (by rw [size_one]; have := HQ.out; omega)
          have hlo := Tw2.own.base
          unfold stcells xcells at hlab
          rw [labels_one] at hlab
          have hlb := St.lab1_le 4 (St.labels body) (St.labels els)
          have hlb1 := St.labels_le body
          have hlb2 := St.labels_le els
          have hlz : lj + (1 + St.labels body + St.labels els) ≤ 576460752303423488 := by have := HQ.out; omega
          have HL := Lib.hid (And.intro hlb (And.intro hlb1 (And.intro hlb2 hlz)))
          clear Tw2 vw2 f2 xa xb pb pe hlb hlb1 hlb2 hlz hX
          try go_wp2_with fail
          refine hlab.mono ?_
          rintro e wl ⟨rfl, hbl⟩
          have hbl2 := below_next hbl (below_alloc (Below.refl _ _) _)
          have TE := ((HW.out.later hbA).step HZ.out.1).later hbl2
          have vE := HZ.out.2.1.later hbl2
          have HE := Lib.hid (And.intro TE vE)
          clear hlab hbl hbl2 TE vE hbA c0 c1 c2 c3 c4 c5 c6 c7 c8 c9 c10 c11
          go_wp2_with fail
          go_roundw
          case rel => exact ⟨k + 1, rest, _, lj + St.lab1 4 (St.labels body) (St.labels els), _, _, by omega, by go_num, by rw [i64_add _ _ (by have := HL.out; omega)], by rw [show n - (k + 1) = n - k - 1 by omega]; exact HQ.out.2.2.2.2.2, HE.out.1, HE.out.2, HZ.out.2.2, hrun, by have := HQ.out; omega, by have := HQ.out; first | omega | (simp only [List.length_append, List.length_singleton]; omega), by have := HQ.out; have := HL.out; omega⟩
          case measure => simp [intOf]; omega
        · have hk2 : Keeps (RuT g m vt) w w2 := ((HW.out.later hbA).step T1).kp.step h2 (fun i hi ht => (((HW.out.later hbA).step T1).nw i ht).resolve_right (by omega))
          have hlt' : F < R.steps := by have := hon1.steps; omega
          clear hblk h2 T1 v1 hX hbA
          try clear c0 c1 c2 c3 c4 c5 c6 c7 c8 c9 c10 c11
          go_wp2
          exact ⟨rfl, .inr ⟨hlt', rfl, hk2⟩⟩
      · have hrun : Sr.run rest (Ex.bs zj) (lj + St.labels body) (Sr.run body (Ex.bs zj) lj mj.step) = R := HRN.out
        have hon1 := Sr.run_on rest (Ex.bs zj) (lj + St.labels body) (Sr.run body (Ex.bs zj) lj mj.step)
        rw [hrun] at hon1
        have hon0 := Sr.run_on body (Ex.bs zj) lj mj.step
        have hmore : mj.steps + 1 ≤ R.steps := Nat.le_trans hon0.steps hon1.steps
        go_wp2_with fail
        generalize (wr.alloc (.cells #[.int .i64 5, .string nm, .int .i64 ak, .int .i64 an, .string sa, .slice aA al ac, .int .i64 bk, .int .i64 bn, .string sb, .slice bA bl bc, .slice D dl dc, .slice E el ec] 36)) = W0 at hbA hX T0 v0 ⊢
        rw [← hQQ.out]
        clear c0 c1 c2 c3 c4 c5 c6 c7 c8 c9 c10 c11
        by_cases hst : mj.steps = F
        · have hg := step_out B W0 g F mj vtj T0.own hfj.len hst
          have hend : ∀ w1, Below W0.heap.size W0 w1 → F < R.steps ∧ Keeps (RuT g m vt) w w1 := fun w1 hb1 => ⟨by have := hmore; omega, (HW.out.kp.trans (Keeps.of_below hbA _)).trans (Keeps.of_below hb1 _)⟩
          have HH := Lib.hid hend
          clear hend hX T0 v0 hbA hst hmore
          refine hg.mono ?_
          rintro e w1 ⟨rfl, hb1⟩
          obtain ⟨h1, h2⟩ := HH.out w1 hb1
          clear hg hb1
          go_wp2
          exact ⟨rfl, .inr ⟨h1, rfl, h2⟩⟩
        have hfs : Sr.Fit F mj.step := ⟨hfj.len, hfj.rg, by have := hfj.st; show mj.steps + 1 ≤ F; omega, by have := hfj.tr; show mj.trace.length ≤ mj.steps + 1; omega⟩
        refine (step_ok B W0 g F mj vtj T0.own hfj.len (by have := hfj.st; omega) hF).mono ?_
        rintro e w1 ⟨rfl, h1⟩
        have T1 := T0.step h1
        have v1 := v0.step T1.kp T1.nw
        clear h1 T0 v0 hst hmore
        obtain ⟨c0, c1, c2, c3, c4, c5, c6, c7, c8, c9, c10, c11⟩ := hX.cells _ T1.kp
        obtain ⟨xa, xb, pb, pe⟩ := hX.read _ T1.kp
        have hblk := ih body (by have := HQ.out; omega) w1 B dl dc g F D vtj _ mj.step zj lj pb hd1 hd2 T1.own hfs hF v1 (by have := HQ.out; omega) (by have := HQ.out; omega)
        have hrg1 := Sr.run_rng body (Ex.bs zj) lj mj.step hokp hrg hfj.rg
        clear xa xb pb pe
        go_wp2_with fail
        refine hblk.mono ?_
        rintro e w2 (⟨h1, rfl, vtw2, h2⟩ | ⟨h1, rfl, h2⟩)
        · have Tw2 := T1.step h2
          have vw2 := v1.step h2.kp h2.nw
          have f2 := hfs.on hon0 hrg1 h1
          clear hblk h2 T1 v1 hrg1
          try clear c0 c1 c2 c3 c4 c5 c6 c7 c8 c9 c10 c11
          have HZ := Lib.hid (And.intro Tw2 (And.intro vw2 f2))
          obtain ⟨c0, c1, c2, c3, c4, c5, c6, c7, c8, c9, c10, c11⟩ := hX.cells _ Tw2.kp
          obtain ⟨xa, xb, pb, pe⟩ := hX.read _ Tw2.kp
          have hlab := labels_any (.cons 5 nm.data.toList ea eb body els .nil) _ _ 1 1 _ (Nat.le_refl _) (one_pr 36 Tw2.own.base xa xb pb pe hd) (Nat.le_refl _) (by decide) (by rw [size_one]; have := HQ.out; omega)
          have hlo := Tw2.own.base
          unfold stcells xcells at hlab
          rw [labels_one] at hlab
          have hlb := St.lab1_le 5 (St.labels body) (St.labels els)
          have hlb1 := St.labels_le body
          have hlb2 := St.labels_le els
          have hlz : lj + (1 + St.labels body + St.labels els) ≤ 576460752303423488 := by have := HQ.out; omega
          have HL := Lib.hid (And.intro hlb (And.intro hlb1 (And.intro hlb2 hlz)))
          clear Tw2 vw2 f2 xa xb pb pe hlb hlb1 hlb2 hlz hX
          try go_wp2_with fail
          refine hlab.mono ?_
          rintro e wl ⟨rfl, hbl⟩
          have hbl2 := below_next hbl (below_alloc (Below.refl _ _) _)
          have TE := ((HW.out.later hbA).step HZ.out.1).later hbl2
          have vE := HZ.out.2.1.later hbl2
          have HE := Lib.hid (And.intro TE vE)
          clear hlab hbl hbl2 TE vE hbA c0 c1 c2 c3 c4 c5 c6 c7 c8 c9 c10 c11
          go_wp2_with fail
          go_roundw
          case rel => exact ⟨k + 1, rest, _, lj + St.lab1 5 (St.labels body) (St.labels els), _, _, by omega, by go_num, by rw [i64_add _ _ (by have := HL.out; omega)], by rw [show n - (k + 1) = n - k - 1 by omega]; exact HQ.out.2.2.2.2.2, HE.out.1, HE.out.2, HZ.out.2.2, hrun, by have := HQ.out; omega, by have := HQ.out; first | omega | (simp only [List.length_append, List.length_singleton]; omega), by have := HQ.out; have := HL.out; omega⟩
          case measure => simp [intOf]; omega
        · have hk2 : Keeps (RuT g m vt) w w2 := ((HW.out.later hbA).step T1).kp.step h2 (fun i hi ht => (((HW.out.later hbA).step T1).nw i ht).resolve_right (by omega))
          have hlt' : F < R.steps := by have := hon1.steps; omega
          clear hblk h2 T1 v1 hX hbA
          try clear c0 c1 c2 c3 c4 c5 c6 c7 c8 c9 c10 c11
          go_wp2
          exact ⟨rfl, .inr ⟨hlt', rfl, hk2⟩⟩
      · obtain ⟨y, hy⟩ : ∃ y, y = Ex.evl (Ex.bs zj) ea := ⟨_, rfl⟩
        have hrun0 : Sr.run rest (Ex.bs zj) (lj + (St.labels body + St.labels els)) (if y ≠ 0 then Sr.run body (Ex.bs zj) lj mj.step else Sr.run els (Ex.bs zj) (lj + St.labels body) mj.step) = R := by rw [hy]; exact HRN.out
        have hbl1 := St.labels_le body
        have HYY := Lib.hid (And.intro hy hbl1)
        clear hy hbl1
        by_cases hz : y = 0
        · rw [if_neg (by simpa using hz)] at hrun0
          have hrun := hrun0
          clear hrun0
          have hon1 := Sr.run_on rest (Ex.bs zj) (lj + (St.labels body + St.labels els)) (Sr.run els (Ex.bs zj) (lj + St.labels body) mj.step)
          rw [hrun] at hon1
          have hon0 := Sr.run_on els (Ex.bs zj) (lj + St.labels body) mj.step
          have hmore : mj.steps + 1 ≤ R.steps := Nat.le_trans hon0.steps hon1.steps
          have hb0 : (y != 0) = false := by simpa using hz
          go_wp2_with fail
          generalize (wr.alloc (.cells #[.int .i64 6, .string nm, .int .i64 ak, .int .i64 an, .string sa, .slice aA al ac, .int .i64 bk, .int .i64 bn, .string sb, .slice bA bl bc, .slice D dl dc, .slice E el ec] 36)) = W0 at hbA hX T0 v0 ⊢
          rw [← hQQ.out]
          clear c0 c1 c2 c3 c4 c5 c6 c7 c8 c9 c10 c11
          by_cases hst : mj.steps = F
          · have hg := step_out B W0 g F mj vtj T0.own hfj.len hst
            have hend : ∀ w1, Below W0.heap.size W0 w1 → F < R.steps ∧ Keeps (RuT g m vt) w w1 := fun w1 hb1 => ⟨by have := hmore; omega, (HW.out.kp.trans (Keeps.of_below hbA _)).trans (Keeps.of_below hb1 _)⟩
            have HH := Lib.hid hend
            clear hend hX T0 v0 hbA hst hmore
            refine hg.mono ?_
            rintro e w1 ⟨rfl, hb1⟩
            obtain ⟨h1, h2⟩ := HH.out w1 hb1
            clear hg hb1
            go_wp2
            exact ⟨rfl, .inr ⟨h1, rfl, h2⟩⟩
          have hfs : Sr.Fit F mj.step := ⟨hfj.len, hfj.rg, by have := hfj.st; show mj.steps + 1 ≤ F; omega, by have := hfj.tr; show mj.trace.length ≤ mj.steps + 1; omega⟩
          refine (step_ok B W0 g F mj vtj T0.own hfj.len (by have := hfj.st; omega) hF).mono ?_
          rintro e w1 ⟨rfl, h1⟩
          have T1 := T0.step h1
          have v1 := v0.step T1.kp T1.nw
          clear h1 T0 v0 hst hmore
          obtain ⟨c0, c1, c2, c3, c4, c5, c6, c7, c8, c9, c10, c11⟩ := hX.cells _ T1.kp
          obtain ⟨xa, xb, pb, pe⟩ := hX.read _ T1.kp
          have gE : Calls Tryd.prog 46 #[.agg #[.int .i64 ak, .int .i64 an, .string sa, .slice aA al ac], .slice VE zj.length ce] w1 fun r w'' => r = .returned (.int .i64 y) ∧ Below w1.heap.size w1 w'' := by
            rw [HYY.out.1]
            exact eval_ok (.slice VE zj.length ce) zj (by have := HQ.out; omega) ea w1 _ (xa.up T1.own.base) v1.sl
          clear c0 c1 xa xb pb pe hz
          go_wp2_with fail
          refine gE.mono ?_
          rintro e w2 ⟨rfl, hb2⟩
          have T2 := T1.later hb2
          have v2 := v1.later hb2
          clear gE T1 v1 c2 c3 c4 c5 c6 c7 c8 c9 c10 c11 hb2
          have keepS : ∀ w', Below w2.heap.size w2 w' → (Below w2.heap.size w2 w' ∧ w'.cell? ⟨Q, 10, none⟩ = some (.slice D dl dc) ∧ w'.cell? ⟨Q, 11, none⟩ = some (.slice E el ec)) := fun w' hb => by
            obtain ⟨c0, c1, c2, c3, c4, c5, c6, c7, c8, c9, c10, c11⟩ := hX.cells w' (T2.later hb).kp
            exact ⟨hb, c10, c11⟩
          have gL : ∀ w', Below w2.heap.size w2 w' → Calls Tryd.prog 13 #[.slice D dl dc] w' fun e w'' => e = .returned (.int .i64 (St.labels body : Nat)) ∧ Below w'.heap.size w' w'' := fun w' hb =>
            labels_any body w' B dl dc D (T2.later hb).own.base (hX.read w' (T2.later hb).kp).2.2.1 hd1 hd2 (by have := HQ.out; omega)
          have hS0 := keepS _ (below_drew (Below.refl _ _))
          have HT := Lib.hid (And.intro T2 (And.intro v2 hX))
          clear T2 v2 hX
          go_wp2_with fail
          refine wp_walk_last (by kernel_rfl) (by kernel_rfl) (fun w w' => Below w.heap.size w w') (fun w' => (Below w2.heap.size w2 w' ∧ w'.cell? ⟨Q, 10, none⟩ = some (.slice D dl dc) ∧ w'.cell? ⟨Q, 11, none⟩ = some (.slice E el ec))) hS0 ?_
          simp only [List.length_cons, List.length_nil, Nat.reduceAdd, Nat.reduceSub, List.take_succ_cons, List.take_zero, List.drop_succ_cons, List.drop_zero]
          repeat (first | (refine settle_skip (fun _ => by rfl) ?_; (simp only [Act.put, List.setIfInBounds_toArray, List.set_cons_zero, List.set_cons_succ])) | (refine' settle_run (fun _ _ => Below.refl _ _) (fun _ => by rfl) ?_ ?_; rotate_left; (focus (intro ρ w hS hF; (try dsimp only at hS); go_split_ands; go_simp; try with_reducible rfl)); (simp only [Act.put, List.setIfInBounds_toArray, List.set_cons_zero, List.set_cons_succ])))
          (refine' settle_step (fun _ => by rfl) ?_ ?_; rotate_left; (focus (intro ρ w hS hF K hK; (simp only [Act.put, List.setIfInBounds_toArray, List.set_cons_zero, List.set_cons_succ] at hK); go_simp; (refine (gL _ hS.1).mono ?_; rintro e w' ⟨rfl, hb'⟩; have hS' := keepS _ (below_next hb' hS.1); have hE' := hb'); exact hK _ hS' hE')); (simp only [Act.put, List.setIfInBounds_toArray, List.set_cons_zero, List.set_cons_succ]))
          repeat (first | (refine settle_skip (fun _ => by rfl) ?_; (simp only [Act.put, List.setIfInBounds_toArray, List.set_cons_zero, List.set_cons_succ])) | (refine' settle_run (fun _ _ => Below.refl _ _) (fun _ => by rfl) ?_ ?_; rotate_left; (focus (intro ρ w hS hF; (try dsimp only at hS); go_split_ands; go_simp; try with_reducible rfl)); (simp only [Act.put, List.setIfInBounds_toArray, List.set_cons_zero, List.set_cons_succ])))
          refine settle_nil ?_
          intro ρ w4 hS hF2
          have hb4 := hS.1
          obtain ⟨T2, v2, hX⟩ := HT.out
          have T4 := T2.later hb4
          have v4 := v2.later hb4
          have pe := (hX.read w4 T4.kp).2.2.2
          have hblk := ih els (by have := HQ.out; omega) w4 B el ec g F E vtj _ mj.step zj (lj + St.labels body) pe he1 he2 T4.own hfs hF v4 (by have := HQ.out; omega) (by have := HQ.out; have := HYY.out; omega)
          have hrg1 := Sr.run_rng els (Ex.bs zj) (lj + St.labels body) mj.step hoke hrg hfj.rg
          have hwr := i64_add lj (St.labels body) (by have := HQ.out; have := HYY.out; omega)
          have hwk := i64_addk lj (St.labels body) (by have := HQ.out; have := HYY.out; omega)
          clear hF2 hS hS0 keepS gL HT T2 v2 hb4 pe
          dsimp only
          try rw [hwr]
          try rw [hwk]
          clear hwr hwk
          go_wp2_with fail
          refine hblk.mono ?_
          rintro e w5 (⟨h1, rfl, vtw5, h2⟩ | ⟨h1, rfl, h2⟩)
          · have Tw5 := T4.step h2
            have vw5 := v4.step h2.kp h2.nw
            have f2 := hfs.on hon0 hrg1 h1
            clear hblk h2 T4 v4 hrg1
            try clear c0 c1 c2 c3 c4 c5 c6 c7 c8 c9 c10 c11
            have HZ := Lib.hid (And.intro Tw5 (And.intro vw5 f2))
            obtain ⟨c0, c1, c2, c3, c4, c5, c6, c7, c8, c9, c10, c11⟩ := hX.cells _ Tw5.kp
            obtain ⟨xa, xb, pb, pe⟩ := hX.read _ Tw5.kp
            have hlab := labels_any (.cons 6 nm.data.toList ea eb body els .nil) _ _ 1 1 _ (Nat.le_refl _) (one_pr 36 Tw5.own.base xa xb pb pe hd) (Nat.le_refl _) (by decide) (by rw [size_one]; have := HQ.out; omega)
            have hlo := Tw5.own.base
            unfold stcells xcells at hlab
            rw [labels_one] at hlab
            have hlb := St.lab1_le 6 (St.labels body) (St.labels els)
            have hlb1 := St.labels_le body
            have hlb2 := St.labels_le els
            have hlz : lj + (1 + St.labels body + St.labels els) ≤ 576460752303423488 := by have := HQ.out; omega
            have HL := Lib.hid (And.intro hlb (And.intro hlb1 (And.intro hlb2 hlz)))
            clear Tw5 vw5 f2 xa xb pb pe hlb hlb1 hlb2 hlz hX
            try go_wp2_with fail
            refine hlab.mono ?_
            rintro e wl ⟨rfl, hbl⟩
            have hbl2 := below_next hbl (below_alloc (Below.refl _ _) _)
            have TE := ((HW.out.later hbA).step HZ.out.1).later hbl2
            have vE := HZ.out.2.1.later hbl2
            have HE := Lib.hid (And.intro TE vE)
            clear hlab hbl hbl2 TE vE hbA c0 c1 c2 c3 c4 c5 c6 c7 c8 c9 c10 c11
            go_wp2_with fail
            go_roundw
            case rel => exact ⟨k + 1, rest, _, lj + St.lab1 6 (St.labels body) (St.labels els), _, _, by omega, by go_num, by rw [i64_add _ _ (by have := HL.out; omega)], by rw [show n - (k + 1) = n - k - 1 by omega]; exact HQ.out.2.2.2.2.2, HE.out.1, HE.out.2, HZ.out.2.2, hrun, by have := HQ.out; omega, by have := HQ.out; first | omega | (simp only [List.length_append, List.length_singleton]; omega), by have := HQ.out; have := HL.out; omega⟩
            case measure => simp [intOf]; omega
          · have hk2 : Keeps (RuT g m vt) w w5 := ((HW.out.later hbA).step T4).kp.step h2 (fun i hi ht => (((HW.out.later hbA).step T4).nw i ht).resolve_right (by omega))
            have hlt' : F < R.steps := by have := hon1.steps; omega
            clear hblk h2 T4 v4 hX hbA
            try clear c0 c1 c2 c3 c4 c5 c6 c7 c8 c9 c10 c11
            go_wp2
            exact ⟨rfl, .inr ⟨hlt', rfl, hk2⟩⟩
        · rw [if_pos hz] at hrun0
          have hrun := hrun0
          clear hrun0
          have hon1 := Sr.run_on rest (Ex.bs zj) (lj + (St.labels body + St.labels els)) (Sr.run body (Ex.bs zj) lj mj.step)
          rw [hrun] at hon1
          have hon0 := Sr.run_on body (Ex.bs zj) lj mj.step
          have hmore : mj.steps + 1 ≤ R.steps := Nat.le_trans hon0.steps hon1.steps
          have hb0 : (y != 0) = true := by simpa using hz
          go_wp2_with fail
          generalize (wr.alloc (.cells #[.int .i64 6, .string nm, .int .i64 ak, .int .i64 an, .string sa, .slice aA al ac, .int .i64 bk, .int .i64 bn, .string sb, .slice bA bl bc, .slice D dl dc, .slice E el ec] 36)) = W0 at hbA hX T0 v0 ⊢
          rw [← hQQ.out]
          clear c0 c1 c2 c3 c4 c5 c6 c7 c8 c9 c10 c11
          by_cases hst : mj.steps = F
          · have hg := step_out B W0 g F mj vtj T0.own hfj.len hst
            have hend : ∀ w1, Below W0.heap.size W0 w1 → F < R.steps ∧ Keeps (RuT g m vt) w w1 := fun w1 hb1 => ⟨by have := hmore; omega, (HW.out.kp.trans (Keeps.of_below hbA _)).trans (Keeps.of_below hb1 _)⟩
            have HH := Lib.hid hend
            clear hend hX T0 v0 hbA hst hmore
            refine hg.mono ?_
            rintro e w1 ⟨rfl, hb1⟩
            obtain ⟨h1, h2⟩ := HH.out w1 hb1
            clear hg hb1
            go_wp2
            exact ⟨rfl, .inr ⟨h1, rfl, h2⟩⟩
          have hfs : Sr.Fit F mj.step := ⟨hfj.len, hfj.rg, by have := hfj.st; show mj.steps + 1 ≤ F; omega, by have := hfj.tr; show mj.trace.length ≤ mj.steps + 1; omega⟩
          refine (step_ok B W0 g F mj vtj T0.own hfj.len (by have := hfj.st; omega) hF).mono ?_
          rintro e w1 ⟨rfl, h1⟩
          have T1 := T0.step h1
          have v1 := v0.step T1.kp T1.nw
          clear h1 T0 v0 hst hmore
          obtain ⟨c0, c1, c2, c3, c4, c5, c6, c7, c8, c9, c10, c11⟩ := hX.cells _ T1.kp
          obtain ⟨xa, xb, pb, pe⟩ := hX.read _ T1.kp
          have gE : Calls Tryd.prog 46 #[.agg #[.int .i64 ak, .int .i64 an, .string sa, .slice aA al ac], .slice VE zj.length ce] w1 fun r w'' => r = .returned (.int .i64 y) ∧ Below w1.heap.size w1 w'' := by
            rw [HYY.out.1]
            exact eval_ok (.slice VE zj.length ce) zj (by have := HQ.out; omega) ea w1 _ (xa.up T1.own.base) v1.sl
          clear c0 c1 xa xb pb pe hz
          go_wp2_with fail
          refine gE.mono ?_
          rintro e w2 ⟨rfl, hb2⟩
          have T2 := T1.later hb2
          have v2 := v1.later hb2
          clear gE T1 v1 c2 c3 c4 c5 c6 c7 c8 c9 c10 c11 hb2
          obtain ⟨c0, c1, c2, c3, c4, c5, c6, c7, c8, c9, c10, c11⟩ := hX.cells _ T2.kp
          obtain ⟨xa, xb, pb, pe⟩ := hX.read _ T2.kp
          have hblk := ih body (by have := HQ.out; omega) w2 B dl dc g F D vtj _ mj.step zj lj pb hd1 hd2 T2.own hfs hF v2 (by have := HQ.out; omega) (by have := HQ.out; omega)
          have hrg1 := Sr.run_rng body (Ex.bs zj) lj mj.step hokp hrg hfj.rg
          clear xa xb pb pe
          go_wp2_with fail
          refine hblk.mono ?_
          rintro e w5 (⟨h1, rfl, vtw5, h2⟩ | ⟨h1, rfl, h2⟩)
          · have Tw5 := T2.step h2
            have vw5 := v2.step h2.kp h2.nw
            have f2 := hfs.on hon0 hrg1 h1
            clear hblk h2 T2 v2 hrg1
            try clear c0 c1 c2 c3 c4 c5 c6 c7 c8 c9 c10 c11
            have HZ := Lib.hid (And.intro Tw5 (And.intro vw5 f2))
            obtain ⟨c0, c1, c2, c3, c4, c5, c6, c7, c8, c9, c10, c11⟩ := hX.cells _ Tw5.kp
            obtain ⟨xa, xb, pb, pe⟩ := hX.read _ Tw5.kp
            have hlab := labels_any (.cons 6 nm.data.toList ea eb body els .nil) _ _ 1 1 _ (Nat.le_refl _) (one_pr 36 Tw5.own.base xa xb pb pe hd) (Nat.le_refl _) (by decide) (by rw [size_one]; have := HQ.out; omega)
            have hlo := Tw5.own.base
            unfold stcells xcells at hlab
            rw [labels_one] at hlab
            have hlb := St.lab1_le 6 (St.labels body) (St.labels els)
            have hlb1 := St.labels_le body
            have hlb2 := St.labels_le els
            have hlz : lj + (1 + St.labels body + St.labels els) ≤ 576460752303423488 := by have := HQ.out; omega
            have HL := Lib.hid (And.intro hlb (And.intro hlb1 (And.intro hlb2 hlz)))
            clear Tw5 vw5 f2 xa xb pb pe hlb hlb1 hlb2 hlz hX
            try go_wp2_with fail
            refine hlab.mono ?_
            rintro e wl ⟨rfl, hbl⟩
            have hbl2 := below_next hbl (below_alloc (Below.refl _ _) _)
            have TE := ((HW.out.later hbA).step HZ.out.1).later hbl2
            have vE := HZ.out.2.1.later hbl2
            have HE := Lib.hid (And.intro TE vE)
            clear hlab hbl hbl2 TE vE hbA c0 c1 c2 c3 c4 c5 c6 c7 c8 c9 c10 c11
            go_wp2_with fail
            go_roundw
            case rel => exact ⟨k + 1, rest, _, lj + St.lab1 6 (St.labels body) (St.labels els), _, _, by omega, by go_num, by rw [i64_add _ _ (by have := HL.out; omega)], by rw [show n - (k + 1) = n - k - 1 by omega]; exact HQ.out.2.2.2.2.2, HE.out.1, HE.out.2, HZ.out.2.2, hrun, by have := HQ.out; omega, by have := HQ.out; first | omega | (simp only [List.length_append, List.length_singleton]; omega), by have := HQ.out; have := HL.out; omega⟩
            case measure => simp [intOf]; omega
          · have hk2 : Keeps (RuT g m vt) w w5 := ((HW.out.later hbA).step T2).kp.step h2 (fun i hi ht => (((HW.out.later hbA).step T2).nw i ht).resolve_right (by omega))
            have hlt' : F < R.steps := by have := hon1.steps; omega
            clear hblk h2 T2 v2 hX hbA
            try clear c0 c1 c2 c3 c4 c5 c6 c7 c8 c9 c10 c11
            go_wp2
            exact ⟨rfl, .inr ⟨hlt', rfl, hk2⟩⟩
      · have hrun : Sr.run rest (Ex.bs zj) (lj + St.labels body) (Sr.iter (Ex.evl (Ex.bs zj) eb - Ex.evl (Ex.bs zj) ea).toNat (Ex.evl (Ex.bs zj) ea) (fun i m => Sr.run body (Ex.bs zj ++ [(nm.data.toList, i)]) lj m.step) mj.step) = R := HRN.out
        have hon0 : Sr.On mj.step (Sr.iter (Ex.evl (Ex.bs zj) eb - Ex.evl (Ex.bs zj) ea).toNat (Ex.evl (Ex.bs zj) ea) (fun i m => Sr.run body (Ex.bs zj ++ [(nm.data.toList, i)]) lj m.step) mj.step) := Sr.On.iter (fun i m => (Sr.On.step m).trans (Sr.run_on _ _ _ _)) _ _ _
        have hon1 := Sr.run_on rest (Ex.bs zj) (lj + St.labels body) (Sr.iter (Ex.evl (Ex.bs zj) eb - Ex.evl (Ex.bs zj) ea).toNat (Ex.evl (Ex.bs zj) ea) (fun i m => Sr.run body (Ex.bs zj ++ [(nm.data.toList, i)]) lj m.step) mj.step)
        rw [hrun] at hon1
        have hmore : mj.steps + 1 ≤ R.steps := Nat.le_trans hon0.steps hon1.steps
        go_wp2_with fail
        generalize (wr.alloc (.cells #[.int .i64 7, .string nm, .int .i64 ak, .int .i64 an, .string sa, .slice aA al ac, .int .i64 bk, .int .i64 bn, .string sb, .slice bA bl bc, .slice D dl dc, .slice E el ec] 36)) = W0 at hbA hX T0 v0 ⊢
        rw [← hQQ.out]
        clear c0 c1 c2 c3 c4 c5 c6 c7 c8 c9 c10 c11
        by_cases hst : mj.steps = F
        · have hg := step_out B W0 g F mj vtj T0.own hfj.len hst
          have hend : ∀ w1, Below W0.heap.size W0 w1 → F < R.steps ∧ Keeps (RuT g m vt) w w1 := fun w1 hb1 => ⟨by have := hmore; omega, (HW.out.kp.trans (Keeps.of_below hbA _)).trans (Keeps.of_below hb1 _)⟩
          have HH := Lib.hid hend
          clear hend hX T0 v0 hbA hst hmore
          refine hg.mono ?_
          rintro e w1 ⟨rfl, hb1⟩
          obtain ⟨h1, h2⟩ := HH.out w1 hb1
          clear hg hb1
          go_wp2
          exact ⟨rfl, .inr ⟨h1, rfl, h2⟩⟩
        have hfs : Sr.Fit F mj.step := ⟨hfj.len, hfj.rg, by have := hfj.st; show mj.steps + 1 ≤ F; omega, by have := hfj.tr; show mj.trace.length ≤ mj.steps + 1; omega⟩
        refine (step_ok B W0 g F mj vtj T0.own hfj.len (by have := hfj.st; omega) hF).mono ?_
        rintro e w1 ⟨rfl, h1⟩
        have T1 := T0.step h1
        have v1 := v0.step T1.kp T1.nw
        clear h1 T0 v0 hst hmore
        obtain ⟨c0, c1, c2, c3, c4, c5, c6, c7, c8, c9, c10, c11⟩ := hX.cells _ T1.kp
        obtain ⟨xa, xb, pb, pe⟩ := hX.read _ T1.kp
        have hblk := loop_any body (ih body (by have := HQ.out; omega)) w1 B g F vtj _ mj.step zj lj 7 nm ak an sa aA al ac bk bn sb bA bl bc D dl dc E el ec ea eb els xa xb pb pe hd1 hd2 T1.own hfs hF v1 (by have := HQ.out; omega) (by have := HQ.out; omega)
        unfold stcells xcells at hblk
        simp only [List.cons_append, List.nil_append] at hblk
        have hrg1 : ∀ x ∈ (Sr.iter (Ex.evl (Ex.bs zj) eb - Ex.evl (Ex.bs zj) ea).toNat (Ex.evl (Ex.bs zj) ea) (fun i m => Sr.run body (Ex.bs zj ++ [(nm.data.toList, i)]) lj m.step) mj.step).heap, Ex.rng x := by
          have hra := Ex.evl_rng _ hrg _ hoka
          have hrb := Ex.evl_rng _ hrg _ hokb
          by_cases hn : Ex.evl (Ex.bs zj) ea ≤ Ex.evl (Ex.bs zj) eb
          · exact Sr.iter_rng (fun i m hi h => Sr.run_rng body (Ex.bs zj ++ [(nm.data.toList, i)]) lj m.step hokp (Sr.env_snoc hrg _ hi) h) (Ex.evl (Ex.bs zj) eb - Ex.evl (Ex.bs zj) ea).toNat _ _ hra (by unfold Ex.rng at *; omega) hfj.rg
          · rw [show (Ex.evl (Ex.bs zj) eb - Ex.evl (Ex.bs zj) ea).toNat = 0 by omega]
            exact hfj.rg
        generalize Sr.iter (Ex.evl (Ex.bs zj) eb - Ex.evl (Ex.bs zj) ea).toNat (Ex.evl (Ex.bs zj) ea) (fun i m => Sr.run body (Ex.bs zj ++ [(nm.data.toList, i)]) lj m.step) mj.step = MI at hrun hon0 hon1 hblk hrg1
        clear xa xb pb pe
        go_wp2_with fail
        refine hblk.mono ?_
        rintro e w2 (⟨h1, rfl, vtw2, h2⟩ | ⟨h1, rfl, h2⟩)
        · have Tw2 := T1.step h2
          have vw2 := v1.step h2.kp h2.nw
          have f2 := hfs.on hon0 hrg1 h1
          clear hblk h2 T1 v1 hrg1
          try clear c0 c1 c2 c3 c4 c5 c6 c7 c8 c9 c10 c11
          have HZ := Lib.hid (And.intro Tw2 (And.intro vw2 f2))
          obtain ⟨c0, c1, c2, c3, c4, c5, c6, c7, c8, c9, c10, c11⟩ := hX.cells _ Tw2.kp
          obtain ⟨xa, xb, pb, pe⟩ := hX.read _ Tw2.kp
          have hlab := labels_any (.cons 7 nm.data.toList ea eb body els .nil) _ _ 1 1 _ (Nat.le_refl _) (one_pr 36 Tw2.own.base xa xb pb pe hd) (Nat.le_refl _) (by decide) (by rw [size_one]; have := HQ.out; omega)
          have hlo := Tw2.own.base
          unfold stcells xcells at hlab
          rw [labels_one] at hlab
          have hlb := St.lab1_le 7 (St.labels body) (St.labels els)
          have hlb1 := St.labels_le body
          have hlb2 := St.labels_le els
          have hlz : lj + (1 + St.labels body + St.labels els) ≤ 576460752303423488 := by have := HQ.out; omega
          have HL := Lib.hid (And.intro hlb (And.intro hlb1 (And.intro hlb2 hlz)))
          clear Tw2 vw2 f2 xa xb pb pe hlb hlb1 hlb2 hlz hX
          try go_wp2_with fail
          refine hlab.mono ?_
          rintro e wl ⟨rfl, hbl⟩
          have hbl2 := below_next hbl (below_alloc (Below.refl _ _) _)
          have TE := ((HW.out.later hbA).step HZ.out.1).later hbl2
          have vE := HZ.out.2.1.later hbl2
          have HE := Lib.hid (And.intro TE vE)
          clear hlab hbl hbl2 TE vE hbA c0 c1 c2 c3 c4 c5 c6 c7 c8 c9 c10 c11
          go_wp2_with fail
          go_roundw
          case rel => exact ⟨k + 1, rest, _, lj + St.lab1 7 (St.labels body) (St.labels els), _, _, by omega, by go_num, by rw [i64_add _ _ (by have := HL.out; omega)], by rw [show n - (k + 1) = n - k - 1 by omega]; exact HQ.out.2.2.2.2.2, HE.out.1, HE.out.2, HZ.out.2.2, hrun, by have := HQ.out; omega, by have := HQ.out; first | omega | (simp only [List.length_append, List.length_singleton]; omega), by have := HQ.out; have := HL.out; omega⟩
          case measure => simp [intOf]; omega
        · have hk2 : Keeps (RuT g m vt) w w2 := ((HW.out.later hbA).step T1).kp.step h2 (fun i hi ht => (((HW.out.later hbA).step T1).nw i ht).resolve_right (by omega))
          have hlt' : F < R.steps := by have := hon1.steps; omega
          clear hblk h2 T1 v1 hX hbA
          try clear c0 c1 c2 c3 c4 c5 c6 c7 c8 c9 c10 c11
          go_wp2
          exact ⟨rfl, .inr ⟨hlt', rfl, hk2⟩⟩
      · have K := And.intro k1 (And.intro k2 (And.intro k3 (And.intro k4 (And.intro k5 (And.intro k6 k7)))))
        have hK : kd ≠ 1 ∧ kd ≠ 2 ∧ kd ≠ 3 ∧ ¬ (kd = 4 ∨ kd = 5) ∧ kd ≠ 6 ∧ kd ≠ 7 := by simp at k1 k2 k3 k4 k5 k6 k7; omega
        have hl0 : St.lab1 kd (St.labels body) (St.labels els) = 0 := by unfold St.lab1; rw [if_neg (by omega), if_neg (by omega), if_neg hK.2.2.2.2.1]
        have hrun : Sr.run rest (Ex.bs zj) (lj + St.lab1 kd (St.labels body) (St.labels els)) mj = R := by
          have h := HRN.out
          rw [Sr.run, if_neg hK.1, if_neg hK.2.1, if_neg hK.2.2.1, if_neg hK.2.2.2.1, if_neg hK.2.2.2.2.1, if_neg hK.2.2.2.2.2] at h
          rw [hl0]
          exact h
        have HKK := Lib.hid (And.intro hK hl0)
        have hsz : (wr.alloc (.cells #[.int .i64 kd, .string nm, .int .i64 ak, .int .i64 an, .string sa, .slice aA al ac, .int .i64 bk, .int .i64 bn, .string sb, .slice bA bl bc, .slice D dl dc, .slice E el ec] 36)).heap.size = wr.heap.size + 1 := by simp
        clear K hK hl0
        go_wp2_with fail
        generalize (wr.alloc (.cells #[.int .i64 kd, .string nm, .int .i64 ak, .int .i64 an, .string sa, .slice aA al ac, .int .i64 bk, .int .i64 bn, .string sb, .slice bA bl bc, .slice D dl dc, .slice E el ec] 36)) = W0 at hbA hX T0 v0 hsz ⊢
        rw [← hsz, ← hQQ.out]
        clear hsz
        clear c0 c1 c2 c3 c4 c5 c6 c7 c8 c9 c10 c11 k1 k2 k3 k4 k5 k6 k7
        have HZ := Lib.hid (And.intro T0 (And.intro v0 hfj))
        obtain ⟨c0, c1, c2, c3, c4, c5, c6, c7, c8, c9, c10, c11⟩ := hX.cells _ T0.kp
        obtain ⟨xa, xb, pb, pe⟩ := hX.read _ T0.kp
        have hlab := labels_any (.cons kd nm.data.toList ea eb body els .nil) _ _ 1 1 _ (Nat.le_refl _) (one_pr 36 T0.own.base xa xb pb pe hd) (Nat.le_refl _) (by decide) (by rw [size_one]; have := HQ.out; omega)
        have hlo := T0.own.base
        unfold stcells xcells at hlab
        rw [labels_one] at hlab
        have hlb := St.lab1_le kd (St.labels body) (St.labels els)
        have hlb1 := St.labels_le body
        have hlb2 := St.labels_le els
        have hlz : lj + (1 + St.labels body + St.labels els) ≤ 576460752303423488 := by have := HQ.out; omega
        have HL := Lib.hid (And.intro hlb (And.intro hlb1 (And.intro hlb2 hlz)))
        clear T0 v0 hfj xa xb pb pe hlb hlb1 hlb2 hlz hX
        try go_wp2_with fail
        refine hlab.mono ?_
        rintro e wl ⟨rfl, hbl⟩
        have hbl2 := below_next hbl (below_alloc (Below.refl _ _) _)
        have TE := ((HW.out.later hbA).step HZ.out.1).later hbl2
        have vE := HZ.out.2.1.later hbl2
        have HE := Lib.hid (And.intro TE vE)
        clear hlab hbl hbl2 TE vE hbA c0 c1 c2 c3 c4 c5 c6 c7 c8 c9 c10 c11
        go_wp2_with fail
        go_roundw
        case rel => exact ⟨k + 1, rest, _, lj + St.lab1 kd (St.labels body) (St.labels els), _, _, by omega, by go_num, by rw [i64_add _ _ (by have := HL.out; omega)], by rw [show n - (k + 1) = n - k - 1 by omega]; exact HQ.out.2.2.2.2.2, HE.out.1, HE.out.2, HZ.out.2.2, hrun, by have := HQ.out; omega, by have := HQ.out; first | omega | (simp only [List.length_append, List.length_singleton]; omega), by have := HQ.out; have := HL.out; omega⟩
        case measure => simp [intOf]; omega
    · obtain rfl : k = n := by omega
      rw [Nat.sub_self] at hq
      have hq' := hq.zero
      subst hq'
      have HY := Lib.hid (And.intro hW (And.intro hfj hrun))
      clear hW hfj hrun hq hq0 hvj
      go_wp2_with fail
      go_end0
      have hm : mj = R := HY.out.2.2
      rw [← hm]
      exact .inl ⟨HY.out.2.1.st, rfl, vtj, HY.out.1⟩
theorem block_any (p : St.P) : BlockOK p := by
  suffices h : ∀ n, ∀ q : St.P, q.size ≤ n → BlockOK q from h _ p (Nat.le_refl _)
  intro n
  induction n with
  | zero => exact fun q hq => block_step q fun r hr => by omega
  | succ n ih => exact fun q hq => block_step q fun r hr => ih r (by omega)
end Go.Proofs.YtdhjfckckghicaaDoor


namespace Go.Proofs.YtdhjfckckghicaaDoor
set_option linter.unusedVariables false
set_option linter.unusedSimpArgs false
set_option maxRecDepth 100000
open Go.RowKit

theorem wrong_any (p : St.P) (w : World) (B n c : Nat) (A : Option Addr) (fuel : Int) (hB : B ≤ w.heap.size) (hp : PR B w A n p) (hnc : n ≤ c) (hc : c ≤ maxLen) (hsz : p.size ≤ 549755813888) :
    Calls Tryd.prog 37 #[.slice A n c, .int .i64 fuel] w fun e w' => e = .returned (.int .i64 (if Sr.free p ≠ [] then 4 else if fuel < 0 ∨ 2000 < fuel then 2 else 0)) ∧ Below w.heap.size w w' := by
  have hg := free_any p w B n c A hB hp hnc hc hsz
  have hlen := Sr.fr_length p [] []
  obtain ⟨fs, hfs⟩ : ∃ fs, fs = Sr.free p := ⟨_, rfl⟩
  have hl : fs.length ≤ 549755813888 := by rw [hfs]; unfold Sr.free; simp at hlen; omega
  rw [← hfs] at hg ⊢
  clear hfs hp hlen
  by_cases h0 : fs = []
  · subst h0
    by_cases h1 : fuel < 0
    · have g1 : decide (fuel < 0) = true := by simpa using h1
      go_enter Tryd.func37, Tryd.ntmps37
      go_wp2_with fail
      refine hg.mono ?_
      rintro e w1 ⟨v, rfl, hr, hb⟩
      obtain ⟨V, cV, rfl, -, -⟩ := own_slice hr
      have HB := Lib.hid hb
      clear hg hr hb
      go_wp2
      go_ret
      exact ⟨rfl, HB.out⟩
    · by_cases h2 : 2000 < fuel
      · have g1 : decide (fuel < 0) = false := by simpa using h1
        have g2 : decide (2000 < fuel) = true := by simpa using h2
        go_enter Tryd.func37, Tryd.ntmps37
        go_wp2_with fail
        refine hg.mono ?_
        rintro e w1 ⟨v, rfl, hr, hb⟩
        obtain ⟨V, cV, rfl, -, -⟩ := own_slice hr
        have HB := Lib.hid hb
        clear hg hr hb
        go_wp2
        go_ret
        exact ⟨rfl, HB.out⟩
      · have g1 : decide (fuel < 0) = false := by simpa using h1
        have g2 : decide (2000 < fuel) = false := by simpa using h2
        go_enter Tryd.func37, Tryd.ntmps37
        go_wp2_with fail
        refine hg.mono ?_
        rintro e w1 ⟨v, rfl, hr, hb⟩
        obtain ⟨V, cV, rfl, -, -⟩ := own_slice hr
        have HB := Lib.hid hb
        clear hg hr hb
        go_wp2
        go_ret
        exact ⟨rfl, HB.out⟩
  · have hpos : 0 < fs.length := List.length_pos_iff.2 h0
    have g0 : decide ((0 : Int) < (fs.length : Int)) = true := by simpa using hpos
    have H0 := Lib.hid h0
    clear h0
    go_enter Tryd.func37, Tryd.ntmps37
    go_wp2_with fail
    refine hg.mono ?_
    rintro e w1 ⟨v, rfl, hr, hb⟩
    obtain ⟨V, cV, rfl, -, -⟩ := own_slice hr
    have HB := Lib.hid hb
    clear hg hr hb
    go_wp2
    go_ret
    exact ⟨rfl, HB.out⟩

theorem two_blocks (w : World) (c0 c1 : List Value) (t0 t1 : TypeId) : Blk ((w.alloc (.cells c0.toArray t0)).alloc (.cells c1.toArray t1)) w.heap.size t0 c0 ∧ Blk ((w.alloc (.cells c0.toArray t0)).alloc (.cells c1.toArray t1)) (w.heap.size + 1) t1 c1 ∧ ((w.alloc (.cells c0.toArray t0)).alloc (.cells c1.toArray t1)).heap.size = w.heap.size + 1 + 1 ∧ Keeps (fun _ => False) w ((w.alloc (.cells c0.toArray t0)).alloc (.cells c1.toArray t1)) := by
  have h0 := Blk.new w t0 c0
  have h1 := Blk.new (w.alloc (.cells c0.toArray t0)) t1 c1
  rw [show (w.alloc (.cells c0.toArray t0)).heap.size = w.heap.size + 1 by simp] at h1
  exact ⟨h0.alloc _, h1, by simp, ((Keeps.refl _ w).alloc _).alloc _⟩

def spent' : List PanicEntry := [{ v := .iface 78 (.agg #[]), recovered := true }]
/-- the deferred function behind a run that did: nothing -/
theorem catch_idle (p q : Addr) (w : World) :
    CallsD Tryd.prog 38 #[.pointer (some p), .pointer (some q)] .returning w fun e u' w' => e = .returned (.tuple #[]) ∧ u' = .returning ∧ w' = w := by
  refine callsD_of_wpS Tryd.func38 rfl fun c₀ cs hu => ?_
  apply wpS_seq
  apply wpS_region
  simp [wpOpsS, go_sem, recoverD, hu, Tryd.ntmps38, Exit.thenS]
  apply wpS_seq
  apply wpS_region
  simp [wpOpsS, go_sem, Exit.thenS]
  refine wpS_cond (t := false) (by simp [Act.eval, Array.replicate]) ?_
  simp only [Bool.false_eq_true, if_false]
  refine wpS_of_wp (wp_skip ?_)
  cases c₀
  simp_all [bodyPostS, results, Tryd.results38]
theorem catch_spent (q6 q7 : Nat) (v6 v7 : Value) (w : World) (h6 : Blk w q6 65 [v6]) (h7 : Blk w q7 46 [v7]) (hne : q6 ≠ q7) :
    CallsD Tryd.prog 38 #[.pointer (some ⟨q6, 0, none⟩), .pointer (some ⟨q7, 0, none⟩)] (.panicking spent) w fun e u' w' =>
      e = .returned (.tuple #[]) ∧ u' = .panicking spent' ∧ ∃ q, w.heap.size ≤ q ∧ Blk w' q 69 (Sr.rcells 0 (Sr.M0 Sr.zeros) (.slice none 0 0)) ∧ Blk w' q6 65 [.pointer (some ⟨q, 0, none⟩)] ∧ Blk w' q7 46 [.int .i64 5] ∧ Keeps (fun k => k = q6 ∨ k = q7) w w' := by
  refine callsD_of_wpS Tryd.func38 rfl fun c₀ cs hu => ?_
  apply wpS_seq
  apply wpS_region
  unfold spent at hu
  simp [wpOpsS, go_sem, recoverD, hu, Tryd.ntmps38, Exit.thenS]
  apply wpS_seq
  apply wpS_region
  simp [wpOpsS, go_sem, Exit.thenS]
  refine wpS_cond (t := true) (by simp [Act.eval, Array.replicate]) ?_
  simp only [if_true]
  refine wpS_of_wp ?_
  have hta : ∀ w, (Instr.typeAssert (.iface 78 (.agg #[])) 20 78 true).run Tryd.prog w = .ok (.tuple #[.agg #[], .bool true]) w := fun w => by kernel_rfl
  clear hu
  have hq6 := h6.lt
  have hq7 := h7.lt
  obtain ⟨a0, a1, hz, hk⟩ := two_blocks w [] [.int .i64 0, .int .i64 0, .int .i64 0, .int .i64 0, .int .i64 0, .int .i64 0, .int .i64 0, .int .i64 0, .int .i64 0, .int .i64 0, .slice none 0 0] 78 69
  have hB6 := h6.keeps hk id
  have hB7 := h7.keeps hk id
  have hend : ∀ w3 w4, ((w.alloc (.cells ([] : List Value).toArray 78)).alloc (.cells ([.int .i64 0, .int .i64 0, .int .i64 0, .int .i64 0, .int .i64 0, .int .i64 0, .int .i64 0, .int .i64 0, .int .i64 0, .int .i64 0, .slice none 0 0] : List Value).toArray 69)).grownBy w3 (some q6) → w3.grownBy w4 (some q7) → Blk w3 q6 65 [.pointer (some ⟨w.heap.size + 1, 0, none⟩)] → Blk w4 q7 46 [.int .i64 5] →
      ∃ q, w.heap.size ≤ q ∧ Blk w4 q 69 (Sr.rcells 0 (Sr.M0 Sr.zeros) (.slice none 0 0)) ∧ Blk w4 q6 65 [.pointer (some ⟨q, 0, none⟩)] ∧ Blk w4 q7 46 [.int .i64 5] ∧ Keeps (fun k => k = q6 ∨ k = q7) w w4 := fun w3 w4 g3 g4 b6 b7 =>
    ⟨w.heap.size + 1, by omega, (a1.grown g3 (fun e => by injection e with e; omega)).grown g4 (fun e => by injection e with e; omega), b6.grown g4 (fun e => by injection e with e; exact hne e), b7,
      ((hk.mono (fun _ h => h.elim)).trans ((Keeps.of_grown g3).mono (fun k e => .inl (by injection e)))).trans ((Keeps.of_grown g4).mono (fun k e => .inr (by injection e)))⟩
  have hB73 : ∀ w3, ((w.alloc (.cells ([] : List Value).toArray 78)).alloc (.cells ([.int .i64 0, .int .i64 0, .int .i64 0, .int .i64 0, .int .i64 0, .int .i64 0, .int .i64 0, .int .i64 0, .int .i64 0, .int .i64 0, .slice none 0 0] : List Value).toArray 69)).grownBy w3 (some q6) → Blk w3 q7 46 [v7] := fun w3 g3 => hB7.grown g3 (fun e => by injection e with e; exact hne e.symm)
  have HE := Lib.hid (And.intro hend hB73)
  clear hend hB73 hB7 a0 a1 hk hz h6 h7
  change Code.wp _ _ _ { tmps := #[.pointer (some ⟨q6, 0, none⟩), .pointer (some ⟨q7, 0, none⟩), .iface 78 (.agg #[]), undef, undef, .iface 78 (.agg #[]), .iface 78 (.agg #[]), .bool true, undef, undef, undef, undef, undef, undef, undef, undef, undef, undef], defers := [] } _
  go_wp2_with (first | (refine wpl_set_blk hB6 0 (.pointer (some ⟨w.heap.size + 1, 0, none⟩)) (by kernel_rfl) (by simp) rfl rfl rfl rfl rfl rfl ?_; intro w3 hB63 hg3; have hB7 := HE.out.2 w3 hg3) | (refine wpl_set_blk hB7 0 (.int .i64 5) (by kernel_rfl) (by simp) rfl rfl rfl rfl rfl rfl ?_; intro w4 hB74 hg4) | fail)
  simp [bodyPostS, results, Tryd.results38]
  exact ⟨rfl, HE.out.1 w3 w4 hg3 hg4 hB63 hB74⟩
end Go.Proofs.YtdhjfckckghicaaDoor


namespace Go.Proofs.YtdhjfckckghicaaDoor
set_option linter.unusedVariables false
set_option linter.unusedSimpArgs false
set_option maxRecDepth 100000
open Go.RowKit

def RunEnd (w : World) (p : St.P) (h : List Int) (fuel : Int) : Ending → World → Prop := fun e w' => ∃ g F vt, e = .returned (.tuple #[.pointer (some ⟨g, 0, none⟩), .int .i64 (Sr.err p h fuel)]) ∧ RuO w.heap.size w' g F (Sr.fin p h fuel) vt ∧ Sr.Fit F (Sr.fin p h fuel) ∧ Below w.heap.size w w'

theorem Sr.err_of {p : St.P} {h : List Int} {fuel E0 : Int} (hE : E0 = (if Sr.free p ≠ [] then 4 else if fuel < 0 ∨ 2000 < fuel then 2 else 0)) : (E0 ≠ 0 → Sr.err p h fuel = E0 ∧ Sr.fin p h fuel = Sr.M0 Sr.zeros) ∧ (E0 = 0 → (0 ≤ fuel ∧ fuel ≤ 2000) ∧ (fuel < (Sr.go p h).steps → Sr.err p h fuel = 5 ∧ Sr.fin p h fuel = Sr.M0 Sr.zeros) ∧ ((Sr.go p h).steps ≤ fuel → Sr.err p h fuel = 0 ∧ Sr.fin p h fuel = Sr.go p h)) := by
  unfold Sr.fin Sr.err
  by_cases h1 : Sr.free p ≠ []
  · rw [if_pos h1] at hE
    subst hE
    refine ⟨fun _ => ?_, fun h => absurd h (by decide)⟩
    rw [if_pos h1]
    exact ⟨rfl, by simp⟩
  rw [if_neg h1] at hE ⊢
  by_cases h2 : fuel < 0 ∨ 2000 < fuel
  · rw [if_pos h2] at hE
    subst hE
    refine ⟨fun _ => ?_, fun h => absurd h (by decide)⟩
    rw [if_pos h2]
    exact ⟨rfl, by simp⟩
  rw [if_neg h2] at hE ⊢
  refine ⟨fun h => absurd hE h, fun _ => ⟨by omega, fun h3 => ?_, fun h3 => ?_⟩⟩
  · rw [if_pos h3]
    exact ⟨rfl, by simp⟩
  · rw [if_neg (by omega)]
    exact ⟨rfl, by simp⟩
theorem Own.lower {B B' g : Nat} {t : TypeId} {cs : List Value} {rs : List Rw} {w : World} (h : Own B w g t cs rs) (hB : B' ≤ B) : Own B' w g t cs rs :=
  ⟨h.blk, fun r hr => own_base (h.rows r hr) hB, h.ap, h.ng, Nat.le_trans hB h.base, Nat.le_trans hB h.lo⟩
theorem Sr.own_new {w : World} {q F : Nat} {h : List Int} (hq : Blk w q 69 (Sr.rcells F (Sr.M0 h) (.slice none 0 0))) {B : Nat} (hB : B ≤ q) : RuO B w q F (Sr.M0 h) (.slice none 0 0) := by
  have := hq.lt
  refine ⟨hq, fun r hr => ?_, fun i j r s hr hs hij k hk => ?_, fun r hr => ?_, by omega, hB⟩
  · rw [List.mem_singleton.1 hr]; exact World.ownsRow_nil _ _ _ _
  · have hi := (List.getElem?_eq_some_iff.1 hr).1
    have hj := (List.getElem?_eq_some_iff.1 hs).1
    simp [Sr.rows] at hi hj
    omega
  · rw [List.mem_singleton.1 hr]; simp [Value.ownBlock]

theorem Sr.fit0 : Sr.Fit 0 (Sr.M0 Sr.zeros) := ⟨rfl, by intro x hx; simp [Sr.M0, Sr.zeros] at hx; subst hx; unfold Ex.rng; omega, Nat.le_refl _, Nat.le_refl _⟩

set_option maxHeartbeats 1000000 in
theorem run_any (p : St.P) (h : List Int) (fuel : Int) (w : World) (B n c : Nat) (A : Option Addr) (hB : B ≤ w.heap.size) (hp : PR B w A n p) (hnc : n ≤ c) (hc : c ≤ maxLen) (hsz : p.size ≤ 274877906944) (hh : h.length = 8) (hr : ∀ x ∈ h, Ex.rng x) :
    Calls Tryd.prog 30 #[.slice A n c, .agg (ints .i64 h).toArray, .int .i64 fuel] w (RunEnd w p h fuel) := by
  have hmf : ∀ (fn : Fn) (first cap : Array Value) (w : World), (Instr.makeFunc fn first cap).run Tryd.prog w = .ok (.func fn first cap) w := fun _ _ _ _ => rfl
  obtain ⟨b0, b1, b2, b3, b4, b5, b6, b7, rfl⟩ := Sr.heap8 hh
  obtain ⟨x0, x1, x2, hz, hb0⟩ := allocs3 w (ints .i64 [b0, b1, b2, b3, b4, b5, b6, b7]) [.pointer none] [.int .i64 0] 45 65 46
  have hw := wrong_any p _ B n c A fuel (Nat.le_trans hB hb0.size) (hp.later (hb0.mono hB)) hnc hc (by omega)
  simp only [ints, List.map_cons, List.map_nil] at x0 x1 x2 hz hb0 hw ⊢
  have hp := hp.up hB
  obtain ⟨E0, hE0⟩ : ∃ E0 : Int, E0 = (if Sr.free p ≠ [] then 4 else if fuel < 0 ∨ 2000 < fuel then 2 else 0) := ⟨_, rfl⟩
  rw [← hE0] at hw
  have hE := Lib.hid hE0
  clear hE0
  go_enter_defers Tryd.func30, Tryd.ntmps30
  go_wp2_with fail
  obtain ⟨Q, hQ⟩ : ∃ Q, Q = w.heap.size := ⟨_, rfl⟩
  generalize (((w.alloc (.cells #[.int .i64 b0, .int .i64 b1, .int .i64 b2, .int .i64 b3, .int .i64 b4, .int .i64 b5, .int .i64 b6, .int .i64 b7] 45)).alloc (.cells #[.pointer none] 65)).alloc (.cells #[.int .i64 0] 46)) = W0 at x0 x1 x2 hz hb0 hw ⊢
  rw [← hQ] at x0 x1 x2 hz ⊢
  obtain ⟨q6, h6⟩ : ∃ q6, q6 = Q + 1 := ⟨_, rfl⟩
  obtain ⟨q7, h7⟩ : ∃ q7, q7 = Q + 1 + 1 := ⟨_, rfl⟩
  rw [← h7, ← h6]
  rw [← h7] at x2
  rw [← h6] at x1
  have HQ := Lib.hid (And.intro hQ (And.intro h6 (And.intro h7 hz)))
  clear hQ h6 h7 hz
  refine hw.mono ?_
  rintro e w1 ⟨rfl, hb1⟩
  have X0 := x0.below hb1
  have X1 := x1.below hb1
  have X2 := x2.below hb1
  have hbw := below_next hb1 hb0
  have hs1 := hb1.size
  have HB := Lib.hid (And.intro hbw hs1)
  clear hw x0 x1 x2 hb0 hb1 hbw hs1
  by_cases h0 : E0 = 0
  · obtain ⟨hfr, hout, hin⟩ := (Sr.err_of (h := [b0, b1, b2, b3, b4, b5, b6, b7]) hE.out).2 h0
    subst h0
    obtain ⟨F, rfl⟩ := Int.eq_ofNat_of_zero_le hfr.1
    have d0 := (X0.cell 0).trans rfl
    have d1 := (X0.cell 1).trans rfl
    have d2 := (X0.cell 2).trans rfl
    have d3 := (X0.cell 3).trans rfl
    have d4 := (X0.cell 4).trans rfl
    have d5 := (X0.cell 5).trans rfl
    have d6 := (X0.cell 6).trans rfl
    have d7 := (X0.cell 7).trans rfl
    simp only [List.getElem?_cons_zero, List.getElem?_cons_succ] at d0 d1 d2 d3 d4 d5 d6 d7
    have hzb := Blk.new w1 69 [.int .i64 b0, .int .i64 b1, .int .i64 b2, .int .i64 b3, .int .i64 b4, .int .i64 b5, .int .i64 b6, .int .i64 b7, .int .i64 (F : Int), .int .i64 0, .slice none 0 0]
    have Y1 := X1.alloc (.cells [.int .i64 b0, .int .i64 b1, .int .i64 b2, .int .i64 b3, .int .i64 b4, .int .i64 b5, .int .i64 b6, .int .i64 b7, .int .i64 (F : Int), .int .i64 0, .slice none 0 0].toArray 69)
    have Y2 := X2.alloc (.cells [.int .i64 b0, .int .i64 b1, .int .i64 b2, .int .i64 b3, .int .i64 b4, .int .i64 b5, .int .i64 b6, .int .i64 b7, .int .i64 (F : Int), .int .i64 0, .slice none 0 0].toArray 69)
    have hq7 := X2.lt
    have hq6 := X1.lt
    have HY := Lib.hid (And.intro Y2 hzb)
    clear Y2 hzb X0 X1 X2
    go_wp2_with (first | (refine wpl_set_blk Y1 0 (.pointer (some ⟨w1.heap.size, 0, none⟩)) (by kernel_rfl) (by simp) rfl rfl rfl rfl rfl rfl ?_; intro w3 hB3 hg3; have e6 := (hB3.cell 0).trans rfl; simp only [List.set_cons_zero, List.getElem?_cons_zero] at e6) | fail)
    have hbw3 : Below w.heap.size w w3 := (below_alloc HB.out.1 _).grown hg3 (by simp; have := HQ.out; have := HB.out; omega) (fun k e => by injection e with e; have := HQ.out; omega)
    have hg : w1.heap.size < w3.heap.size := by have := hg3.size; simp at this; omega
    have hzb3 : Blk w3 w1.heap.size 69 (Sr.rcells F (Sr.M0 [b0, b1, b2, b3, b4, b5, b6, b7]) (.slice none 0 0)) := HY.out.2.grown hg3 (fun e => by injection e with e; omega)
    have hO := Sr.own_new hzb3 (B := W0.heap.size) HB.out.2
    have hp3 : PR W0.heap.size w3 A n p := (hp.later hbw3).up (by have := HQ.out; omega)
    have hfit : Sr.Fit F (Sr.M0 [b0, b1, b2, b3, b4, b5, b6, b7]) := ⟨rfl, hr, Nat.zero_le _, Nat.le_refl _⟩
    have henv : EnvAt w3 (RuT w1.heap.size (Sr.M0 [b0, b1, b2, b3, b4, b5, b6, b7]) (.slice none 0 0)) (.slice none 0 0) [] := ⟨SlV.nil _ _, (by intro i hi; cases hi), (by intro i hi; cases hi), (by intro z hz; cases hz)⟩
    have hblk := block_any p w3 W0.heap.size n c w1.heap.size F A (.slice none 0 0) (.slice none 0 0) (Sr.M0 [b0, b1, b2, b3, b4, b5, b6, b7]) [] 0 hp3 hnc hc hO hfit (by omega) henv (by simp; omega) (by omega)
    rw [show Sr.run p (Ex.bs []) 0 (Sr.M0 [b0, b1, b2, b3, b4, b5, b6, b7]) = Sr.go p [b0, b1, b2, b3, b4, b5, b6, b7] from rfl] at hblk
    have hb7 : Blk w3 q7 46 [.int .i64 0] := HY.out.1.grown hg3 (fun e => by injection e with e; have := HQ.out; omega)
    have hrng : ∀ x ∈ (Sr.go p [b0, b1, b2, b3, b4, b5, b6, b7]).heap, Ex.rng x := Sr.run_rng p [] 0 _ hp.ok (by intro b hb; cases hb) hr
    have hon := Sr.run_on p [] 0 (Sr.M0 [b0, b1, b2, b3, b4, b5, b6, b7])
    have hoff : ∀ k, RuT w1.heap.size (Sr.M0 [b0, b1, b2, b3, b4, b5, b6, b7]) (.slice none 0 0) k → W0.heap.size ≤ k := fun k hk => hO.ge hk
    refine hblk.mono ?_
    clear hblk d0 d1 d2 d3 d4 d5 d6 d7 hp3 henv hO hzb3 e6 hg
    rintro e w4 (⟨h1, rfl, vt4, hT⟩ | ⟨h1, rfl, hk⟩)
    · have B6 := hB3.keeps hT.kp (fun hh => by have := hoff _ hh; have := HQ.out; omega)
      have B7 := hb7.keeps hT.kp (fun hh => by have := hoff _ hh; have := HQ.out; omega)
      have hbw4 : Below w.heap.size w w4 := hbw3.trans (hT.kp.below (by have := hbw3.size; omega) (fun k hk => by have := hoff k hk; have := HQ.out; omega))
      have hlo : ∀ k, RuT w1.heap.size (Sr.go p [b0, b1, b2, b3, b4, b5, b6, b7]) vt4 k → W0.heap.size ≤ k := fun k hk => hT.own.ge hk
      have e6 := (B6.cell 0).trans rfl
      simp only [List.set_cons_zero, List.getElem?_cons_zero] at e6 B6
      have hw4 := hT.own.base
      have HZ := Lib.hid (And.intro hT (And.intro hbw4 (And.intro hlo (And.intro h1 hw4))))
      have B75 : ∀ w5, w4.grownBy w5 (some q6) → Blk w5 q7 46 [.int .i64 0] := fun w5 g5 => B7.grown g5 (fun e => by injection e with e; have := HQ.out; omega)
      clear hT hbw4 hlo B7 hbw3 hg3 hB3 hb7 Y1 hoff
      go_wp2_with (first | (refine wpl_set_blk B6 0 (.pointer (some ⟨w1.heap.size, 0, none⟩)) (by kernel_rfl) (by simp) rfl rfl rfl rfl rfl rfl ?_; intro w5 B65 hg5; have B7 := B75 w5 hg5) | (refine wpl_set_blk B7 0 (.int .i64 0) (by kernel_rfl) (by simp) rfl rfl rfl rfl rfl rfl ?_; intro w6 B76 hg6) | fail)
      refine leaves_cons (f := 38) (args := #[.pointer (some ⟨q6, 0, none⟩), .pointer (some ⟨q7, 0, none⟩)]) (by simp) (by simp [go_sem]) ?_
      refine (catch_idle ⟨q6, 0, none⟩ ⟨q7, 0, none⟩ _).mono ?_
      rintro e u' w'' ⟨rfl, rfl, rfl⟩
      have f6 : w''.cell? ⟨q6, 0, none⟩ = some (.pointer (some ⟨w1.heap.size, 0, none⟩)) := ((B65.grown hg6 (fun e => by injection e with e; have := HQ.out; omega)).cell 0).trans rfl
      have f7 : w''.cell? ⟨q7, 0, none⟩ = some (.int .i64 0) := (B76.cell 0).trans rfl
      simp [Leaves, settle, results, Tryd.results30, go_sem, f6, f7]
      obtain ⟨hT, hbw4, hlo, h1, hw4⟩ := HZ.out
      obtain ⟨he, hf⟩ := hin (by exact_mod_cast h1)
      have k6 : Keeps (fun k => k = q6 ∨ k = q7) w4 w'' := ((Keeps.of_grown hg5).mono (fun k e => .inl (by injection e))).trans ((Keeps.of_grown hg6).mono (fun k e => .inr (by injection e)))
      have hO6 := hT.own.keeps k6 (fun i hi e => by have := hlo i hi; have := HQ.out; omega)
      refine ⟨w1.heap.size, F, vt4, by rw [he], ?_, ?_, ?_⟩
      · rw [hf]; exact hO6.lower (by have := HQ.out; omega)
      · rw [hf]; exact hfit.on hon hrng h1
      · exact hbw4.trans (k6.below (by have := HQ.out; omega) (fun k hk => by have := HQ.out; omega))
    · have B6 := hB3.keeps hk (fun hh => by have := hoff _ hh; have := HQ.out; omega)
      have B7 := hb7.keeps hk (fun hh => by have := hoff _ hh; have := HQ.out; omega)
      have hbw4 : Below w.heap.size w w4 := hbw3.trans (hk.below (by have := hbw3.size; omega) (fun k hk => by have := hoff k hk; have := HQ.out; omega))
      have hs4 := hbw4.size
      clear hk hbw3 hg3 hB3 hb7 Y1 hoff
      go_wp2
      refine leaves_cons (f := 38) (args := #[.pointer (some ⟨q6, 0, none⟩), .pointer (some ⟨q7, 0, none⟩)]) (by simp) (by simp [go_sem]) ?_
      refine (catch_spent q6 q7 _ _ _ B6 B7 (by have := HQ.out; omega)).mono ?_
      rintro e u' w5 ⟨rfl, rfl, q, hq, bq, b6, b7, k5⟩
      have f6 : w5.cell? ⟨q6, 0, none⟩ = some (.pointer (some ⟨q, 0, none⟩)) := (b6.cell 0).trans rfl
      have f7 : w5.cell? ⟨q7, 0, none⟩ = some (.int .i64 5) := (b7.cell 0).trans rfl
      unfold spent'
      simp [Leaves, settle, results, Tryd.results30, go_sem, f6, f7]
      obtain ⟨he, hf⟩ := hout (by exact_mod_cast h1)
      refine ⟨q, 0, .slice none 0 0, by rw [he], ?_, ?_, ?_⟩
      · rw [hf]; exact Sr.own_new bq (by omega)
      · rw [hf]; exact Sr.fit0
      · exact hbw4.trans (k5.below hs4 (fun k hk => by have := HQ.out; omega))
  · have hne : (E0 != 0) = true := by simpa using h0
    have hzb := Blk.new w1 69 [.int .i64 0, .int .i64 0, .int .i64 0, .int .i64 0, .int .i64 0, .int .i64 0, .int .i64 0, .int .i64 0, .int .i64 0, .int .i64 0, .slice none 0 0]
    have Y1 := X1.alloc (.cells [.int .i64 0, .int .i64 0, .int .i64 0, .int .i64 0, .int .i64 0, .int .i64 0, .int .i64 0, .int .i64 0, .int .i64 0, .int .i64 0, .slice none 0 0].toArray 69)
    have Y2 := X2.alloc (.cells [.int .i64 0, .int .i64 0, .int .i64 0, .int .i64 0, .int .i64 0, .int .i64 0, .int .i64 0, .int .i64 0, .int .i64 0, .int .i64 0, .slice none 0 0].toArray 69)
    have hq7 := X2.lt
    have hq6 := X1.lt
    have Y27 : ∀ w3, (w1.alloc (.cells ([.int .i64 0, .int .i64 0, .int .i64 0, .int .i64 0, .int .i64 0, .int .i64 0, .int .i64 0, .int .i64 0, .int .i64 0, .int .i64 0, .slice none 0 0] : List Value).toArray 69)).grownBy w3 (some q6) → Blk w3 q7 46 [.int .i64 0] := fun w3 g3 => Y2.grown g3 (fun e => by injection e with e; have := HQ.out; omega)
    have HY := Lib.hid (And.intro Y27 hzb)
    clear Y2 Y27 hzb X0 X1 X2
    go_wp2_with (first | (refine wpl_set_blk Y1 0 (.pointer (some ⟨w1.heap.size, 0, none⟩)) (by kernel_rfl) (by simp) rfl rfl rfl rfl rfl rfl ?_; intro w3 hB3 hg3; have hB7 := HY.out.1 w3 hg3) | (refine wpl_set_blk hB7 0 (.int .i64 E0) (by kernel_rfl) (by simp) rfl rfl rfl rfl rfl rfl ?_; intro w4 hB4 hg4) | fail)
    have d6 : w4.cell? ⟨q6, 0, none⟩ = some (.pointer (some ⟨w1.heap.size, 0, none⟩)) := ((hB3.grown hg4 (fun e => by injection e with e; have := HQ.out; omega)).cell 0).trans rfl
    have d7 : w4.cell? ⟨q7, 0, none⟩ = some (.int .i64 E0) := (hB4.cell 0).trans rfl
    simp [bodyPostD, Leaves, settle, results, Tryd.results30, go_sem, d6, d7]
    have hq6 := hq6
    refine ⟨w1.heap.size, 0, .slice none 0 0, by rw [((Sr.err_of hE.out).1 h0).1], ?_, ?_, ?_⟩
    · rw [((Sr.err_of hE.out).1 h0).2]
      exact Sr.own_new ((HY.out.2.grown hg3 (fun e => by injection e with e; omega)).grown hg4 (fun e => by injection e with e; omega)) (by have := HQ.out; have := HB.out; omega)
    · rw [((Sr.err_of hE.out).1 h0).2]
      exact Sr.fit0
    · exact ((below_alloc HB.out.1 _).grown hg3 (by simp; have := HQ.out; have := HB.out; omega) (fun k e => by injection e with e; have := HQ.out; omega)).grown hg4 (by have := hg3.size; simp at this; have := HQ.out; have := HB.out; omega) (fun k e => by injection e with e; have := HQ.out; omega)
end Go.Proofs.YtdhjfckckghicaaDoor


namespace Go.Proofs.YtdhjfckckghicaaDoor
set_option linter.unusedVariables false
set_option linter.unusedSimpArgs false
set_option maxRecDepth 100000
open Go.RowKit

def hcells (h : List Int) : Value := .agg (ints .i64 h).toArray
set_option maxHeartbeats 1000000 in
theorem srun_any (p : St.P) (h : List Int) (fuel : Int) (w : World) (B n c : Nat) (A : Option Addr) (hB : B ≤ w.heap.size) (hp : PR B w A n p) (hnc : n ≤ c) (hc : c ≤ maxLen) (hsz : p.size ≤ 274877906944) (hh : h.length = 8) (hr : ∀ x ∈ h, Ex.rng x) :
    Calls Tryd.prog 21 #[.slice A n c, hcells h, .int .i64 fuel] w fun e w' => e = .returned (.tuple #[hcells (Sr.fin p h fuel).heap, .int .i64 ((Sr.fin p h fuel).steps : Int), .int .i64 (Sr.err p h fuel)]) ∧ Below w.heap.size w w' := by
  obtain ⟨b0, b1, b2, b3, b4, b5, b6, b7, rfl⟩ := Sr.heap8 hh
  obtain ⟨x0, x1, hz, hb0⟩ := allocs2 w (ints .i64 [b0, b1, b2, b3, b4, b5, b6, b7]) (ints .i64 [0, 0, 0, 0, 0, 0, 0, 0]) 45 45
  have hrun := run_any p [b0, b1, b2, b3, b4, b5, b6, b7] fuel _ B n c A (Nat.le_trans hB hb0.size) (hp.later (hb0.mono hB)) hnc hc hsz hh hr
  unfold hcells
  simp only [ints, List.map_cons, List.map_nil] at x0 x1 hz hb0 hrun ⊢
  clear hp
  go_enter Tryd.func21, Tryd.ntmps21
  go_wp2_with fail
  generalize ((w.alloc (.cells #[.int .i64 b0, .int .i64 b1, .int .i64 b2, .int .i64 b3, .int .i64 b4, .int .i64 b5, .int .i64 b6, .int .i64 b7] 45)).alloc (.cells #[.int .i64 0, .int .i64 0, .int .i64 0, .int .i64 0, .int .i64 0, .int .i64 0, .int .i64 0, .int .i64 0] 45)) = W0 at x0 x1 hz hb0 hrun ⊢
  obtain ⟨Q, hQ⟩ : ∃ Q, Q = w.heap.size + 1 := ⟨_, rfl⟩
  rw [← hQ] at x1 hz ⊢
  refine hrun.mono ?_
  rintro e w1 ⟨g, F, vt, rfl, hO, hf, hb1⟩
  obtain ⟨f0, f8, f9, f10⟩ := Sr.rcells_get (F := F) (vt := vt) hf.len
  have X1 := x1.below hb1
  have hbw := below_next hb1 hb0
  obtain ⟨m, hm⟩ : ∃ m, m = Sr.fin p [b0, b1, b2, b3, b4, b5, b6, b7] fuel := ⟨_, rfl⟩
  rw [← hm] at hO hf f0 f9
  obtain ⟨h0, h1, h2, h3, h4, h5, h6, h7, hh8⟩ := Sr.heap8 hf.len
  have e0 : w1.cell? ⟨g, 0, none⟩ = some (.int .i64 h0) := (hO.blk.cell 0).trans ((f0 0 (by omega)).trans (by rw [hh8]; rfl))
  have e1 : w1.cell? ⟨g, 1, none⟩ = some (.int .i64 h1) := (hO.blk.cell 1).trans ((f0 1 (by omega)).trans (by rw [hh8]; rfl))
  have e2 : w1.cell? ⟨g, 2, none⟩ = some (.int .i64 h2) := (hO.blk.cell 2).trans ((f0 2 (by omega)).trans (by rw [hh8]; rfl))
  have e3 : w1.cell? ⟨g, 3, none⟩ = some (.int .i64 h3) := (hO.blk.cell 3).trans ((f0 3 (by omega)).trans (by rw [hh8]; rfl))
  have e4 : w1.cell? ⟨g, 4, none⟩ = some (.int .i64 h4) := (hO.blk.cell 4).trans ((f0 4 (by omega)).trans (by rw [hh8]; rfl))
  have e5 : w1.cell? ⟨g, 5, none⟩ = some (.int .i64 h5) := (hO.blk.cell 5).trans ((f0 5 (by omega)).trans (by rw [hh8]; rfl))
  have e6 : w1.cell? ⟨g, 6, none⟩ = some (.int .i64 h6) := (hO.blk.cell 6).trans ((f0 6 (by omega)).trans (by rw [hh8]; rfl))
  have e7 : w1.cell? ⟨g, 7, none⟩ = some (.int .i64 h7) := (hO.blk.cell 7).trans ((f0 7 (by omega)).trans (by rw [hh8]; rfl))
  have e9 : w1.cell? ⟨g, 9, none⟩ = some (.int .i64 (m.steps : Int)) := (hO.blk.cell 9).trans f9
  have hgq : g ≠ Q := by have := hO.lo; omega
  have HH := Lib.hid (And.intro hh8 (And.intro hbw (And.intro hQ hm)))
  clear hrun x0 x1 hz hb0 hb1 hO hf f0 f8 f9 f10 hh8 hbw hQ hm
  go_wp2_with fail
  have hg1 : g < w1.heap.size := World.block_lt_of_cell? w1 _ e0
  have y0 : w1.cell? ⟨Q, 0, none⟩ = some (.int .i64 0) := (X1.cell 0).trans rfl
  have z0 := X1.frozen 0
  have y1 : w1.cell? ⟨Q, 1, none⟩ = some (.int .i64 0) := (X1.cell 1).trans rfl
  have z1 := X1.frozen 1
  have y2 : w1.cell? ⟨Q, 2, none⟩ = some (.int .i64 0) := (X1.cell 2).trans rfl
  have z2 := X1.frozen 2
  have y3 : w1.cell? ⟨Q, 3, none⟩ = some (.int .i64 0) := (X1.cell 3).trans rfl
  have z3 := X1.frozen 3
  have y4 : w1.cell? ⟨Q, 4, none⟩ = some (.int .i64 0) := (X1.cell 4).trans rfl
  have z4 := X1.frozen 4
  have y5 : w1.cell? ⟨Q, 5, none⟩ = some (.int .i64 0) := (X1.cell 5).trans rfl
  have z5 := X1.frozen 5
  have y6 : w1.cell? ⟨Q, 6, none⟩ = some (.int .i64 0) := (X1.cell 6).trans rfl
  have z6 := X1.frozen 6
  have y7 : w1.cell? ⟨Q, 7, none⟩ = some (.int .i64 0) := (X1.cell 7).trans rfl
  have z7 := X1.frozen 7
  have hgq' : Q ≠ g := fun e => hgq e.symm
  have HX := Lib.hid X1
  clear X1
  go_region
  have hB := ((((((((HX.out.set_ 0 (.int .i64 h0)).set_ 1 (.int .i64 h1)).set_ 2 (.int .i64 h2)).set_ 3 (.int .i64 h3)).set_ 4 (.int .i64 h4)).set_ 5 (.int .i64 h5)).set_ 6 (.int .i64 h6)).set_ 7 (.int .i64 h7)).drew
  simp only [List.set_cons_zero, List.set_cons_succ] at hB
  have hG : w1.grownBy ((((((((w1.setCell ⟨Q, 0, none⟩ (.int .i64 h0)).setCell ⟨Q, 1, none⟩ (.int .i64 h1)).setCell ⟨Q, 2, none⟩ (.int .i64 h2)).setCell ⟨Q, 3, none⟩ (.int .i64 h3)).setCell ⟨Q, 4, none⟩ (.int .i64 h4)).setCell ⟨Q, 5, none⟩ (.int .i64 h5)).setCell ⟨Q, 6, none⟩ (.int .i64 h6)).setCell ⟨Q, 7, none⟩ (.int .i64 h7)).drew (some Q) := grown_trans (grown_trans (grown_trans (grown_trans (grown_trans (grown_trans (grown_trans (grown_trans (grown_trans (World.grownBy.refl w1 _) (grown_setCell _ Q 0 _)) (grown_setCell _ Q 1 _)) (grown_setCell _ Q 2 _)) (grown_setCell _ Q 3 _)) (grown_setCell _ Q 4 _)) (grown_setCell _ Q 5 _)) (grown_setCell _ Q 6 _)) (grown_setCell _ Q 7 _)) (grown_drew _ _)
  clear y0 y1 y2 y3 y4 y5 y6 y7 z0 z1 z2 z3 z4 z5 z6 z7 e0 e1 e2 e3 e4 e5 e6 e7 e9
  generalize ((((((((w1.setCell ⟨Q, 0, none⟩ (.int .i64 h0)).setCell ⟨Q, 1, none⟩ (.int .i64 h1)).setCell ⟨Q, 2, none⟩ (.int .i64 h2)).setCell ⟨Q, 3, none⟩ (.int .i64 h3)).setCell ⟨Q, 4, none⟩ (.int .i64 h4)).setCell ⟨Q, 5, none⟩ (.int .i64 h5)).setCell ⟨Q, 6, none⟩ (.int .i64 h6)).setCell ⟨Q, 7, none⟩ (.int .i64 h7)).drew = w2 at hB hG ⊢
  have k0 : w2.cell? ⟨Q, 0, none⟩ = some (.int .i64 h0) := (hB.cell 0).trans rfl
  have k1 : w2.cell? ⟨Q, 1, none⟩ = some (.int .i64 h1) := (hB.cell 1).trans rfl
  have k2 : w2.cell? ⟨Q, 2, none⟩ = some (.int .i64 h2) := (hB.cell 2).trans rfl
  have k3 : w2.cell? ⟨Q, 3, none⟩ = some (.int .i64 h3) := (hB.cell 3).trans rfl
  have k4 : w2.cell? ⟨Q, 4, none⟩ = some (.int .i64 h4) := (hB.cell 4).trans rfl
  have k5 : w2.cell? ⟨Q, 5, none⟩ = some (.int .i64 h5) := (hB.cell 5).trans rfl
  have k6 : w2.cell? ⟨Q, 6, none⟩ = some (.int .i64 h6) := (hB.cell 6).trans rfl
  have k7 : w2.cell? ⟨Q, 7, none⟩ = some (.int .i64 h7) := (hB.cell 7).trans rfl
  go_wp2
  refine bodyPost_ret (v := .tuple #[.agg #[.int .i64 h0, .int .i64 h1, .int .i64 h2, .int .i64 h3, .int .i64 h4, .int .i64 h5, .int .i64 h6, .int .i64 h7], .int .i64 (m.steps : Int), .int .i64 (Sr.err p [b0, b1, b2, b3, b4, b5, b6, b7] fuel)]) ?_ rfl ?_
  · simp [results, Tryd.results21, go_sem, k0, k1, k2, k3, k4, k5, k6, k7]
  · have hsz := HH.out.2.1.size
    have hq := HH.out.2.2.1
    have hbE : Below w.heap.size w w2 := HH.out.2.1.grown hG hsz (fun k e => by injection e with e; omega)
    rw [← HH.out.2.2.2]
    refine ⟨?_, hbE⟩
    simp [HH.out.1]

theorem strace_any (p : St.P) (h : List Int) (fuel : Int) (w : World) (B n c : Nat) (A : Option Addr) (hB : B ≤ w.heap.size) (hp : PR B w A n p) (hnc : n ≤ c) (hc : c ≤ maxLen) (hsz : p.size ≤ 274877906944) (hh : h.length = 8) (hr : ∀ x ∈ h, Ex.rng x) :
    Calls Tryd.prog 28 #[.slice A n c, hcells h, .int .i64 fuel] w fun e w' => ∃ vt, e = .returned (.tuple #[vt, .int .i64 (Sr.err p h fuel)]) ∧ w'.ownsRow w.heap.size 63 3 vt (Sr.fin p h fuel).trace.length (Sp.acccs (Sr.fin p h fuel).trace) ∧ Below w.heap.size w w' := by
  obtain ⟨b0, b1, b2, b3, b4, b5, b6, b7, rfl⟩ := Sr.heap8 hh
  have hb0 : Below w.heap.size w (w.alloc (.cells (ints .i64 [b0, b1, b2, b3, b4, b5, b6, b7]).toArray 45)) := below_alloc (Below.refl _ _) _
  have x0 := Blk.new w 45 (ints .i64 [b0, b1, b2, b3, b4, b5, b6, b7])
  have hrun := run_any p [b0, b1, b2, b3, b4, b5, b6, b7] fuel _ B n c A (Nat.le_trans hB hb0.size) (hp.later (hb0.mono hB)) hnc hc hsz hh hr
  unfold hcells
  simp only [ints, List.map_cons, List.map_nil] at x0 hb0 hrun ⊢
  clear hp
  go_enter Tryd.func28, Tryd.ntmps28
  go_wp2_with fail
  generalize (w.alloc (.cells #[.int .i64 b0, .int .i64 b1, .int .i64 b2, .int .i64 b3, .int .i64 b4, .int .i64 b5, .int .i64 b6, .int .i64 b7] 45)) = W0 at x0 hb0 hrun ⊢
  refine hrun.mono ?_
  rintro e w1 ⟨g, F, vt, rfl, hO, hf, hb1⟩
  obtain ⟨f0, f8, f9, f10⟩ := Sr.rcells_get (F := F) (vt := vt) hf.len
  have e10 : w1.cell? ⟨g, 10, none⟩ = some vt := (hO.blk.cell 10).trans f10
  have hbw := below_next hb1 hb0
  have rt : w1.ownsRow W0.heap.size 63 3 vt (Sr.fin p [b0, b1, b2, b3, b4, b5, b6, b7] fuel).trace.length (Sp.acccs (Sr.fin p [b0, b1, b2, b3, b4, b5, b6, b7] fuel).trace) := hO.row 0 rfl
  have hz := hb0.size
  obtain ⟨VT, ct, rfl, -, -⟩ := own_slice rt
  have HH := Lib.hid (And.intro rt (And.intro hbw hz))
  clear hrun x0 hb0 hb1 hO hf f0 f8 f9 f10 rt hbw hz
  go_wp2_with fail
  go_ret2
  exact ⟨_, rfl, own_base HH.out.1 HH.out.2.2, HH.out.2.1⟩
end Go.Proofs.YtdhjfckckghicaaDoor


namespace Go.Proofs.YtdhjfckckghicaaDoor
set_option linter.unusedVariables false
set_option linter.unusedSimpArgs false
set_option maxRecDepth 100000
open Go Go.RowKit

theorem run_eqItems_ints {P : Program} (w : World) (d : Nat) (e : TypeId) {k k' : IntKind} (he : P.underlying e = some (.int k')) (hc : P.cellsOf e = 1) (xs ys : List Int) (hl : xs.length = ys.length) :
    ∀ (n j : Nat), j + n = xs.length → (Op.eqItems (d + 1) e (P.cellsOf e) (ints k xs).toArray (ints k ys).toArray (List.range' j n)).run P w = .ok (decide (xs.drop j = ys.drop j)) w := by
  intro n
  induction n with
  | zero =>
    intro k hk
    rw [List.drop_of_length_le (by omega), List.drop_of_length_le (by omega)]
    simp [Op.eqItems]
  | succ n ih =>
    intro j hk
    have hx : xs[j]? = some xs[j] := List.getElem?_eq_getElem (by omega)
    have hy : ys[j]? = some ys[j] := List.getElem?_eq_getElem (by omega)
    have hagg : (isAgg e).run P w = .ok false w := by
      unfold isAgg
      rw [Sem.run_bind, run_underlying he w]
      rfl
    have px : (part e (ints k xs).toArray (j * P.cellsOf e)).run P w = .ok (.int k xs[j]) w := by
      simp [part, Sem.run_bind, hagg, hc, ints, hx]
    have py : (part e (ints k ys).toArray (j * P.cellsOf e)).run P w = .ok (.int k ys[j]) w := by
      simp [part, Sem.run_bind, hagg, hc, ints, hy]
    rw [List.range'_succ]
    simp only [Op.eqItems, Sem.run_bind, px, py, run_equalIn_int w d e k k' _ _ he, Result.andThen_ok]
    have dx : xs.drop j = xs[j] :: xs.drop (j + 1) := List.drop_eq_getElem_cons (by omega)
    have dy : ys.drop j = ys[j] :: ys.drop (j + 1) := List.drop_eq_getElem_cons (by omega)
    have e : (xs.drop j = ys.drop j) ↔ (xs[j] = ys[j] ∧ xs.drop (j + 1) = ys.drop (j + 1)) := by rw [dx, dy, List.cons.injEq]
    by_cases hb : xs[j] = ys[j]
    · have hb' : (!(xs[j] == ys[j])) = false := by simp [hb]
      rw [hb', if_neg (by simp), ih (j + 1) (by omega)]
      simp only [e, hb, true_and]
    · have hb' : (!(xs[j] == ys[j])) = true := by simp [hb]
      rw [hb', if_pos rfl]
      simp only [e, hb, false_and]
      rfl

theorem run_equal_ints {P : Program} (w : World) (t e : TypeId) (n : Nat) {k k' : IntKind} (ht : P.underlying t = some (.array n e)) (he : P.underlying e = some (.int k')) (hc : P.cellsOf e = 1) (hi : (P.info? e).isSome = true) (xs ys : List Int) (hx : xs.length = n) (hy : ys.length = n) (b : Bool) (hb : decide (xs = ys) = b) :
    (Op.equalIn 10000 t (.agg (ints k xs).toArray) (.agg (ints k ys).toArray)).run P w = .ok b w := by
  subst hb
  obtain ⟨i, hi⟩ := Option.isSome_iff_exists.1 hi
  have := run_equalIn_array (P := P) w 9999 (ints k xs).toArray (ints k ys).toArray ht hi
  have h2 := run_eqItems_ints (P := P) (k := k) w 9998 e he hc xs ys (by omega) n 0 (by omega)
  rw [← List.range_eq_range'] at h2
  rw [this, h2]
  simp
end Go.Proofs.YtdhjfckckghicaaDoor


namespace Go.Proofs.YtdhjfckckghicaaDoor
set_option linter.unusedVariables false
set_option linter.unusedSimpArgs false
set_option maxRecDepth 100000
open Go.RowKit

namespace Sr
open Ex St
def nx : ByteArray := ⟨#[120]⟩
def ni : ByteArray := ⟨#[105]⟩
def aliveIn : P := .cons 2 nx.data.toList (.num 9) .bad .nil .nil (.cons 3 [] (.num 1) (.two 3 (.name nx.data.toList) (.name ni.data.toList)) .nil .nil .nil)
def alive : P := .cons 7 ni.data.toList (.num 0) (.num 3) aliveIn .nil .nil
def aliveH : List Int := [0, 5, 0, 0, 0, 0, 0, 0]
theorem alive_free : free alive = [] := by
  rw [free_nil]
  simp [alive, aliveIn, cl, okx]
theorem alive_go1 : (go alive aliveH).heap = [0, 8, 0, 0, 0, 0, 0, 0] ∧ (go alive aliveH).steps = 10 := ⟨by decide +kernel, by decide +kernel⟩
theorem alive_go2 : (go alive zeros).steps = 10 ∧ (go alive zeros).trace = [(1, false, 0), (1, true, 1), (1, false, 0), (1, true, 1), (1, false, 0), (1, true, 1)] := ⟨by decide +kernel, by decide +kernel⟩
theorem alive_err {h : List Int} (hs : (go alive h).steps = 10) : err alive h 99 = 0 ∧ fin alive h 99 = go alive h := by
  have h0 : err alive h 99 = 0 := by
    unfold err
    rw [if_neg (by simp [alive_free]), if_neg (by omega), if_neg (by rw [hs]; omega)]
  exact ⟨h0, by unfold fin; rw [if_pos h0]⟩
end Sr

/-- serial.Run and serial.Trace of a slice of statements -/
theorem isP_run {w : World} {D : Option Addr} {dl dc : Nat} {p : St.P} (hp : IsP w (.slice D dl dc) p) (h : List Int) (fuel : Int) (hs : p.size ≤ 274877906944) (hh : h.length = 8) (hr : ∀ x ∈ h, Ex.rng x) :
    Calls Tryd.prog 21 #[.slice D dl dc, hcells h, .int .i64 fuel] w fun e w' => e = .returned (.tuple #[hcells (Sr.fin p h fuel).heap, .int .i64 ((Sr.fin p h fuel).steps : Int), .int .i64 (Sr.err p h fuel)]) ∧ Below w.heap.size w w' := by
  obtain ⟨A, n, c, e, h1, h2, h3⟩ := hp
  injection e with e1 e2 e3
  subst e1 e2 e3
  exact srun_any p h fuel w w.heap.size dl dc D (Nat.le_refl _) h3 h1 h2 hs hh hr
theorem isP_trace {w : World} {D : Option Addr} {dl dc : Nat} {p : St.P} (hp : IsP w (.slice D dl dc) p) (h : List Int) (fuel : Int) (hs : p.size ≤ 274877906944) (hh : h.length = 8) (hr : ∀ x ∈ h, Ex.rng x) :
    Calls Tryd.prog 28 #[.slice D dl dc, hcells h, .int .i64 fuel] w fun e w' => ∃ vt, e = .returned (.tuple #[vt, .int .i64 (Sr.err p h fuel)]) ∧ w'.ownsRow w.heap.size 63 3 vt (Sr.fin p h fuel).trace.length (Sp.acccs (Sr.fin p h fuel).trace) ∧ Below w.heap.size w w' := by
  obtain ⟨A, n, c, e, h1, h2, h3⟩ := hp
  injection e with e1 e2 e3
  subst e1 e2 e3
  exact strace_any p h fuel w w.heap.size dl dc D (Nat.le_refl _) h3 h1 h2 hs hh hr

set_option maxHeartbeats 4000000 in
theorem alive13_any (w : World) : Calls Tryd.prog 20 #[] w fun e w' => e = .returned (.bool true) ∧ Below w.heap.size w w' := by
  go_enter Tryd.func20, Tryd.ntmps20
  go_wp2_with fail
  refine (num_any 0 _).mono ?_
  rintro e w1 ⟨rfl, hb1⟩
  unfold xcells
  go_wp2_with fail
  refine (num_any 3 _).mono ?_
  rintro e w2 ⟨rfl, hb2⟩
  unfold xcells
  replace hb2 := below_next hb2 hb1
  go_wp2_with fail
  refine (num_any 9 _).mono ?_
  rintro e w3 ⟨rfl, hb3⟩
  unfold xcells
  replace hb3 := below_next hb3 hb2
  go_wp2_with fail
  refine (num_any 1 _).mono ?_
  rintro e w4 ⟨rfl, hb4⟩
  unfold xcells
  replace hb4 := below_next hb4 hb3
  go_wp2_with fail
  refine (nam_any Sr.nx _).mono ?_
  rintro e w5 ⟨rfl, hb5⟩
  unfold xcells
  replace hb5 := below_next hb5 hb4
  go_wp2_with fail
  refine (nam_any Sr.ni _).mono ?_
  rintro e w6 ⟨rfl, hb6⟩
  unfold xcells
  replace hb6 := below_next hb6 hb5
  clear hb1 hb2 hb3 hb4 hb5
  go_wp2_with fail
  refine (both_any (N := false) 3 (xcells 2 0 Sr.nx none 0 0) (xcells 2 0 Sr.ni none 0 0) (.name Sr.nx.data.toList) (.name Sr.ni.data.toList) _ (.name 0 Sr.nx none 0 0 (Nat.le_refl _) (Nat.zero_le _)) (.name 0 Sr.ni none 0 0 (Nat.le_refl _) (Nat.zero_le _)) (by decide) (by decide)).mono ?_
  rintro e w7 ⟨csb, rfl, hxb, hb7⟩
  replace hb7 := below_next hb7 hb6
  obtain ⟨b0, b1, b2, B3, b4, b5, rfl, -, -⟩ := hxb.form
  have hd0 : 0 ≤ 0 ∧ 0 ≤ maxLen ∧ 0 ≤ 0 ∧ 0 ≤ maxLen := ⟨Nat.le_refl _, Nat.zero_le _, Nat.le_refl _, Nat.zero_le _⟩
  have pc := (PC.one (w := w7) (B := w7.heap.size) (k := 2) (nm := Sr.nx) (ca := xcells 1 9 ⟨#[]⟩ none 0 0) (cb := xzeros) (D := none) (dl := 0) (dc := 0) (E := none) (el := 0) (ec := 0) hd0 (xnum w7 9 (by unfold Ex.rng; omega)) (xbad w7) (.nil _) (.nil _)).append
    (PC.one (w := w7) (B := w7.heap.size) (k := 3) (nm := ⟨#[]⟩) (ca := xcells 1 1 ⟨#[]⟩ none 0 0) (cb := xcells b0 b1 b2 B3 b4 b5) (D := none) (dl := 0) (dc := 0) (E := none) (el := 0) (ec := 0) hd0 (xnum w7 1 (by unfold Ex.rng; omega)) hxb (.nil _) (.nil _))
  have ip := IsP.lit pc (by decide)
  have hb8 := below_alloc hb7 (.cells (stcells 2 Sr.nx (xcells 1 9 ⟨#[]⟩ none 0 0) xzeros none 0 0 none 0 0 ++ stcells 3 ⟨#[]⟩ (xcells 1 1 ⟨#[]⟩ none 0 0) (xcells b0 b1 b2 B3 b4 b5) none 0 0 none 0 0).toArray 36)
  have pc2 : ∀ W D dl dc, IsP W (.slice D dl dc) Sr.aliveIn → IsP (W.alloc (.cells (stcells 7 Sr.ni (xcells 1 0 ⟨#[]⟩ none 0 0) (xcells 1 3 ⟨#[]⟩ none 0 0) D dl dc none 0 0).toArray 36)) (.slice (some ⟨W.heap.size, 0, none⟩) 1 1) Sr.alive := fun W D dl dc h => by
    obtain ⟨A, n, c, e, h1, h2, h3⟩ := h
    injection e with e1 e2 e3
    subst e1 e2 e3
    exact IsP.lit (PC.one (k := 7) (nm := Sr.ni) ⟨h1, h2, Nat.le_refl _, Nat.zero_le _⟩ (xnum W 0 (by unfold Ex.rng; omega)) (xnum W 3 (by unfold Ex.rng; omega)) h3 (.nil _)) (by decide)
  have ip2 := pc2 _ _ _ _ ip
  simp only [xzeros, stcells, xcells, List.cons_append, List.nil_append, Sr.nx, Sr.ni] at ip hb8 ip2 ⊢
  have hs8 := hb8.size
  have hz9 : ∀ (W : World) (o : Obj), (W.alloc o).heap.size = W.heap.size + 1 := fun W o => by simp
  have hb9 := below_alloc hb8 (.cells [.int .i64 7, .string ⟨#[105]⟩, .int .i64 1, .int .i64 0, .string ⟨#[]⟩, .slice none 0 0, .int .i64 1, .int .i64 3, .string ⟨#[]⟩, .slice none 0 0, .slice (some ⟨w7.heap.size, 0, none⟩) 2 2, .slice none 0 0].toArray 36)
  rw [hz9] at ip2
  clear pc pc2 ip hb6 hb7 hb8 hxb hs8
  go_wp2_with fail
  generalize ((w7.alloc (.cells #[.int .i64 2, .string ⟨#[120]⟩, .int .i64 1, .int .i64 9, .string ⟨#[]⟩, .slice none 0 0, .int .i64 0, .int .i64 0, .string ⟨#[]⟩, .slice none 0 0, .slice none 0 0, .slice none 0 0, .int .i64 3, .string ⟨#[]⟩, .int .i64 1, .int .i64 1, .string ⟨#[]⟩, .slice none 0 0, .int .i64 b0, .int .i64 b1, .string b2, .slice B3 b4 b5, .slice none 0 0, .slice none 0 0] 36)).alloc (.cells #[.int .i64 7, .string ⟨#[105]⟩, .int .i64 1, .int .i64 0, .string ⟨#[]⟩, .slice none 0 0, .int .i64 1, .int .i64 3, .string ⟨#[]⟩, .slice none 0 0, .slice (some ⟨w7.heap.size, 0, none⟩) 2 2, .slice none 0 0] 36)) = W9 at ip2 hb9 ⊢
  have hr0 : ∀ x ∈ Sr.aliveH, Ex.rng x := by
    intro x hx
    have hx' : x = 0 ∨ x = 5 := by simp [Sr.aliveH] at hx; omega
    rcases hx' with rfl | rfl <;> (unfold Ex.rng; omega)
  have hz0 : ∀ x ∈ Sr.zeros, Ex.rng x := by
    intro x hx
    simp [Sr.zeros] at hx
    subst hx
    unfold Ex.rng; omega
  have hrun := isP_run ip2 Sr.aliveH 99 (by decide) rfl hr0
  rw [(Sr.alive_err Sr.alive_go1.2).1, (Sr.alive_err Sr.alive_go1.2).2, Sr.alive_go1.1, Sr.alive_go1.2] at hrun
  refine hrun.mono ?_
  rintro e w10 ⟨rfl, hb10⟩
  have hbx := below_next hb10 hb9
  have ip3 := ip2.step hb10
  have hB := Blk.new w10 45 (ints .i64 [0, 0, 0, 0, 0, 0, 0, 0])
  have hb11 : Below w10.heap.size w10 (w10.alloc (.cells (ints .i64 [0, 0, 0, 0, 0, 0, 0, 0]).toArray 45)) := below_alloc (Below.refl _ _) _
  have hl : ∀ v ∈ ints .i64 [0, 8, 0, 0, 0, 0, 0, 0], v.oneCell' = true := ints_one1 _ _
  simp only [hcells, ints, List.map_cons, List.map_nil] at hB hb11 hl ⊢
  clear hrun ip2 hb9 hb10 hr0
  have hq : w10.heap.size < (w10.alloc (.cells #[.int .i64 0, .int .i64 0, .int .i64 0, .int .i64 0, .int .i64 0, .int .i64 0, .int .i64 0, .int .i64 0] 45)).heap.size := by simp
  have HP := Lib.hid (fun w11 (hg11 : (w10.alloc (.cells #[.int .i64 0, .int .i64 0, .int .i64 0, .int .i64 0, .int .i64 0, .int .i64 0, .int .i64 0, .int .i64 0] 45)).grownBy w11 (some w10.heap.size)) => show IsP w11 (.slice (some ⟨w7.heap.size + 1, 0, none⟩) 1 1) Sr.alive ∧ Below w.heap.size w w11 from
    have hbb := hb11.trans (below_of_grown hg11 (by omega) (Nat.le_refl _))
    ⟨ip3.step hbb, below_next hbb hbx⟩)
  clear ip3 hbx hb11 hq
  go_wp2_with (first | (refine wpl_put_blk hB [.int .i64 0, .int .i64 8, .int .i64 0, .int .i64 0, .int .i64 0, .int .i64 0, .int .i64 0, .int .i64 0] (by kernel_rfl) rfl hl rfl rfl rfl rfl ?_; intro w11 hB11 hg11) | fail)
  obtain ⟨ip4, hb12⟩ := HP.out w11 hg11
  have htr := isP_trace ip4 Sr.zeros 99 (by decide) rfl hz0
  rw [(Sr.alive_err Sr.alive_go2.1).1, (Sr.alive_err Sr.alive_go2.1).2, Sr.alive_go2.2] at htr
  clear hB hg11 HP ip4 hz0
  refine htr.mono ?_
  rintro e w12 ⟨vt, rfl, hrow, hb13⟩
  have B12 := hB11.below hb13
  have k1 := (B12.cell 1).trans rfl
  simp only [List.getElem?_cons_succ, List.getElem?_cons_zero] at k1
  obtain ⟨VT, ct, rfl, -, -⟩ := own_slice hrow
  obtain ⟨b, o, rfl, hbl, hcc⟩ := (Cells.of_own hrow).at_ (by simp [Sp.acccs, Sp.accc])
  have t0 := hcc 3 _ rfl
  have t1 := hcc 4 _ rfl
  have t2 := hcc 5 _ rfl
  have hbZ := below_next hb13 hb12
  clear htr hrow hcc hb13 hb12 hB11 B12
  go_wp2_with fail
  refine (cell_any (-1) _).mono ?_
  rintro e w13 ⟨rfl, rfl⟩
  rw [show Sr.cell (-1) = 7 from rfl]
  clear t0 t1 t2 k1
  go_wp2
  go_ret
  exact ⟨rfl, hbZ⟩
end Go.Proofs.YtdhjfckckghicaaDoor


namespace Go.Proofs.YtdhjfckckghicaaDoor
set_option linter.unusedVariables false
set_option linter.unusedSimpArgs false
set_option maxRecDepth 100000
open Go.RowKit

theorem arr_heap : Tryd.prog.underlying 45 = some (.array 8 3) := by kernel_rfl
theorem heap_eq (xs ys : List Int) (hx : xs.length = 8) (hy : ys.length = 8) (b : Bool) (hb : decide (xs = ys) = b) (w : World) : (Op.equalIn 10000 45 (.agg (ints .i64 xs).toArray) (.agg (ints .i64 ys).toArray)).run Tryd.prog w = .ok b w :=
  run_equal_ints (P := Tryd.prog) w _ _ 8 arr_heap Tryd.underlying3 (by kernel_rfl) (by kernel_rfl) xs ys hx hy b hb
/-- the result of a run, put into a variable of its own -/
theorem put_heap {wk w1 w2 : World} (hb : Below wk.heap.size wk w1) (hg : (w1.alloc (.cells (ints .i64 [0, 0, 0, 0, 0, 0, 0, 0]).toArray 45)).grownBy w2 (some w1.heap.size)) : Below wk.heap.size wk w2 := by
  have hs := hb.size
  exact (below_alloc hb (.cells (ints .i64 [0, 0, 0, 0, 0, 0, 0, 0]).toArray 45)).trans (below_of_grown hg (by simp; omega) hs)
theorem Sr.fin_len (p : St.P) (h : List Int) (fuel : Int) (hh : h.length = 8) : (Sr.fin p h fuel).heap.length = 8 := by
  unfold Sr.fin
  split
  · exact (Sr.run_on p [] 0 (Sr.M0 h)).heap.trans hh
  · rfl
theorem Sr.fin_rng (p : St.P) (h : List Int) (fuel : Int) (hp : Sr.okp p) (hr : ∀ x ∈ h, Ex.rng x) : ∀ x ∈ (Sr.fin p h fuel).heap, Ex.rng x := by
  unfold Sr.fin
  split
  · exact Sr.run_rng p [] 0 _ hp (by intro b hb; cases hb) hr
  · exact Sr.fit0.rg

/-- what a law needs of a run -/
theorem isP_runs {w : World} {D : Option Addr} {dl dc : Nat} {p : St.P} (hp : IsP w (.slice D dl dc) p) (h : List Int) (fuel : Int) (hs : p.size ≤ 274877906944) (hh : h.length = 8) (hr : ∀ x ∈ h, Ex.rng x) {H : List Int} {N E : Int} (h1 : (Sr.fin p h fuel).heap = H) (h2 : ((Sr.fin p h fuel).steps : Int) = N) (h3 : Sr.err p h fuel = E) :
    Calls Tryd.prog 21 #[.slice D dl dc, .agg (ints .i64 h).toArray, .int .i64 fuel] w fun e w' => e = .returned (.tuple #[.agg (ints .i64 H).toArray, .int .i64 N, .int .i64 E]) ∧ Below w.heap.size w w' := by
  subst h1 h2 h3
  exact isP_run hp h fuel hs hh hr
theorem Sr.err_range (p : St.P) (h : List Int) (fuel : Int) : (Sr.err p h fuel ≠ 0 → Sr.fin p h fuel = Sr.M0 Sr.zeros) ∧ (Sr.err p h fuel = 0 → Sr.free p = [] ∧ 0 ≤ fuel ∧ fuel ≤ 2000 ∧ ((Sr.go p h).steps : Int) ≤ fuel ∧ Sr.fin p h fuel = Sr.go p h) := by
  refine ⟨fun h => by unfold Sr.fin; rw [if_neg h], fun h0 => ?_⟩
  have hf : Sr.fin p h fuel = Sr.go p h := by unfold Sr.fin; rw [if_pos h0]
  unfold Sr.err at h0
  split at h0
  · cases h0
  · rename_i h1
    split at h0
    · cases h0
    · split at h0
      · cases h0
      · exact ⟨by simpa using h1, by omega, by omega, by omega, hf⟩
theorem Sr.err_zero {p : St.P} {h : List Int} {fuel : Int} (h1 : Sr.free p = []) (h2 : 0 ≤ fuel) (h3 : fuel ≤ 2000) : (((Sr.go p h).steps : Int) ≤ fuel → Sr.err p h fuel = 0 ∧ Sr.fin p h fuel = Sr.go p h) ∧ (fuel < (Sr.go p h).steps → Sr.err p h fuel = 5) := by
  refine ⟨fun h4 => ?_, fun h4 => ?_⟩
  · have h0 : Sr.err p h fuel = 0 := by unfold Sr.err; rw [if_neg (by simp [h1]), if_neg (by omega), if_neg (by omega)]
    exact ⟨h0, by unfold Sr.fin; rw [if_pos h0]⟩
  · unfold Sr.err
    rw [if_neg (by simp [h1]), if_neg (by omega), if_pos h4]
end Go.Proofs.YtdhjfckckghicaaDoor
