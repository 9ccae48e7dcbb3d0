/-
  Unfold: what ends it for lack of fuel, caught; the whole, on a contract of block.
-/
import Derived.Test.YtkjmddgnfgbioaaDoorUsP4
import Derived.Test.YtkjmddgnfgbioaaDoorUsP5
import Derived.Defers
import Derived.Recover
import Derived.Test.YtkjmddgnfgbioaaDoorUsP1

namespace Go.Proofs.YtkjmddgnfgbioaaDoor
set_option linter.unusedVariables false
set_option linter.unusedSimpArgs false
set_option maxRecDepth 100000
open Go.RowKit

theorem blk_type {w : World} {g : Nat} {t t' : TypeId} {cs cs' : List Value} (h : Blk w g t cs) (h' : Blk w g t' cs') : t = t' := by
  have := h.symm.trans h'
  injection this with this
  injection this

theorem RestOK.call {w : World} {g F : Nat} {k : Sr.M → Sp.T × Sr.M} {id : FuncId} {caps : Array Value} (h : RestOK w g F k (.func (.func id) #[] caps)) : (∀ (args : Array Value) (w : World), (callFunc id args).run Tryd.prog w = .ok (.enter id args) w) ∧ ∀ w' m, Keeps (fun i => i = g) w w' → Blk w' g 126 (Un.bcells F m) → Sr.Fit F m → Calls Tryd.prog id caps w' (UnEnd w' g F (k m)) := by
  obtain ⟨_, _, e, h2, h3⟩ := h.ex
  injection e with e1 e2 e3
  injection e1 with e1
  subst e1 e3
  exact ⟨h2, h3⟩
theorem Un.un_more {kd : Int} (h1 : 1 ≤ kd) (h7 : kd ≤ 7) (nm : List UInt8) (a b : Ex.X) (body els rest : St.P) (env : Sr.Env) (l : Nat) (k : Sr.M → Sp.T × Sr.M) (m : Sr.M) (hk : ∀ m : Sr.M, m.steps ≤ (k m).2.steps) : m.steps + 1 ≤ (Un.un (.cons kd nm a b body els rest) env l k m).2.steps := by
  rw [Un.un_state]
  refine Nat.le_trans ?_ (hk _)
  unfold Sr.run
  have hs : m.steps + 1 = m.step.steps := rfl
  rw [hs]
  split
  · exact (Sr.run_on rest _ _ _).steps
  split
  · exact (Sr.run_on rest _ _ (m.step.acc _ false l)).steps
  split
  · exact (Sr.run_on rest _ _ ((m.step.acc _ true l).put _ _)).steps
  split
  · exact Nat.le_trans (Sr.run_on body _ _ _).steps (Sr.run_on rest _ _ _).steps
  split
  · split
    · exact Nat.le_trans (Sr.run_on body _ _ _).steps (Sr.run_on rest _ _ _).steps
    · exact Nat.le_trans (Sr.run_on els _ _ _).steps (Sr.run_on rest _ _ _).steps
  split
  · exact Nat.le_trans (Sr.On.iter (fun i m => (Sr.On.step m).trans (Sr.run_on body _ _ _)) _ _ _).steps (Sr.run_on rest _ _ _).steps
  · omega
def FRest (g F : Nat) (k : Sr.M → Sp.T × Sr.M) : Fact (fun w w' => Below w.heap.size w w') :=
  ⟨fun v w => ∃ id caps, v = .func (.func id) #[] caps ∧ RestOK w g F k (.func (.func id) #[] caps), fun v w w' ⟨id, caps, h1, h2⟩ hb => ⟨id, caps, h1, h2.keep (Keeps.of_below hb _)⟩⟩
theorem Un.bcells_put {F : Nat} {m : Sr.M} (hl : m.heap.length = 8) (c : Nat) (hc : c < 8) (x : Int) : (Un.bcells F m).set c (.int .i64 x) = Un.bcells F (m.put c x) := by
  unfold Un.bcells Sr.M.put
  rw [List.set_append_left _ _ (by rw [ints_length]; omega), ints_set]
set_option maxHeartbeats 16000000 in
theorem block_cons (p : St.P) (ih : ∀ q : St.P, q.size < p.size → BlockU q) (w : World) (B n c g F : Nat) (v : Value) (m : Sr.M) (VE : Option Addr) (ce : Nat) (zs : List Ex.Bd) (l : Nat) (k : Sr.M → Sp.T × Sr.M) (gA o : Nat) (kd : Int) (nm : ByteArray) (ak an : Int) (sa : ByteArray) (aA : Option Addr) (al ac : Nat) (bk bn : Int) (sb : ByteArray) (bA : Option Addr) (bl bc : Nat) (D : Option Addr) (dl dc : Nat) (E : Option Addr) (el ec : Nat) (ea eb : Ex.X) (body els rest : St.P)
    (hpp : p = .cons kd nm.data.toList ea eb body els rest) (hgA : gA < B) (hd : dl ≤ dc ∧ dc ≤ maxLen ∧ el ≤ ec ∧ ec ≤ maxLen) (hcs : ∀ j u, (stcells kd nm (xcells ak an sa aA al ac) (xcells bk bn sb bA bl bc) D dl dc E el ec)[j]? = some u → w.cell? ⟨gA, o + j, none⟩ = some u)
    (xa : XR B w (xcells ak an sa aA al ac) ea) (xb : XR B w (xcells bk bn sb bA bl bc) eb) (pb : PR B w D dl body) (pe : PR B w E el els) (pr : PR B w (some ⟨gA, o + 12, none⟩) n rest)
    (hnc : n + 1 ≤ c) (hc : c ≤ maxLen) (hB : B ≤ g) (hbl : Blk w g 126 (Un.bcells F m)) (hf : Sr.Fit F m) (hF : F ≤ 2000) (hv : EnvAt w (fun i => i = g) (.slice VE zs.length ce) zs) (hz : zs.length + p.size ≤ 549755813888) (hl : l + p.size ≤ 576460752303423488) (hk : RestOK w g F k v) :
    Calls Tryd.prog 78 #[.pointer (some ⟨g, 0, none⟩), .slice (some ⟨gA, o, none⟩) (n + 1) c, .slice VE zs.length ce, .int .i64 (l : Int), v] w (UnEnd w g F (Un.un p (Ex.bs zs) l k m)) := by
  subst hpp
  have hg := hbl.lt
  obtain ⟨id, caps, rfl, hcf, -⟩ := hk.ex
  clear hcf
  have hb0 : Below w.heap.size w ((((w.alloc (.cells #[.pointer (some ⟨g, 0, none⟩)] 124)).alloc (.cells #[.slice (some ⟨gA, o, none⟩) (n + 1) c] 34)).alloc (.cells #[.func (.func id) #[] caps] 163)).alloc (.cells #[.int .i64 0, .int .i64 0, .bool false, .int .i64 0, .slice none 0 0] 59)) := below_alloc (below_alloc (below_alloc (below_alloc (Below.refl _ _) _) _) _) _
  have x0 := ((((Blk.new w 124 [.pointer (some ⟨g, 0, none⟩)]).alloc (.cells #[.slice (some ⟨gA, o, none⟩) (n + 1) c] 34)).alloc (.cells #[.func (.func id) #[] caps] 163)).alloc (.cells #[.int .i64 0, .int .i64 0, .bool false, .int .i64 0, .slice none 0 0] 59))
  have x1 := (((Blk.new (w.alloc (.cells #[.pointer (some ⟨g, 0, none⟩)] 124)) 34 [.slice (some ⟨gA, o, none⟩) (n + 1) c]).alloc (.cells #[.func (.func id) #[] caps] 163)).alloc (.cells #[.int .i64 0, .int .i64 0, .bool false, .int .i64 0, .slice none 0 0] 59))
  have x2 := ((Blk.new ((w.alloc (.cells #[.pointer (some ⟨g, 0, none⟩)] 124)).alloc (.cells #[.slice (some ⟨gA, o, none⟩) (n + 1) c] 34)) 163 [.func (.func id) #[] caps]).alloc (.cells #[.int .i64 0, .int .i64 0, .bool false, .int .i64 0, .slice none 0 0] 59))
  have x3 := (Blk.new (((w.alloc (.cells #[.pointer (some ⟨g, 0, none⟩)] 124)).alloc (.cells #[.slice (some ⟨gA, o, none⟩) (n + 1) c] 34)).alloc (.cells #[.func (.func id) #[] caps] 163)) 59 [.int .i64 0, .int .i64 0, .bool false, .int .i64 0, .slice none 0 0])
  simp only [World.size_alloc] at x1 x2 x3
  obtain ⟨Q, hq⟩ : ∃ q, q = w.heap.size := ⟨_, rfl⟩
  have hsz : (St.P.cons kd nm.data.toList ea eb body els rest).size = 1 + ea.leaves + eb.leaves + body.size + els.size + rest.size := by simp [St.P.size]
  have hlab1 := St.lab1_le kd (St.labels body) (St.labels els)
  have hlab2 := St.labels_le body
  have hlab3 := St.labels_le els
  have hone := PR.one_U (ea := ea) (eb := eb) hgA hd hcs xa xb pb pe
  have hokp := pb.ok
  have hoke := pe.ok
  have hoka := xa.ok
  have hokb := xb.ok
  have hra := Ex.evl_rng _ hv.rng _ hoka
  have hrb := Ex.evl_rng _ hv.rng _ hokb
  have hce := hv.addr
  obtain ⟨LB, hLB⟩ : ∃ x, x = St.lab1 kd (St.labels body) (St.labels els) := ⟨_, rfl⟩
  have hgL : ∀ w', Below w.heap.size w w' → Calls Tryd.prog 38 #[.slice (some ⟨gA, o, none⟩) 1 c] w' fun e w'' => e = .returned (.int .i64 ((LB : Nat) : Int)) ∧ Below w'.heap.size w' w'' := fun w' hb => by
    have := labels_any _ w' B 1 c _ (by have := hb.size; omega) (hone.later (hb.mono (by omega))) (by omega) hc (by rw [size_one]; omega)
    rw [labels_one, ← hLB] at this
    exact this
  have hwr : IntKind.i64.wrap ((l : Int) + ((LB : Nat) : Int)) = ((l + LB : Nat) : Int) := by
    rw [IntKind.wrap_i64]
    omega
  have hc1 : (1 : Int) ≤ (c : Int) := by omega
  obtain ⟨R, hR⟩ : ∃ R, R = Un.un (.cons kd nm.data.toList ea eb body els rest) (Ex.bs zs) l k m := ⟨_, rfl⟩
  rw [← hR]
  have HR := Lib.hid hR
  have HL := Lib.hid (And.intro hLB (And.intro hsz (And.intro hlab1 (And.intro hlab2 (And.intro hlab3 (And.intro hz hl))))))
  have HI := Lib.hid ih
  have HT := Lib.hid (And.intro hra (And.intro hrb (And.intro hce (And.intro hokp (And.intro hoke (And.intro hoka hokb))))))
  have dd : ∀ w', Below w.heap.size w w' → ∀ j u, (stcells kd nm (xcells ak an sa aA al ac) (xcells bk bn sb bA bl bc) D dl dc E el ec)[j]? = some u → w'.cell? ⟨gA, o + j, none⟩ = some u := fun w' hb j u hu => (hb.cell (World.block_lt_of_cell? _ _ (hcs j u hu))).trans (hcs j u hu)
  have HW := Lib.hid (And.intro xa (And.intro xb (And.intro pb (And.intro pe (And.intro pr (And.intro hbl (And.intro hv (And.intro hk hg))))))))
  clear hsz hlab1 hlab2 hlab3 hone hLB hR xa xb pb pe pr hbl hv hk ih hcs hz hl hra hrb hce hokp hoke hoka hokb
  go_enter Tryd.func78, Tryd.ntmps78
  go_upto_region 1 with (fail)
  generalize ((((w.alloc (.cells #[.pointer (some ⟨g, 0, none⟩)] 124)).alloc (.cells #[.slice (some ⟨gA, o, none⟩) (n + 1) c] 34)).alloc (.cells #[.func (.func id) #[] caps] 163)).alloc (.cells #[.int .i64 0, .int .i64 0, .bool false, .int .i64 0, .slice none 0 0] 59)) = W at hb0 x0 x1 x2 x3 ⊢
  rw [← hq] at x0 x1 x2 x3 ⊢
  have k1 : W.cell? ⟨Q + 1, 0, none⟩ = some (.slice (some ⟨gA, o, none⟩) (n + 1) c) := (x1.cell 0).trans rfl
  have d0 : W.cell? ⟨gA, o, none⟩ = some (.int .i64 kd) := dd W hb0 0 _ rfl
  have d1 : W.cell? ⟨gA, o + 1, none⟩ = some (.string nm) := dd W hb0 1 _ rfl
  have d2 : W.cell? ⟨gA, o + 2, none⟩ = some (.int .i64 ak) := dd W hb0 2 _ rfl
  have d3 : W.cell? ⟨gA, o + 3, none⟩ = some (.int .i64 an) := dd W hb0 3 _ rfl
  have d4 : W.cell? ⟨gA, o + 4, none⟩ = some (.string sa) := dd W hb0 4 _ rfl
  have d5 : W.cell? ⟨gA, o + 5, none⟩ = some (.slice aA al ac) := dd W hb0 5 _ rfl
  have d6 : W.cell? ⟨gA, o + 6, none⟩ = some (.int .i64 bk) := dd W hb0 6 _ rfl
  have d7 : W.cell? ⟨gA, o + 7, none⟩ = some (.int .i64 bn) := dd W hb0 7 _ rfl
  have d8 : W.cell? ⟨gA, o + 8, none⟩ = some (.string sb) := dd W hb0 8 _ rfl
  have d9 : W.cell? ⟨gA, o + 9, none⟩ = some (.slice bA bl bc) := dd W hb0 9 _ rfl
  have d10 : W.cell? ⟨gA, o + 10, none⟩ = some (.slice D dl dc) := dd W hb0 10 _ rfl
  have d11 : W.cell? ⟨gA, o + 11, none⟩ = some (.slice E el ec) := dd W hb0 11 _ rfl
  have hgL' : ∀ w', Below W.heap.size W w' → Calls Tryd.prog 38 #[.slice (some ⟨gA, o, none⟩) 1 c] w' fun e w'' => e = .returned (.int .i64 ((LB : Nat) : Int)) ∧ Below w'.heap.size w' w'' := fun w' hb => hgL w' (hb0.trans (hb.mono hb0.size))
  have keepS : ∀ w', Below W.heap.size W w' → (Below W.heap.size W w' ∧ w'.cell? ⟨Q + 1, 0, none⟩ = some (.slice (some ⟨gA, o, none⟩) (n + 1) c) ∧ w'.cell? ⟨gA, o, none⟩ = some (.int .i64 kd) ∧ w'.cell? ⟨gA, o + 1, none⟩ = some (.string nm) ∧ w'.cell? ⟨gA, o + 2, none⟩ = some (.int .i64 ak) ∧ w'.cell? ⟨gA, o + 3, none⟩ = some (.int .i64 an) ∧ w'.cell? ⟨gA, o + 4, none⟩ = some (.string sa) ∧ w'.cell? ⟨gA, o + 5, none⟩ = some (.slice aA al ac) ∧ w'.cell? ⟨gA, o + 6, none⟩ = some (.int .i64 bk) ∧ w'.cell? ⟨gA, o + 7, none⟩ = some (.int .i64 bn) ∧ w'.cell? ⟨gA, o + 8, none⟩ = some (.string sb) ∧ w'.cell? ⟨gA, o + 9, none⟩ = some (.slice bA bl bc) ∧ w'.cell? ⟨gA, o + 10, none⟩ = some (.slice D dl dc) ∧ w'.cell? ⟨gA, o + 11, none⟩ = some (.slice E el ec)) := fun w' hb => ⟨hb, (hb.cell (World.block_lt_of_cell? _ _ k1)).trans k1, (hb.cell (World.block_lt_of_cell? _ _ d0)).trans d0, (hb.cell (World.block_lt_of_cell? _ _ d1)).trans d1, (hb.cell (World.block_lt_of_cell? _ _ d2)).trans d2, (hb.cell (World.block_lt_of_cell? _ _ d3)).trans d3, (hb.cell (World.block_lt_of_cell? _ _ d4)).trans d4, (hb.cell (World.block_lt_of_cell? _ _ d5)).trans d5, (hb.cell (World.block_lt_of_cell? _ _ d6)).trans d6, (hb.cell (World.block_lt_of_cell? _ _ d7)).trans d7, (hb.cell (World.block_lt_of_cell? _ _ d8)).trans d8, (hb.cell (World.block_lt_of_cell? _ _ d9)).trans d9, (hb.cell (World.block_lt_of_cell? _ _ d10)).trans d10, (hb.cell (World.block_lt_of_cell? _ _ d11)).trans d11⟩
  have hS0 := keepS _ (below_drew (Below.refl _ _))
  have HB := Lib.hid (And.intro hb0 (And.intro x0 (And.intro x1 (And.intro x2 (And.intro x3 hq)))))
  clear dd hgL hb0 hq x0 x1 x2 x3
  go_wp2_with fail
  refine wp_walk_pf 11 (fun i => ([10] : List Nat).contains i) (fun i => ([3,7,9] : List Nat).contains i) [10] (by intro m h; simpa using h) (by kernel_rfl) (by kernel_rfl) (by kernel_rfl) [11] (by kernel_rfl) (fun w w' => Below w.heap.size w w') (fun w w' => ∀ q, Blk w q 3 [.int .i64 0] → Blk w' q 3 [.int .i64 0]) (fun w' => (Below W.heap.size W w' ∧ w'.cell? ⟨Q + 1, 0, none⟩ = some (.slice (some ⟨gA, o, none⟩) (n + 1) c) ∧ w'.cell? ⟨gA, o, none⟩ = some (.int .i64 kd) ∧ w'.cell? ⟨gA, o + 1, none⟩ = some (.string nm) ∧ w'.cell? ⟨gA, o + 2, none⟩ = some (.int .i64 ak) ∧ w'.cell? ⟨gA, o + 3, none⟩ = some (.int .i64 an) ∧ w'.cell? ⟨gA, o + 4, none⟩ = some (.string sa) ∧ w'.cell? ⟨gA, o + 5, none⟩ = some (.slice aA al ac) ∧ w'.cell? ⟨gA, o + 6, none⟩ = some (.int .i64 bk) ∧ w'.cell? ⟨gA, o + 7, none⟩ = some (.int .i64 bn) ∧ w'.cell? ⟨gA, o + 8, none⟩ = some (.string sb) ∧ w'.cell? ⟨gA, o + 9, none⟩ = some (.slice bA bl bc) ∧ w'.cell? ⟨gA, o + 10, none⟩ = some (.slice D dl dc) ∧ w'.cell? ⟨gA, o + 11, none⟩ = some (.slice E el ec))) (fun c ρ w' => match c with | 0 => True | _ + 1 => ∃ S, ρ 11 = .pointer (some ⟨S, 0, none⟩) ∧ W.heap.size ≤ S ∧ Blk w' S 40 [.int .i64 kd, .string nm, .int .i64 ak, .int .i64 an, .string sa, .slice aA al ac, .int .i64 bk, .int .i64 bn, .string sb, .slice bA bl bc, .slice D dl dc, .slice E el ec]) hS0 (fun _ => trivial) (fun c ρ w w' h k => by cases c with | zero => trivial | succ c => (obtain ⟨g', h1, h2, h3⟩ := h; exact ⟨g', h1, h2, h3.below k⟩)) (fun _ _ _ _ => trivial) (fun c ρ ρ' w h k => by cases c with | zero => trivial | succ c => (obtain ⟨g', h1, h2, h3⟩ := k; exact ⟨g', (h 11 (by simp)).symm.trans h1, h2, h3⟩)) ?_
  simp only [List.length_cons, List.length_nil, Nat.reduceAdd, Nat.reduceSub, List.take_succ_cons, List.take_zero, List.drop_succ_cons, List.drop_zero]
  repeat (first | (refine fsettle_skip (by rfl) (fun _ => by rfl) ?_; (simp only [Act.put, List.setIfInBounds_toArray, List.set_cons_zero, List.set_cons_succ])) | (refine' fsettle_run (by rfl) (fun _ _ => Below.refl _ _) (fun _ => by rfl) ?_ ?_; rotate_left; (focus (intro ρ w hS hF hP; (try dsimp only at hS); go_split_ands; go_simp; try with_reducible rfl)); (simp only [Act.put, List.setIfInBounds_toArray, List.set_cons_zero, List.set_cons_succ])))
  (refine' fsettle_step (by rfl) (fun _ => by rfl) ?_ ?_; rotate_left; (focus (intro ρ w hS hF hP K hK; (simp only [Act.put, List.setIfInBounds_toArray, List.set_cons_zero, List.set_cons_succ] at hK); go_simp; go_at_call 38; refine (hgL' _ hS.1).mono ?_; rintro e w' ⟨rfl, hb'⟩; have hS' := keepS _ (below_next hb' hS.1); have hE' := hb'; exact hK _ hS' hE')); (simp only [Act.put, List.setIfInBounds_toArray, List.set_cons_zero, List.set_cons_succ]))
  repeat (first | (refine fsettle_skip (by rfl) (fun _ => by rfl) ?_; (simp only [Act.put, List.setIfInBounds_toArray, List.set_cons_zero, List.set_cons_succ])) | (refine' fsettle_run (by rfl) (fun _ _ => Below.refl _ _) (fun _ => by rfl) ?_ ?_; rotate_left; (focus (intro ρ w hS hF hP; (try dsimp only at hS); go_split_ands; go_simp; try with_reducible rfl)); (simp only [Act.put, List.setIfInBounds_toArray, List.set_cons_zero, List.set_cons_succ])))
  (refine fsettle_known (FZu W.heap.size 40 [.int .i64 0, .string ⟨#[]⟩, .int .i64 0, .int .i64 0, .string ⟨#[]⟩, .slice none 0 0, .int .i64 0, .int .i64 0, .string ⟨#[]⟩, .slice none 0 0, .slice none 0 0, .slice none 0 0]) (by rfl) (by rfl) (by rfl) (fun _ => by rfl)  ?_ ?_; (focus (intro ρ w hS hF hP K hK; (simp only [Act.put, List.setIfInBounds_toArray, List.set_cons_zero, List.set_cons_succ] at hK); go_simp; exact hK _ _ ⟨_, rfl, hS.1.size, Blk.new _ _ [.int .i64 0, .string ⟨#[]⟩, .int .i64 0, .int .i64 0, .string ⟨#[]⟩, .slice none 0 0, .int .i64 0, .int .i64 0, .string ⟨#[]⟩, .slice none 0 0, .slice none 0 0, .slice none 0 0]⟩ (keepS _ (below_alloc hS.1 _)) (below_alloc (Below.refl _ _) _))); (simp only [Act.put, List.setIfInBounds_toArray, List.set_cons_zero, List.set_cons_succ]))
  (refine fsettle_float (FZu W.heap.size 3 [.int .i64 0]) (fun v w w' ⟨g, h1, h2, h3⟩ k ↦ ⟨g, h1, h2, k _ h3⟩) (by rfl) (by rfl) (by rfl) (fun _ => by rfl) ?_ ?_; (focus (intro ρ w hS hF hP K hK; (simp only [Act.put, List.setIfInBounds_toArray, List.set_cons_zero, List.set_cons_succ] at hK); go_simp; exact hK _ _ ⟨_, rfl, hS.1.size, Blk.new _ _ [.int .i64 0]⟩ (keepS _ (below_alloc hS.1 _)) (below_alloc (Below.refl _ _) _))); (simp only [Act.put, List.setIfInBounds_toArray, List.set_cons_zero, List.set_cons_succ]))
  (refine fsettle_turn (v := undef) (by rfl) (fun _ => by rfl) ?_ ?_; (focus (intro ρ w hS hF hP K hK; (simp only [Act.put, List.setIfInBounds_toArray, List.set_cons_zero, List.set_cons_succ] at hK); (obtain ⟨S, hv, hg1, hB⟩ := hF.2.1 (by rfl); refine wp_put_blk hB [.int .i64 kd, .string nm, .int .i64 ak, .int .i64 an, .string sa, .slice aA al ac, .int .i64 bk, .int .i64 bn, .string sb, .slice bA bl bc, .slice D dl dc, .slice E el ec] (by kernel_rfl) rfl (stcells_oneU kd nm ak an sa aA al ac bk bn sb bA bl bc D dl dc E el ec) rfl hv rfl ?_; intro w5 hB5 hg5; exact hK _ (keepS _ (hS.1.trans (below_of_grown hg5 hS.1.size hg1))) ⟨S, hv, hg1, hB5⟩ (fun q hq => hq.grown hg5 (fun e => by injection e with e; subst e; exact absurd (blk_type hq hB) (by decide)))))); (simp only [Act.put, List.setIfInBounds_toArray, List.set_cons_zero, List.set_cons_succ]))
  refine fsettle_nil ?_
  intro ρ w4 hS hI hF hG
  obtain ⟨S, e11, hSg, q0⟩ := hI
  obtain ⟨H, e12, hHg, q1⟩ := hG 12 (FZu W.heap.size 3 [.int .i64 0]) (by repeat (first | exact List.mem_cons_self | apply List.mem_cons_of_mem))
  have hne : S ≠ H := fun e => by subst e; exact absurd (blk_type q1 q0) (by decide)
  have hb4 := hS.1
  clear hF hG keepS hS0 hS hgL' d0 d1 d2 d3 d4 d5 d6 d7 d8 d9 d10 d11 k1
  dsimp only
  rw [e11, e12]
  clear e11 e12
  refine wpl_set_blk q1 0 (.int .i64 ((l + LB : Nat) : Int)) (by kernel_rfl) (by decide) rfl rfl rfl rfl rfl rfl ?_
  intro w6 hB6 hg6
  have hU : AtU w g F B w6 Q S H (.func (.func id) #[] caps) (l + LB) rest k kd nm ak an sa aA al ac bk bn sb bA bl bc D dl dc E el ec ea eb body els := by
    obtain ⟨hb0, x0, x1, x2, x3, hq⟩ := HB.out
    obtain ⟨xa, xb, pb, pe, pr, hbl, hv, hk, hg⟩ := HW.out
    have hbW6 : Below W.heap.size W w6 := hb4.trans (below_of_grown hg6 (B := W.heap.size) hb4.size hHg)
    have hbw6 : Below w.heap.size w w6 := hb0.trans (hbW6.mono hb0.size)
    have hkw6 : Keeps (fun i => i = g) w w6 := Keeps.of_below hbw6 _
    have hWs := hb0.size
    obtain ⟨hLB, hsz, hlab1, hlab2, hlab3, hz, hl⟩ := HL.out
    refine ⟨hbw6, hg, hq, by omega, by omega, ((x0.below hbW6).cell 0).trans rfl, ((x2.below hbW6).cell 0).trans rfl, (hB6.cell 0).trans rfl, x3.below hbW6, q0.grown hg6 (by intro e; injection e with e; exact hne e), fun w1 hk1 VE' ce' zs' hv' hz' => ?_, fun w1 hk1 => xa.later ((hkw6.trans hk1).below (by omega) (fun i hi => by omega)), fun w1 hk1 => xb.later ((hkw6.trans hk1).below (by omega) (fun i hi => by omega)), fun w1 hk1 => pb.keepU (hkw6.trans hk1) hB hg, fun w1 hk1 => pe.keepU (hkw6.trans hk1) hB hg⟩
    have hk01 := hkw6.trans hk1
    refine on_any rest (HI.out rest (by omega)) w1 B n c g F gA o _ VE' ce' zs' (l + LB) k Q (Q + 1) H (Q + 1 + 1) (pr.keepU hk01 hB hg) hnc hc hB (Nat.lt_of_lt_of_le hg hk01.size) hF hv' hz' (by omega) (hk.keep hk01) ?_ ?_ ?_ ?_ (by omega) (by omega) (by omega) (by omega)
    · exact hk1.cell (((x0.below hbW6).cell 0).trans rfl) (by show Q ≠ g; omega)
    · exact hk1.cell (((x1.below hbW6).cell 0).trans rfl) (by show Q + 1 ≠ g; omega)
    · exact hk1.cell ((hB6.cell 0).trans rfl) (by show H ≠ g; omega)
    · exact hk1.cell (((x2.below hbW6).cell 0).trans rfl) (by show Q + 1 + 1 ≠ g; omega)
  have HU := Lib.hid hU
  clear hB6 hg6 hU q0 q1 hne hSg hHg hb4 hwr hc1
  generalize w6 = W6 at HU ⊢
  have s0 : W6.cell? ⟨S, 0, none⟩ = some (.int .i64 kd) := (HU.out.st.cell 0).trans rfl
  have u0 := HU.out.c0
  have hgw := HU.out.gw
  have hqg : Q + 1 + 1 + 1 ≠ g := by have := HU.out.hQ; omega
  have hwq : w.heap.size ≤ Q + 1 + 1 + 1 := by have := HU.out.hQ; omega
  rcases hlt : decide (kd < 1) with _ | _
  · rcases hgt : decide (7 < kd) with _ | _
    · have h1k : 1 ≤ kd := by have := of_decide_eq_false hlt; omega
      have h7k : kd ≤ 7 := by have := of_decide_eq_false hgt; omega
      have hmore := Un.un_more h1k h7k nm.data.toList ea eb body els rest (Ex.bs zs) l k m HW.out.2.2.2.2.2.2.2.1.on
      rw [← HR.out] at hmore
      have bl6 := HW.out.2.2.2.2.2.1.below HU.out.below
      by_cases hst : m.steps = F
      · have hg2 := ustep_out W6 g F m bl6 hf.len hst
        have hend : F < R.2.steps := by omega
        have HH := Lib.hid hend
        clear hend hmore hst bl6
        go_wp2_with fail
        refine hg2.mono ?_
        rintro e w1 ⟨rfl, hb1⟩
        go_wp2
        exact ⟨rfl, un_stop (Keeps.of_below HU.out.below _) HH.out (Keeps.of_below hb1 _)⟩
      · have hfs : Sr.Fit F m.step := ⟨hf.len, hf.rg, by have := hf.st; show m.steps + 1 ≤ F; omega, by have := hf.tr; show m.trace.length ≤ m.steps + 1; omega⟩
        have hg2 := ustep_ok W6 g F m bl6 hf.len (by have := hf.st; omega) hF
        clear hmore hst bl6
        go_wp2_with fail
        refine hg2.mono ?_
        rintro e w1 ⟨rfl, bl1, hg1⟩
        have hk61 : Keeps (fun i => i = g) W6 w1 := (Keeps.of_grown hg1).mono fun i hi => by injection hi
        have hSg : S ≠ g := by have := HU.out.hS; omega
        have hQg : Q ≠ g := by have := HU.out.hQ; omega
        obtain ⟨ya, hya⟩ : ∃ ya, ya = Ex.evl (Ex.bs zs) ea := ⟨_, rfl⟩
        have hry : Ex.rng ya := by rw [hya]; exact HT.out.1
        have hkw6 : Keeps (fun i => i = g) w W6 := Keeps.of_below HU.out.below _
        have gE : ∀ w', Keeps (fun i => i = g) W6 w' → Calls Tryd.prog 112 #[.agg #[.int .i64 ak, .int .i64 an, .string sa, .slice aA al ac], .slice VE zs.length ce] w' fun r w'' => r = .returned (.int .i64 ya) ∧ Below w'.heap.size w' w'' := fun w' hk => by
          rw [hya]
          exact eval_ok (.slice VE zs.length ce) zs (by have := HL.out; omega) ea w' _ ((HU.out.xa w' hk).up (by have := hk.size; have := HU.out.below.size; omega)) (HW.out.2.2.2.2.2.2.1.keep (hkw6.trans hk)).sl
        have HY := Lib.hid (And.intro hya hry)
        have hce := HT.out.2.2.1
        have st1 := HU.out.st.keeps hk61 hSg
        clear hya hry hg2 hg1 s0 u0 hkw6
        have s0 := (st1.cell 0).trans rfl
        have s1 : w1.cell? ⟨S, 1, none⟩ = some (.string nm) := (st1.cell 1).trans rfl
        have s2 : w1.cell? ⟨S, 2, none⟩ = some (.int .i64 ak) := (st1.cell 2).trans rfl
        have s3 : w1.cell? ⟨S, 3, none⟩ = some (.int .i64 an) := (st1.cell 3).trans rfl
        have s4 : w1.cell? ⟨S, 4, none⟩ = some (.string sa) := (st1.cell 4).trans rfl
        have s5 : w1.cell? ⟨S, 5, none⟩ = some (.slice aA al ac) := (st1.cell 5).trans rfl
        have s6 : w1.cell? ⟨S, 6, none⟩ = some (.int .i64 bk) := (st1.cell 6).trans rfl
        have s7 : w1.cell? ⟨S, 7, none⟩ = some (.int .i64 bn) := (st1.cell 7).trans rfl
        have s8 : w1.cell? ⟨S, 8, none⟩ = some (.string sb) := (st1.cell 8).trans rfl
        have s9 : w1.cell? ⟨S, 9, none⟩ = some (.slice bA bl bc) := (st1.cell 9).trans rfl
        have s10 : w1.cell? ⟨S, 10, none⟩ = some (.slice D dl dc) := (st1.cell 10).trans rfl
        have s11 : w1.cell? ⟨S, 11, none⟩ = some (.slice E el ec) := (st1.cell 11).trans rfl
        go_wp2_with fail
        refine (gE w1 hk61).mono ?_
        rintro e w2 ⟨rfl, hb2⟩
        have hk62 := hk61.trans (Keeps.of_below hb2 (fun i => i = g))
        have st2 := HU.out.st.keeps hk62 hSg
        have env2 := HW.out.2.2.2.2.2.2.1.keep ((Keeps.of_below HU.out.below (fun i => i = g)).trans hk62)
        have bl2 := bl1.below hb2
        have u0 := hk62.cell HU.out.c0 hQg
        clear s0 s1 s2 s3 s4 s5 s6 s7 s8 s9 s10 s11 st1 bl1 hk61 hb2 gE
        have s0 := (st2.cell 0).trans rfl
        have s1 : w2.cell? ⟨S, 1, none⟩ = some (.string nm) := (st2.cell 1).trans rfl
        have s2 : w2.cell? ⟨S, 2, none⟩ = some (.int .i64 ak) := (st2.cell 2).trans rfl
        have s3 : w2.cell? ⟨S, 3, none⟩ = some (.int .i64 an) := (st2.cell 3).trans rfl
        have s4 : w2.cell? ⟨S, 4, none⟩ = some (.string sa) := (st2.cell 4).trans rfl
        have s5 : w2.cell? ⟨S, 5, none⟩ = some (.slice aA al ac) := (st2.cell 5).trans rfl
        have s6 : w2.cell? ⟨S, 6, none⟩ = some (.int .i64 bk) := (st2.cell 6).trans rfl
        have s7 : w2.cell? ⟨S, 7, none⟩ = some (.int .i64 bn) := (st2.cell 7).trans rfl
        have s8 : w2.cell? ⟨S, 8, none⟩ = some (.string sb) := (st2.cell 8).trans rfl
        have s9 : w2.cell? ⟨S, 9, none⟩ = some (.slice bA bl bc) := (st2.cell 9).trans rfl
        have s10 : w2.cell? ⟨S, 10, none⟩ = some (.slice D dl dc) := (st2.cell 10).trans rfl
        have s11 : w2.cell? ⟨S, 11, none⟩ = some (.slice E el ec) := (st2.cell 11).trans rfl
        have hk7 : kd = 1 ∨ kd = 2 ∨ kd = 3 ∨ kd = 4 ∨ kd = 5 ∨ kd = 6 ∨ kd = 7 := by omega
        clear hlt hgt h1k h7k
        rcases hk7 with rfl | rfl | rfl | rfl | rfl | rfl | rfl
        · have hr : Un.un rest (Ex.bs (zs ++ [(nm, ya)])) (l + LB) k m.step = R := by
            rw [HR.out, HL.out.1, (Sr.lab_cases 1 (St.labels body) (St.labels els)).1 rfl, Nat.add_zero, bs_snoc, HY.out.1]
            rfl
          have hlen : (zs ++ [(nm, ya)]).length = zs.length + 1 := by simp
          have gB := ubind_any w2 VE ce nm ya zs env2.sl hce.2.1 hce.2.2.1 hce.2.2.2 (by have := HL.out; omega)
          have HR' := Lib.hid hr
          have hry := HY.out.2
          clear hr
          go_wp2_with fail
          refine gB.mono ?_
          rintro e w3 ⟨v4, rfl, hrow, hb3⟩
          obtain ⟨V4, c4, rfl, -, -⟩ := own_slice hrow
          have hk63 : Keeps (fun i => i = g) W6 w3 := hk62.trans (Keeps.of_below hb3 _)
          have e3 : EnvAt w3 (fun i => i = g) (.slice V4 (zs.length + 1) c4) (zs ++ [(nm, ya)]) := env2.grown hry (fun j hj => by have := bl2.lt; omega) hrow
          have hOn := HU.out.on w3 hk63 V4 c4 (zs ++ [(nm, ya)]) (by rw [hlen]; exact e3) (by rw [hlen]; have := HL.out; omega)
          rw [hlen] at hOn
          have bl3 := bl2.below hb3
          clear gB hrow e3 env2 s0 s1 s2 s3 s4 s5 s6 s7 s8 s9 s10 s11
          go_wp2_with fail
          refine hOn.mono ?_
          rintro e w4 ⟨id2, caps2, rfl, hr2, hb4⟩
          obtain ⟨hcf2, h32⟩ := hr2.call
          have hk64 := hk63.trans (Keeps.of_below hb4 (fun i => i = g))
          have hkw4 : Keeps (fun i => i = g) w w4 := (Keeps.of_below HU.out.below _).trans hk64
          have hc2 := h32 w4 m.step (Keeps.refl _ _) (bl3.below hb4) hfs
          have hz2 := HU.out.z.keeps hk64 hqg
          clear hOn hr2 h32
          go_wp2_with fail
          refine (hc2.mono (fun e w2 h => UnEnd.mid (w := w) (q := Q + 1 + 1 + 1) hkw4 hwq hz2.lt hgw (HR'.out ▸ h))).mono ?_
          rintro e w5 (⟨cs, rfl, ⟨h5, h1⟩, hk5, hend⟩ | ⟨rfl, hend⟩)
          · have hz5 := hz2.keeps hk5 hqg
            have HE := Lib.hid (And.intro hend h5)
            clear hend
            go_wp2_with (first | (refine wpl_put_blk hz5 cs (by kernel_rfl) HE.out.2 h1 rfl rfl rfl rfl ?_; intro w6 hB6 hg6) | fail)
            exact ret_blk hB6 rfl rfl Tryd.underlying59 rfl (by rw [HE.out.2]; kernel_rfl) rfl (HE.out.1 w6 hg6)
          · go_wp2
            exact ⟨rfl, hend⟩
        · obtain ⟨cc, hcc⟩ : ∃ cc, cc = Sr.cell ya := ⟨_, rfl⟩
          obtain ⟨y, hy⟩ : ∃ y, y = m.heap.getD cc 0 := ⟨_, rfl⟩
          have hcc8 : cc < 8 := by rw [hcc]; exact Sr.cell_lt ya
          have hry : Ex.rng y := by rw [hy]; exact Sr.getD_rng hf.rg cc
          obtain ⟨kk, hkk⟩ : ∃ kk : Sr.M → Sp.T × Sr.M, kk = fun m => Un.un rest (Ex.bs (zs ++ [(nm, y)])) (l + LB) k m := ⟨_, rfl⟩
          have hr : Un.seq false (.one (cc : Int) false (l : Int)) (kk (m.step.acc cc false l)) = R := by
            rw [hkk, HR.out, HL.out.1, (Sr.lab_cases 2 (St.labels body) (St.labels els)).2.1 rfl, bs_snoc, hy, hcc, HY.out.1]
            rfl
          have hlen : (zs ++ [(nm, y)]).length = zs.length + 1 := by simp
          have hzl := HL.out.2.2.2.2.2.1
          have hfa : Sr.Fit F (m.step.acc cc false l) := ⟨hfs.len, hfs.rg, hfs.st, by have := hf.tr; simp [Sr.M.acc, Sr.M.step]; omega⟩
          have hx0 : ∀ w', Below w2.heap.size w2 w' → w'.cell? ⟨g, cc, none⟩ = some (.int .i64 y) := fun w' hb => by
            rw [((bl2.below hb).cell cc).trans ((Un.bcells_get (F := F) hfs.len).1 cc hcc8), hy]
            rfl
          have keepS : ∀ w', Below w2.heap.size w2 w' → (Below w2.heap.size w2 w' ∧ w'.cell? ⟨Q, 0, none⟩ = some (.pointer (some ⟨g, 0, none⟩)) ∧ w'.cell? ⟨S, 1, none⟩ = some (.string nm) ∧ w'.cell? ⟨g, cc, none⟩ = some (.int .i64 y)) := fun w' hb => ⟨hb, (hb.cell (World.block_lt_of_cell? _ _ u0)).trans u0, (hb.cell (World.block_lt_of_cell? _ _ s1)).trans s1, hx0 w' hb⟩
          have hS0 := keepS _ (below_drew (Below.refl _ _))
          have gB : ∀ w', Below w2.heap.size w2 w' → Calls Tryd.prog 113 #[.slice VE zs.length ce, .string nm, .int .i64 y] w' fun e w'' => ∃ v4, e = .returned v4 ∧ w''.ownsRow w'.heap.size 203 2 v4 (zs.length + 1) (Ex.bindcs zs ++ Ex.bindc (nm, y)) ∧ Below w'.heap.size w' w'' := fun w' hb =>
            ubind_any w' VE ce nm y zs (env2.later hb).sl hce.2.1 hce.2.2.1 hce.2.2.2 (by omega)
          have hgw2 : g < w2.heap.size := bl2.lt
          have gO : ∀ w' (V4 : Option Addr) (c4 : Nat), Below w2.heap.size w2 w' → w'.ownsRow w2.heap.size 203 2 (.slice V4 (zs.length + 1) c4) (zs.length + 1) (Ex.bindcs zs ++ Ex.bindc (nm, y)) → Calls Tryd.prog 109 #[.slice V4 (zs.length + 1) c4, .pointer (some ⟨Q, 0, none⟩), .pointer (some ⟨Q + 1, 0, none⟩), .pointer (some ⟨H, 0, none⟩), .pointer (some ⟨Q + 1 + 1, 0, none⟩)] w' fun e w2 => ∃ id caps, e = .returned (.func (.func id) #[] caps) ∧ RestOK w2 g F kk (.func (.func id) #[] caps) ∧ Below w'.heap.size w' w2 := fun w' V4 c4 hb hrow => by
            have e3 : EnvAt w' (fun i => i = g) (.slice V4 (zs.length + 1) c4) (zs ++ [(nm, y)]) := env2.grown hry (fun j hj => by omega) hrow
            have := HU.out.on w' (hk62.trans (Keeps.of_below hb _)) V4 c4 (zs ++ [(nm, y)]) (by rw [hlen]; exact e3) (by rw [hlen]; have := HL.out; omega)
            rw [hlen, ← hkk] at this
            exact this
          have hci : (cc : Int) < 8 := by omega
          have gC := cell_any ya w2
          rw [← hcc] at gC
          have HR' := Lib.hid (And.intro hr (And.intro hfa (And.intro hk62 (And.intro bl2 (And.intro hcc8 hlen)))))
          clear hr hcc hy hcc8 hry hfa hx0 env2 hlen bl2 hk62 hzl st2 hkk
          go_wp2_with fail
          refine gC.mono ?_
          rintro e w' ⟨rfl, rfl⟩
          go_wp2_with fail
          clear s0 s1 s2 s3 s4 s5 s6 s7 s8 s9 s10 s11
          refine wp_walk_tail 15 (by kernel_rfl) (by kernel_rfl) (fun w w' => Below w.heap.size w w') (fun w' => (Below w2.heap.size w2 w' ∧ w'.cell? ⟨Q, 0, none⟩ = some (.pointer (some ⟨g, 0, none⟩)) ∧ w'.cell? ⟨S, 1, none⟩ = some (.string nm) ∧ w'.cell? ⟨g, cc, none⟩ = some (.int .i64 y))) hS0 ?_
          simp only [List.length_cons, List.length_nil, Nat.reduceAdd, Nat.reduceSub, List.take_succ_cons, List.take_zero, List.drop_succ_cons, List.drop_zero]
          repeat (first | (refine settle_skip (fun _ => by rfl) ?_; (simp only [Act.put, List.setIfInBounds_toArray, List.set_cons_zero, List.set_cons_succ])) | (refine' settle_run (fun _ _ => Below.refl _ _) (fun _ => by rfl) ?_ ?_; rotate_left; (focus (intro ρ w hS hF; (try dsimp only at hS); go_split_ands; go_simp; try with_reducible rfl)); (simp only [Act.put, List.setIfInBounds_toArray, List.set_cons_zero, List.set_cons_succ])))
          (refine settle_known (FRow w2.heap.size 203 2 (zs.length + 1) (Ex.bindcs zs ++ Ex.bindc (nm, y))) (by rfl) (fun _ => by rfl)  ?_ ?_; (focus (intro ρ w hS hF K hK; (simp only [Act.put, List.setIfInBounds_toArray, List.set_cons_zero, List.set_cons_succ] at hK); go_simp; (go_at_call 113; refine (gB _ hS.1).mono ?_; rintro e w' ⟨v4, rfl, hown, hb'⟩; exact hK _ _ (own_base hown hS.1.size) (keepS _ (below_next hb' hS.1)) hb'))); (simp only [Act.put, List.setIfInBounds_toArray, List.set_cons_zero, List.set_cons_succ]))
          (refine settle_known (FRest g F kk) (by rfl) (fun _ => by rfl)  ?_ ?_; (focus (intro ρ w hS hF K hK; (simp only [Act.put, List.setIfInBounds_toArray, List.set_cons_zero, List.set_cons_succ] at hK); go_simp; (have hrow := hF.1 (by rfl); generalize ρ 80 = v80 at hrow hK ⊢; obtain ⟨V4, c4, rfl, -, -⟩ := own_slice hrow; refine (gO _ V4 c4 hS.1 hrow).mono ?_; rintro e w' ⟨id2, caps2, rfl, hr2, hb'⟩; exact hK _ _ ⟨id2, caps2, rfl, hr2⟩ (keepS _ (below_next hb' hS.1)) hb'))); (simp only [Act.put, List.setIfInBounds_toArray, List.set_cons_zero, List.set_cons_succ]))
          repeat (first | (refine settle_skip (fun _ => by rfl) ?_; (simp only [Act.put, List.setIfInBounds_toArray, List.set_cons_zero, List.set_cons_succ])) | (refine' settle_run (fun _ _ => Below.refl _ _) (fun _ => by rfl) ?_ ?_; rotate_left; (focus (intro ρ w hS hF; (try dsimp only at hS); go_split_ands; go_simp; try with_reducible rfl)); (simp only [Act.put, List.setIfInBounds_toArray, List.set_cons_zero, List.set_cons_succ])))
          refine settle_nil ?_
          intro ρ w4 hS hF
          obtain ⟨id2, caps2, e81, hr2⟩ := hF 81 (FRest g F kk) (by repeat (first | exact List.mem_cons_self | apply List.mem_cons_of_mem))
          have hb4 := hS.1
          clear hF hS hS0 keepS gB gO
          dsimp only
          rw [e81]
          generalize ρ 80 = v80
          clear e81
          have hk64 := HR'.out.2.2.1.trans (Keeps.of_below hb4 (fun i => i = g))
          have hkw4 : Keeps (fun i => i = g) w w4 := (Keeps.of_below HU.out.below _).trans hk64
          have hz4 := HU.out.z.keeps hk64 hqg
          have hc2 := uone_any w4 g F cc l (m.step.acc cc false l) _ _ false hr2 (HR'.out.2.2.2.1.below hb4) HR'.out.2.1
          refine wpList_want rfl fun K hK => ?_
          go_simp
          refine (hc2.mono (fun e w2 h => UnEnd.mid (w := w) (q := Q + 1 + 1 + 1) hkw4 hwq hz4.lt hgw (HR'.out.1 ▸ h))).mono ?_
          rintro e w5 (⟨cs, rfl, ⟨h5, h1⟩, hk5, hend⟩ | ⟨rfl, hend⟩)
          · have hz5 := hz4.keeps hk5 hqg
            refine hK _ _ ?_
            refine wpl_put_blk hz5 cs (by kernel_rfl) h5 h1 rfl rfl rfl rfl ?_
            intro w6 hB6 hg6
            go_wp2
            exact ret_blk hB6 rfl rfl Tryd.underlying59 rfl (by rw [h5]; kernel_rfl) rfl (hend w6 hg6)
          · go_wp2
            exact ⟨rfl, hend⟩
        · obtain ⟨cc, hcc⟩ : ∃ cc, cc = Sr.cell ya := ⟨_, rfl⟩
          obtain ⟨yb, hyb⟩ : ∃ yb, yb = Ex.evl (Ex.bs zs) eb := ⟨_, rfl⟩
          have hcc8 : cc < 8 := by rw [hcc]; exact Sr.cell_lt ya
          have hryb : Ex.rng yb := by rw [hyb]; exact HT.out.2.1
          obtain ⟨kk, hkk⟩ : ∃ kk : Sr.M → Sp.T × Sr.M, kk = fun m => Un.un rest (Ex.bs zs) (l + LB) k m := ⟨_, rfl⟩
          have hr : Un.seq false (.one (cc : Int) true (l : Int)) (kk ((m.step.acc cc true l).put cc yb)) = R := by
            rw [hkk, HR.out, HL.out.1, (Sr.lab_cases 3 (St.labels body) (St.labels els)).2.2.1 rfl, hyb, hcc, HY.out.1]
            rfl
          have hfa : Sr.Fit F ((m.step.acc cc true l).put cc yb) := ⟨by simp [Sr.M.put, Sr.M.acc, Sr.M.step, hf.len], fun x hx => by
              rcases List.mem_or_eq_of_mem_set hx with hx | rfl
              · exact hf.rg x hx
              · exact hryb, hfs.st, by have := hf.tr; simp [Sr.M.put, Sr.M.acc, Sr.M.step]; omega⟩
          have gE : ∀ w', Below w2.heap.size w2 w' → Calls Tryd.prog 112 #[.agg #[.int .i64 bk, .int .i64 bn, .string sb, .slice bA bl bc], .slice VE zs.length ce] w' fun r w'' => r = .returned (.int .i64 yb) ∧ Below w'.heap.size w' w'' := fun w' hb => by
            rw [hyb]
            have hk := hk62.trans (Keeps.of_below hb (fun i => i = g))
            exact eval_ok (.slice VE zs.length ce) zs (by have := HL.out; omega) eb w' _ ((HU.out.xb w' hk).up (by have := hk.size; have := HU.out.below.size; omega)) (env2.later hb).sl
          have keepS : ∀ w', Below w2.heap.size w2 w' → (Below w2.heap.size w2 w' ∧ w'.cell? ⟨Q, 0, none⟩ = some (.pointer (some ⟨g, 0, none⟩)) ∧ w'.cell? ⟨S, 6, none⟩ = some (.int .i64 bk) ∧ w'.cell? ⟨S, 7, none⟩ = some (.int .i64 bn) ∧ w'.cell? ⟨S, 8, none⟩ = some (.string sb) ∧ w'.cell? ⟨S, 9, none⟩ = some (.slice bA bl bc)) := fun w' hb => ⟨hb, (hb.cell (World.block_lt_of_cell? _ _ u0)).trans u0, (hb.cell (World.block_lt_of_cell? _ _ s6)).trans s6, (hb.cell (World.block_lt_of_cell? _ _ s7)).trans s7, (hb.cell (World.block_lt_of_cell? _ _ s8)).trans s8, (hb.cell (World.block_lt_of_cell? _ _ s9)).trans s9⟩
          have hS0 := keepS _ (below_drew (Below.refl _ _))
          have hgw2 : g < w2.heap.size := bl2.lt
          have hci : (cc : Int) < 8 := by omega
          have gC := cell_any ya w2
          rw [← hcc] at gC
          have HR' := Lib.hid (And.intro hr (And.intro hfa (And.intro hk62 (And.intro bl2 (And.intro hcc8 (And.intro hkk env2))))))
          clear hr hcc hyb hcc8 hryb hfa env2 bl2 hk62 st2 hkk
          go_wp2_with fail
          refine gC.mono ?_
          rintro e w' ⟨rfl, rfl⟩
          go_wp2_with fail
          clear s0 s1 s2 s3 s4 s5 s6 s7 s8 s9 s10 s11
          refine wp_walk_tail 9 (by kernel_rfl) (by kernel_rfl) (fun w w' => Below w.heap.size w w') (fun w' => (Below w2.heap.size w2 w' ∧ w'.cell? ⟨Q, 0, none⟩ = some (.pointer (some ⟨g, 0, none⟩)) ∧ w'.cell? ⟨S, 6, none⟩ = some (.int .i64 bk) ∧ w'.cell? ⟨S, 7, none⟩ = some (.int .i64 bn) ∧ w'.cell? ⟨S, 8, none⟩ = some (.string sb) ∧ w'.cell? ⟨S, 9, none⟩ = some (.slice bA bl bc))) hS0 ?_
          simp only [List.length_cons, List.length_nil, Nat.reduceAdd, Nat.reduceSub, List.take_succ_cons, List.take_zero, List.drop_succ_cons, List.drop_zero]
          repeat (first | (refine settle_skip (fun _ => by rfl) ?_; (simp only [Act.put, List.setIfInBounds_toArray, List.set_cons_zero, List.set_cons_succ])) | (refine' settle_run (fun _ _ => Below.refl _ _) (fun _ => by rfl) ?_ ?_; rotate_left; (focus (intro ρ w hS hF; (try dsimp only at hS); go_split_ands; go_simp; try with_reducible rfl)); (simp only [Act.put, List.setIfInBounds_toArray, List.set_cons_zero, List.set_cons_succ])))
          (refine' settle_step (fun _ => by rfl) ?_ ?_; rotate_left; (focus (intro ρ w hS hF K hK; (simp only [Act.put, List.setIfInBounds_toArray, List.set_cons_zero, List.set_cons_succ] at hK); go_simp; go_at_call 112; refine (gE _ hS.1).mono ?_; rintro e w' ⟨rfl, hb'⟩; have hS' := keepS _ (below_next hb' hS.1); have hE' := hb'; exact hK _ hS' hE')); (simp only [Act.put, List.setIfInBounds_toArray, List.set_cons_zero, List.set_cons_succ]))
          repeat (first | (refine settle_skip (fun _ => by rfl) ?_; (simp only [Act.put, List.setIfInBounds_toArray, List.set_cons_zero, List.set_cons_succ])) | (refine' settle_run (fun _ _ => Below.refl _ _) (fun _ => by rfl) ?_ ?_; rotate_left; (focus (intro ρ w hS hF; (try dsimp only at hS); go_split_ands; go_simp; try with_reducible rfl)); (simp only [Act.put, List.setIfInBounds_toArray, List.set_cons_zero, List.set_cons_succ])))
          refine settle_nil ?_
          intro ρ w4 hS hF
          have hb4 := hS.1
          clear hF hS hS0 keepS gE
          dsimp only
          have bl4 := HR'.out.2.2.2.1.below hb4
          refine wpl_set_blk bl4 cc (.int .i64 yb) (by kernel_rfl) (by simp [Un.bcells, ints_length, hfs.len]; have := HR'.out.2.2.2.2.1; omega) rfl rfl rfl rfl rfl rfl ?_
          intro w5 hB5 hg5
          have bl5 : Blk w5 g 126 (Un.bcells F ((m.step.acc cc true l).put cc yb)) := by
            have := hB5
            rw [Un.bcells_put hfs.len cc HR'.out.2.2.2.2.1] at this
            exact this
          have hk65 : Keeps (fun i => i = g) W6 w5 := (HR'.out.2.2.1.trans (Keeps.of_below hb4 _)).trans ((Keeps.of_grown hg5).mono fun i hi => by injection hi)
          have u5 := hk65.cell HU.out.c0 hQg
          have gO : ∀ w', Below w5.heap.size w5 w' → Calls Tryd.prog 109 #[.slice VE zs.length ce, .pointer (some ⟨Q, 0, none⟩), .pointer (some ⟨Q + 1, 0, none⟩), .pointer (some ⟨H, 0, none⟩), .pointer (some ⟨Q + 1 + 1, 0, none⟩)] w' fun e w2 => ∃ id caps, e = .returned (.func (.func id) #[] caps) ∧ RestOK w2 g F kk (.func (.func id) #[] caps) ∧ Below w'.heap.size w' w2 := fun w' hb => by
            have hk := hk65.trans (Keeps.of_below hb (fun i => i = g))
            have := HU.out.on w' hk VE ce zs (HW.out.2.2.2.2.2.2.1.keep ((Keeps.of_below HU.out.below (fun i => i = g)).trans hk)) (by have := HL.out; omega)
            rw [← HR'.out.2.2.2.2.2.1] at this
            exact this
          have keepS : ∀ w', Below w5.heap.size w5 w' → (Below w5.heap.size w5 w' ∧ w'.cell? ⟨Q, 0, none⟩ = some (.pointer (some ⟨g, 0, none⟩))) := fun w' hb => ⟨hb, (hb.cell (World.block_lt_of_cell? _ _ u5)).trans u5⟩
          have hS0 := keepS _ (below_drew (Below.refl _ _))
          have HB5 := Lib.hid (And.intro bl5 hk65)
          clear bl4 hB5 hg5 bl5 hk65 u5 u0 hb4
          go_wp2_with fail
          refine wp_walk_tail 6 (by kernel_rfl) (by kernel_rfl) (fun w w' => Below w.heap.size w w') (fun w' => (Below w5.heap.size w5 w' ∧ w'.cell? ⟨Q, 0, none⟩ = some (.pointer (some ⟨g, 0, none⟩)))) hS0 ?_
          simp only [List.length_cons, List.length_nil, Nat.reduceAdd, Nat.reduceSub, List.take_succ_cons, List.take_zero, List.drop_succ_cons, List.drop_zero]
          repeat (first | (refine settle_skip (fun _ => by rfl) ?_; (simp only [Act.put, List.setIfInBounds_toArray, List.set_cons_zero, List.set_cons_succ])) | (refine' settle_run (fun _ _ => Below.refl _ _) (fun _ => by rfl) ?_ ?_; rotate_left; (focus (intro ρ w hS hF; (try dsimp only at hS); go_split_ands; go_simp; try with_reducible rfl)); (simp only [Act.put, List.setIfInBounds_toArray, List.set_cons_zero, List.set_cons_succ])))
          (refine settle_known (FRest g F kk) (by rfl) (fun _ => by rfl)  ?_ ?_; (focus (intro ρ w hS hF K hK; (simp only [Act.put, List.setIfInBounds_toArray, List.set_cons_zero, List.set_cons_succ] at hK); go_simp; (refine (gO _ hS.1).mono ?_; rintro e w' ⟨id2, caps2, rfl, hr2, hb'⟩; exact hK _ _ ⟨id2, caps2, rfl, hr2⟩ (keepS _ (below_next hb' hS.1)) hb'))); (simp only [Act.put, List.setIfInBounds_toArray, List.set_cons_zero, List.set_cons_succ]))
          repeat (first | (refine settle_skip (fun _ => by rfl) ?_; (simp only [Act.put, List.setIfInBounds_toArray, List.set_cons_zero, List.set_cons_succ])) | (refine' settle_run (fun _ _ => Below.refl _ _) (fun _ => by rfl) ?_ ?_; rotate_left; (focus (intro ρ w hS hF; (try dsimp only at hS); go_split_ands; go_simp; try with_reducible rfl)); (simp only [Act.put, List.setIfInBounds_toArray, List.set_cons_zero, List.set_cons_succ])))
          refine settle_nil ?_
          intro ρ w6 hS hF
          obtain ⟨id2, caps2, e101, hr2⟩ := hF 101 (FRest g F kk) (by repeat (first | exact List.mem_cons_self | apply List.mem_cons_of_mem))
          have hb6 := hS.1
          clear hF hS hS0 keepS gO
          dsimp only
          rw [e101]
          clear e101
          have hk66 := HB5.out.2.trans (Keeps.of_below hb6 (fun i => i = g))
          have hkw6 : Keeps (fun i => i = g) w w6 := (Keeps.of_below HU.out.below _).trans hk66
          have hz6 := HU.out.z.keeps hk66 hqg
          have hc2 := uone_any w6 g F cc l _ _ _ true hr2 (HB5.out.1.below hb6) HR'.out.2.1
          refine wpList_want rfl fun K hK => ?_
          go_simp
          refine (hc2.mono (fun e w2 h => UnEnd.mid (w := w) (q := Q + 1 + 1 + 1) hkw6 hwq hz6.lt hgw (HR'.out.1 ▸ h))).mono ?_
          rintro e w5 (⟨cs, rfl, ⟨h5, h1⟩, hk5, hend⟩ | ⟨rfl, hend⟩)
          · have hz5 := hz6.keeps hk5 hqg
            refine hK _ _ ?_
            refine wpl_put_blk hz5 cs (by kernel_rfl) h5 h1 rfl rfl rfl rfl ?_
            intro w6 hB6 hg6
            go_wp2
            exact ret_blk hB6 rfl rfl Tryd.underlying59 rfl (by rw [h5]; kernel_rfl) rfl (hend w6 hg6)
          · go_wp2
            exact ⟨rfl, hend⟩
        · obtain ⟨kk, hkk⟩ : ∃ kk : Sr.M → Sp.T × Sr.M, kk = fun m => Un.un rest (Ex.bs zs) (l + LB) k m := ⟨_, rfl⟩
          obtain ⟨sb1, hsb⟩ : ∃ x, x = (Un.un body (Ex.bs zs) l Un.k0 m.step).1 := ⟨_, rfl⟩
          obtain ⟨m2, hm2⟩ : ∃ x, x = (Un.un body (Ex.bs zs) l Un.k0 m.step).2 := ⟨_, rfl⟩
          have hr : Un.seq true sb1 (kk m2) = R := by
            rw [hkk, HR.out, HL.out.1, (Sr.lab_cases 4 (St.labels body) (St.labels els)).2.2.2.1 (by omega), hsb, hm2]
            rfl
          have hon2 : m2.steps ≤ R.2.steps := by
            rw [← hr]
            show m2.steps ≤ (kk m2).2.steps
            rw [hkk]
            exact Un.un_on rest _ _ _ _ HW.out.2.2.2.2.2.2.2.1.on
          have hm2r : m2 = Sr.run body (Ex.bs zs) l m.step := by rw [hm2, Un.un_state]; rfl
          have hfit2 : m2.steps ≤ F → Sr.Fit F m2 := fun hs => by
            rw [hm2r] at hs ⊢
            exact hfs.on (Sr.run_on body _ _ _) (Sr.run_rng body (Ex.bs zs) l m.step HT.out.2.2.2.1 env2.rng hfs.rg) hs
          have hgw2 : g < w2.heap.size := bl2.lt
          have hq2 : Q + 1 + 1 + 1 < w2.heap.size := (HU.out.z.keeps hk62 hqg).lt
          have hkw2 : Keeps (fun i => i = g) w w2 := (Keeps.of_below HU.out.below _).trans hk62
          have hblk := HI.out body (by have := HL.out; omega) w2 B dl dc g F D (.func (.func 79) #[] #[]) (.slice VE zs.length ce) m.step zs l Un.k0 (HU.out.pb w2 hk62) hd.1 hd.2.1 hB bl2 hfs hF env2 (by have := HL.out; omega) (by have := HL.out; omega) (rest_nothing w2 g F hgw2)
          have hblk2 : Calls Tryd.prog 78 #[.pointer (some ⟨g, 0, none⟩), .slice D dl dc, .slice VE zs.length ce, .int .i64 (l : Int), .func (.func 79) #[] #[]] w2 (UnEnd w2 g F (sb1, m2)) := by
            rw [hsb, hm2]
            exact hblk
          have hrgv := hkk
          have HR' := Lib.hid (And.intro hr (And.intro hon2 (And.intro hfit2 (And.intro hk62 (And.intro env2 hrgv)))))
          clear hr hon2 hm2r hfit2 hblk hsb hm2 hkk hrgv env2 hk62 st2
          go_wp2_with fail
          refine hblk2.mono ?_
          rintro e w3 (⟨h1, ⟨cs, rfl, h2⟩, bl3, hk23⟩ | ⟨h1, rfl, hk23⟩)
          · obtain ⟨k9, c9, b9, l9, A9, n9, p9, rfl⟩ := h2.form_one (Ks.of_len _)
            have hf2 := HR'.out.2.2.1 h1
            have z17 := Blk.new w3 59 zterm
            have hbz : Below w3.heap.size w3 (w3.alloc (.cells zterm.toArray 59)) := below_alloc (Below.refl _ _) _
            have hz17s : w3.heap.size < (w3.alloc (.cells zterm.toArray 59)).heap.size := by simp
            obtain ⟨lo9, hlo9⟩ : ∃ x, x = w2.heap.size := ⟨_, rfl⟩
            rw [← hlo9] at h2 hgw2 hq2
            have hlo93 : lo9 ≤ w3.heap.size := by rw [hlo9]; exact hk23.size
            have hwlo : w.heap.size ≤ lo9 := by rw [hlo9]; exact hkw2.size
            have hk63 : Keeps (fun i => i = g) W6 w3 := HR'.out.2.2.2.1.trans hk23
            clear hblk2 h1 hkw2 hk23 bl2 s0 s1 s2 s3 s4 s5 s6 s7 s8 s9 s10 s11 u0 hlo9
            unfold zterm at z17 hbz hz17s
            unfold tcells at h2
            go_wp2_with (first | (refine wpl_put_blk z17 [.int .i64 k9, .int .i64 c9, .bool b9, .int .i64 l9, .slice A9 n9 p9] (by kernel_rfl) rfl (by intro v hv; simp at hv; rcases hv with rfl | rfl | rfl | rfl | rfl <;> rfl) rfl rfl rfl rfl ?_; intro w4 hB4 hg4) | fail)
            obtain ⟨q9, hq9⟩ : ∃ x, x = w3.heap.size := ⟨_, rfl⟩
            rw [← hq9] at hB4 hg4 ⊢
            have hb34 : Below w3.heap.size w3 w4 := hbz.trans (below_of_grown hg4 (by omega) (by omega))
            have hk64 := hk63.trans (Keeps.of_below hb34 (fun i => i = g))
            have hkn4 := h2.below hb34
            have bl4 := bl3.below hb34
            have hlo94 : lo9 ≤ w4.heap.size := by have := hb34.size; omega
            have hq9g : q9 ≠ g := by have := bl3.lt; omega
            have gO : ∀ w', Below w4.heap.size w4 w' → Calls Tryd.prog 109 #[.slice VE zs.length ce, .pointer (some ⟨Q, 0, none⟩), .pointer (some ⟨Q + 1, 0, none⟩), .pointer (some ⟨H, 0, none⟩), .pointer (some ⟨Q + 1 + 1, 0, none⟩)] w' fun e w2 => ∃ id caps, e = .returned (.func (.func id) #[] caps) ∧ RestOK w2 g F kk (.func (.func id) #[] caps) ∧ Below w'.heap.size w' w2 := fun w' hb => by
              have hk := hk64.trans (Keeps.of_below hb (fun i => i = g))
              have := HU.out.on w' hk VE ce zs (HW.out.2.2.2.2.2.2.1.keep ((Keeps.of_below HU.out.below (fun i => i = g)).trans hk)) (by have := HL.out; omega)
              rw [← HR'.out.2.2.2.2.2] at this
              exact this
            have hr := HR'.out.1
            clear z17 hbz hz17s hg4 h2 bl3 hk63 hb34 hlo93 hq9
            refine wp_region_any (by kernel_rfl) ?_
            change wpAny _ _ _ _ _ _ _ (World.drew _)
            have hb49 : Below w4.heap.size w4 w4.drew := below_drew (Below.refl _ _)
            have y9 := hB4.drew
            generalize w4.drew = W9 at hb49 y9 ⊢
            have t0 : W9.cell? ⟨q9, 0, none⟩ = some (.int .i64 k9) := (y9.cell 0).trans rfl
            have t1 : W9.cell? ⟨q9, 1, none⟩ = some (.int .i64 c9) := (y9.cell 1).trans rfl
            have t2 : W9.cell? ⟨q9, 2, none⟩ = some (.bool b9) := (y9.cell 2).trans rfl
            have t3 : W9.cell? ⟨q9, 3, none⟩ = some (.int .i64 l9) := (y9.cell 3).trans rfl
            have t4 : W9.cell? ⟨q9, 4, none⟩ = some (.slice A9 n9 p9) := (y9.cell 4).trans rfl
            refine wpAny_take (i := 1) (v := .func (.func 109) #[] #[.pointer (some ⟨Q, 0, none⟩), .pointer (some ⟨Q + 1, 0, none⟩), .pointer (some ⟨H, 0, none⟩), .pointer (some ⟨Q + 1 + 1, 0, none⟩)]) rfl (by kernel_rfl) (by kernel_rfl) (by kernel_rfl) (fun _ _ _ h => h) (Or.inl ⟨by rfl, (by intro w; go_simp)⟩) ?_
            refine wpAny_take (i := 2) (v := .slice VE zs.length ce) rfl (by kernel_rfl) (by kernel_rfl) (by kernel_rfl) (fun _ _ _ h => h) (Or.inl ⟨by rfl, (by intro w; go_simp)⟩) ?_
            refine wpAny_ready (rs := [0, 3]) (by kernel_rfl) (by simp) ?_
            refine AllReady.cons rfl (fun K hK => ?_) (AllReady.cons rfl (fun K hK => ?_) AllReady.nil)
            · go_simp
              refine hK _ _ ?_
              clear hK K
              refine wpAny_ready (rs := [3]) (by kernel_rfl) (by simp) (AllReady.cons rfl (fun K hK => ?_) AllReady.nil)
              go_simp
              refine (gO W9 hb49).mono ?_
              rintro e w5 ⟨id2, caps2, rfl, hr2, hb5⟩
              refine hK _ _ ?_
              clear hK K
              have hb45 := below_next hb5 hb49
              have hk65 := hk64.trans (Keeps.of_below hb45 (fun i => i = g))
              have hkw5 : Keeps (fun i => i = g) w w5 := (Keeps.of_below HU.out.below _).trans hk65
              obtain ⟨hcf2, h32⟩ := hr2.call
              have hc5 := h32 w5 m2 (Keeps.refl _ _) (bl4.below hb45) hf2
              have z5 := HU.out.z.keeps hk65 hqg
              clear gO hr2 h32
              refine wpAny_ready (rs := [4]) (by kernel_rfl) (by simp) (AllReady.cons rfl (fun K hK => ?_) AllReady.nil)
              go_simp
              refine hc5.mono ?_
              rintro e w6 (⟨h1, ⟨cs6, rfl, h26⟩, h3, h4⟩ | ⟨h1, rfl, h4⟩)
              · refine hK _ _ ?_
                clear hK K
                refine wpAny_ready (rs := [5]) (by kernel_rfl) (by simp) (AllReady.cons rfl (fun K hK => ?_) AllReady.nil)
                go_simp
                refine (two_rest (w := w) (w1 := w5) (par := true) (s := sb1) (r := kk m2) (q := Q + 1 + 1 + 1) 3 rfl hkw5 hwq z5.lt hgw lo9 (by omega) (by have := hb45.size; omega) (by omega) ((hkn4.below hb45).keepU h4 (by omega)) h1 h26 h3 h4).mono ?_
                rintro e w7 ⟨cs', rfl, ⟨h5, h6⟩, hb7, hend⟩
                refine hK _ _ ?_
                clear hK K
                have z7 := (z5.keeps h4 hqg).below hb7
                refine wpAny_ready (rs := [6]) (by kernel_rfl) (by simp) (AllReady.cons rfl (fun K hK => ?_) AllReady.nil)
                rw [if_pos (by rfl)]
                refine wp_put_blk z7 cs' (by kernel_rfl) h5 h6 rfl rfl rfl ?_
                intro w8 hB8 hg8
                refine hK _ _ ?_
                clear hK K
                refine wpAny_done (by kernel_rfl) ?_ _
                have hend8 := hend w8 hg8
                rw [hr] at hend8
                have HE8 := Lib.hid (And.intro hend8 h5)
                clear hend hend8
                go_wp2
                exact ret_blk hB8 rfl rfl Tryd.underlying59 rfl (by rw [HE8.out.2]; kernel_rfl) rfl HE8.out.1
              · go_wp2
                exact ⟨rfl, by rw [← hr]; exact un_stop (r := Un.seq true sb1 (kk m2)) hkw5 h1 h4⟩
            · clear t0 t1 t2 t3 t4
              go_simp
              refine (gO W9 hb49).mono ?_
              rintro e w5 ⟨id2, caps2, rfl, hr2, hb5⟩
              refine hK _ _ ?_
              clear hK K
              have hb45 := below_next hb5 hb49
              have hk65 := hk64.trans (Keeps.of_below hb45 (fun i => i = g))
              have hkw5 : Keeps (fun i => i = g) w w5 := (Keeps.of_below HU.out.below _).trans hk65
              obtain ⟨hcf2, h32⟩ := hr2.call
              have hc5 := h32 w5 m2 (Keeps.refl _ _) (bl4.below hb45) hf2
              have z5 := HU.out.z.keeps hk65 hqg
              clear gO hr2 h32
              have y5 := (y9.below hb5)
              refine wpAny_ready (rs := [0, 4]) (by kernel_rfl) (by simp) ?_
              refine AllReady.cons rfl (fun K hK => ?_) (AllReady.cons rfl (fun K hK => ?_) AllReady.nil)
              · have t0 : w5.cell? ⟨q9, 0, none⟩ = some (.int .i64 k9) := (y5.cell 0).trans rfl
                have t1 : w5.cell? ⟨q9, 1, none⟩ = some (.int .i64 c9) := (y5.cell 1).trans rfl
                have t2 : w5.cell? ⟨q9, 2, none⟩ = some (.bool b9) := (y5.cell 2).trans rfl
                have t3 : w5.cell? ⟨q9, 3, none⟩ = some (.int .i64 l9) := (y5.cell 3).trans rfl
                have t4 : w5.cell? ⟨q9, 4, none⟩ = some (.slice A9 n9 p9) := (y5.cell 4).trans rfl
                go_simp
                refine hK _ _ ?_
                clear hK K
                refine wpAny_ready (rs := [4]) (by kernel_rfl) (by simp) (AllReady.cons rfl (fun K hK => ?_) AllReady.nil)
                go_simp
                refine hc5.mono ?_
                rintro e w6 (⟨h1, ⟨cs6, rfl, h26⟩, h3, h4⟩ | ⟨h1, rfl, h4⟩)
                · refine hK _ _ ?_
                  clear hK K
                  refine wpAny_ready (rs := [5]) (by kernel_rfl) (by simp) (AllReady.cons rfl (fun K hK => ?_) AllReady.nil)
                  go_simp
                  refine (two_rest (w := w) (w1 := w5) (par := true) (s := sb1) (r := kk m2) (q := Q + 1 + 1 + 1) 3 rfl hkw5 hwq z5.lt hgw lo9 (by omega) (by have := hb45.size; omega) (by omega) ((hkn4.below hb45).keepU h4 (by omega)) h1 h26 h3 h4).mono ?_
                  rintro e w7 ⟨cs', rfl, ⟨h5, h6⟩, hb7, hend⟩
                  refine hK _ _ ?_
                  clear hK K
                  have z7 := (z5.keeps h4 hqg).below hb7
                  refine wpAny_ready (rs := [6]) (by kernel_rfl) (by simp) (AllReady.cons rfl (fun K hK => ?_) AllReady.nil)
                  rw [if_pos (by rfl)]
                  refine wp_put_blk z7 cs' (by kernel_rfl) h5 h6 rfl rfl rfl ?_
                  intro w8 hB8 hg8
                  refine hK _ _ ?_
                  clear hK K
                  refine wpAny_done (by kernel_rfl) ?_ _
                  have hend8 := hend w8 hg8
                  rw [hr] at hend8
                  have HE8 := Lib.hid (And.intro hend8 h5)
                  clear hend hend8
                  go_wp2
                  exact ret_blk hB8 rfl rfl Tryd.underlying59 rfl (by rw [HE8.out.2]; kernel_rfl) rfl HE8.out.1
                · go_wp2
                  exact ⟨rfl, by rw [← hr]; exact un_stop (r := Un.seq true sb1 (kk m2)) hkw5 h1 h4⟩
              · go_simp
                refine hc5.mono ?_
                rintro e w6 (⟨h1, ⟨cs6, rfl, h26⟩, h3, h4⟩ | ⟨h1, rfl, h4⟩)
                · refine hK _ _ ?_
                  clear hK K
                  have y6 := y5.keeps h4 hq9g
                  have t0 : w6.cell? ⟨q9, 0, none⟩ = some (.int .i64 k9) := (y6.cell 0).trans rfl
                  have t1 : w6.cell? ⟨q9, 1, none⟩ = some (.int .i64 c9) := (y6.cell 1).trans rfl
                  have t2 : w6.cell? ⟨q9, 2, none⟩ = some (.bool b9) := (y6.cell 2).trans rfl
                  have t3 : w6.cell? ⟨q9, 3, none⟩ = some (.int .i64 l9) := (y6.cell 3).trans rfl
                  have t4 : w6.cell? ⟨q9, 4, none⟩ = some (.slice A9 n9 p9) := (y6.cell 4).trans rfl
                  refine wpAny_ready (rs := [0]) (by kernel_rfl) (by simp) (AllReady.cons rfl (fun K hK => ?_) AllReady.nil)
                  go_simp
                  refine hK _ _ ?_
                  clear hK K
                  refine wpAny_ready (rs := [5]) (by kernel_rfl) (by simp) (AllReady.cons rfl (fun K hK => ?_) AllReady.nil)
                  go_simp
                  refine (two_rest (w := w) (w1 := w5) (par := true) (s := sb1) (r := kk m2) (q := Q + 1 + 1 + 1) 3 rfl hkw5 hwq z5.lt hgw lo9 (by omega) (by have := hb45.size; omega) (by omega) ((hkn4.below hb45).keepU h4 (by omega)) h1 h26 h3 h4).mono ?_
                  rintro e w7 ⟨cs', rfl, ⟨h5, h6⟩, hb7, hend⟩
                  refine hK _ _ ?_
                  clear hK K
                  have z7 := (z5.keeps h4 hqg).below hb7
                  refine wpAny_ready (rs := [6]) (by kernel_rfl) (by simp) (AllReady.cons rfl (fun K hK => ?_) AllReady.nil)
                  rw [if_pos (by rfl)]
                  refine wp_put_blk z7 cs' (by kernel_rfl) h5 h6 rfl rfl rfl ?_
                  intro w8 hB8 hg8
                  refine hK _ _ ?_
                  clear hK K
                  refine wpAny_done (by kernel_rfl) ?_ _
                  have hend8 := hend w8 hg8
                  rw [hr] at hend8
                  have HE8 := Lib.hid (And.intro hend8 h5)
                  clear hend hend8
                  go_wp2
                  exact ret_blk hB8 rfl rfl Tryd.underlying59 rfl (by rw [HE8.out.2]; kernel_rfl) rfl HE8.out.1
                · go_wp2
                  exact ⟨rfl, by rw [← hr]; exact un_stop (r := Un.seq true sb1 (kk m2)) hkw5 h1 h4⟩
          · have hlt' : F < R.2.steps := Nat.lt_of_lt_of_le h1 HR'.out.2.1
            clear hblk2
            go_wp2
            exact ⟨rfl, un_stop hkw2 hlt' hk23⟩
        · obtain ⟨kk, hkk⟩ : ∃ kk : Sr.M → Sp.T × Sr.M, kk = fun m => Un.un rest (Ex.bs zs) (l + LB) k m := ⟨_, rfl⟩
          obtain ⟨sb1, hsb⟩ : ∃ x, x = (Un.un body (Ex.bs zs) l Un.k0 m.step).1 := ⟨_, rfl⟩
          obtain ⟨m2, hm2⟩ : ∃ x, x = (Un.un body (Ex.bs zs) l Un.k0 m.step).2 := ⟨_, rfl⟩
          have hr : Un.seq false sb1 (kk m2) = R := by
            rw [hkk, HR.out, HL.out.1, (Sr.lab_cases 5 (St.labels body) (St.labels els)).2.2.2.1 (by omega), hsb, hm2]
            rfl
          have hon2 : m2.steps ≤ R.2.steps := by
            rw [← hr]
            show m2.steps ≤ (kk m2).2.steps
            rw [hkk]
            exact Un.un_on rest _ _ _ _ HW.out.2.2.2.2.2.2.2.1.on
          have hm2r : m2 = Sr.run body (Ex.bs zs) l m.step := by rw [hm2, Un.un_state]; rfl
          have hfit2 : m2.steps ≤ F → Sr.Fit F m2 := fun hs => by
            rw [hm2r] at hs ⊢
            exact hfs.on (Sr.run_on body _ _ _) (Sr.run_rng body (Ex.bs zs) l m.step HT.out.2.2.2.1 env2.rng hfs.rg) hs
          have hgw2 : g < w2.heap.size := bl2.lt
          have hq2 : Q + 1 + 1 + 1 < w2.heap.size := (HU.out.z.keeps hk62 hqg).lt
          have hkw2 : Keeps (fun i => i = g) w w2 := (Keeps.of_below HU.out.below _).trans hk62
          have hblk := HI.out body (by have := HL.out; omega) w2 B dl dc g F D (.func (.func 79) #[] #[]) (.slice VE zs.length ce) m.step zs l Un.k0 (HU.out.pb w2 hk62) hd.1 hd.2.1 hB bl2 hfs hF env2 (by have := HL.out; omega) (by have := HL.out; omega) (rest_nothing w2 g F hgw2)
          have hblk2 : Calls Tryd.prog 78 #[.pointer (some ⟨g, 0, none⟩), .slice D dl dc, .slice VE zs.length ce, .int .i64 (l : Int), .func (.func 79) #[] #[]] w2 (UnEnd w2 g F (sb1, m2)) := by
            rw [hsb, hm2]
            exact hblk
          have hrgv := hkk
          have HR' := Lib.hid (And.intro hr (And.intro hon2 (And.intro hfit2 (And.intro hk62 (And.intro env2 hrgv)))))
          clear hr hon2 hm2r hfit2 hblk hsb hm2 hkk hrgv env2 hk62 st2
          go_wp2_with fail
          refine hblk2.mono ?_
          rintro e w3 (⟨h1, ⟨cs, rfl, h2⟩, bl3, hk23⟩ | ⟨h1, rfl, hk23⟩)
          · obtain ⟨k9, c9, b9, l9, A9, n9, p9, rfl⟩ := h2.form_one (Ks.of_len _)
            have hf2 := HR'.out.2.2.1 h1
            have z17 := Blk.new w3 59 zterm
            have hbz : Below w3.heap.size w3 (w3.alloc (.cells zterm.toArray 59)) := below_alloc (Below.refl _ _) _
            have hz17s : w3.heap.size < (w3.alloc (.cells zterm.toArray 59)).heap.size := by simp
            obtain ⟨lo9, hlo9⟩ : ∃ x, x = w2.heap.size := ⟨_, rfl⟩
            rw [← hlo9] at h2 hgw2 hq2
            have hlo93 : lo9 ≤ w3.heap.size := by rw [hlo9]; exact hk23.size
            have hwlo : w.heap.size ≤ lo9 := by rw [hlo9]; exact hkw2.size
            have hk63 : Keeps (fun i => i = g) W6 w3 := HR'.out.2.2.2.1.trans hk23
            clear hblk2 h1 hkw2 hk23 bl2 s0 s1 s2 s3 s4 s5 s6 s7 s8 s9 s10 s11 u0 hlo9
            unfold zterm at z17 hbz hz17s
            unfold tcells at h2
            go_wp2_with (first | (refine wpl_put_blk z17 [.int .i64 k9, .int .i64 c9, .bool b9, .int .i64 l9, .slice A9 n9 p9] (by kernel_rfl) rfl (by intro v hv; simp at hv; rcases hv with rfl | rfl | rfl | rfl | rfl <;> rfl) rfl rfl rfl rfl ?_; intro w4 hB4 hg4) | fail)
            obtain ⟨q9, hq9⟩ : ∃ x, x = w3.heap.size := ⟨_, rfl⟩
            rw [← hq9] at hB4 hg4 ⊢
            have hb34 : Below w3.heap.size w3 w4 := hbz.trans (below_of_grown hg4 (by omega) (by omega))
            have hk64 := hk63.trans (Keeps.of_below hb34 (fun i => i = g))
            have hkn4 := h2.below hb34
            have bl4 := bl3.below hb34
            have hlo94 : lo9 ≤ w4.heap.size := by have := hb34.size; omega
            have hq9g : q9 ≠ g := by have := bl3.lt; omega
            have gO : ∀ w', Below w4.heap.size w4 w' → Calls Tryd.prog 109 #[.slice VE zs.length ce, .pointer (some ⟨Q, 0, none⟩), .pointer (some ⟨Q + 1, 0, none⟩), .pointer (some ⟨H, 0, none⟩), .pointer (some ⟨Q + 1 + 1, 0, none⟩)] w' fun e w2 => ∃ id caps, e = .returned (.func (.func id) #[] caps) ∧ RestOK w2 g F kk (.func (.func id) #[] caps) ∧ Below w'.heap.size w' w2 := fun w' hb => by
              have hk := hk64.trans (Keeps.of_below hb (fun i => i = g))
              have := HU.out.on w' hk VE ce zs (HW.out.2.2.2.2.2.2.1.keep ((Keeps.of_below HU.out.below (fun i => i = g)).trans hk)) (by have := HL.out; omega)
              rw [← HR'.out.2.2.2.2.2] at this
              exact this
            have hr := HR'.out.1
            clear z17 hbz hz17s hg4 h2 bl3 hk63 hb34 hlo93 hq9
            refine wp_region_any (by kernel_rfl) ?_
            change wpAny _ _ _ _ _ _ _ (World.drew _)
            have hb49 : Below w4.heap.size w4 w4.drew := below_drew (Below.refl _ _)
            have y9 := hB4.drew
            generalize w4.drew = W9 at hb49 y9 ⊢
            have t0 : W9.cell? ⟨q9, 0, none⟩ = some (.int .i64 k9) := (y9.cell 0).trans rfl
            have t1 : W9.cell? ⟨q9, 1, none⟩ = some (.int .i64 c9) := (y9.cell 1).trans rfl
            have t2 : W9.cell? ⟨q9, 2, none⟩ = some (.bool b9) := (y9.cell 2).trans rfl
            have t3 : W9.cell? ⟨q9, 3, none⟩ = some (.int .i64 l9) := (y9.cell 3).trans rfl
            have t4 : W9.cell? ⟨q9, 4, none⟩ = some (.slice A9 n9 p9) := (y9.cell 4).trans rfl
            refine wpAny_take (i := 1) (v := .func (.func 109) #[] #[.pointer (some ⟨Q, 0, none⟩), .pointer (some ⟨Q + 1, 0, none⟩), .pointer (some ⟨H, 0, none⟩), .pointer (some ⟨Q + 1 + 1, 0, none⟩)]) rfl (by kernel_rfl) (by kernel_rfl) (by kernel_rfl) (fun _ _ _ h => h) (Or.inl ⟨by rfl, (by intro w; go_simp)⟩) ?_
            refine wpAny_take (i := 2) (v := .slice VE zs.length ce) rfl (by kernel_rfl) (by kernel_rfl) (by kernel_rfl) (fun _ _ _ h => h) (Or.inl ⟨by rfl, (by intro w; go_simp)⟩) ?_
            refine wpAny_ready (rs := [0, 3]) (by kernel_rfl) (by simp) ?_
            refine AllReady.cons rfl (fun K hK => ?_) (AllReady.cons rfl (fun K hK => ?_) AllReady.nil)
            · go_simp
              refine hK _ _ ?_
              clear hK K
              refine wpAny_ready (rs := [3]) (by kernel_rfl) (by simp) (AllReady.cons rfl (fun K hK => ?_) AllReady.nil)
              go_simp
              refine (gO W9 hb49).mono ?_
              rintro e w5 ⟨id2, caps2, rfl, hr2, hb5⟩
              refine hK _ _ ?_
              clear hK K
              have hb45 := below_next hb5 hb49
              have hk65 := hk64.trans (Keeps.of_below hb45 (fun i => i = g))
              have hkw5 : Keeps (fun i => i = g) w w5 := (Keeps.of_below HU.out.below _).trans hk65
              obtain ⟨hcf2, h32⟩ := hr2.call
              have hc5 := h32 w5 m2 (Keeps.refl _ _) (bl4.below hb45) hf2
              have z5 := HU.out.z.keeps hk65 hqg
              clear gO hr2 h32
              refine wpAny_ready (rs := [4]) (by kernel_rfl) (by simp) (AllReady.cons rfl (fun K hK => ?_) AllReady.nil)
              go_simp
              refine hc5.mono ?_
              rintro e w6 (⟨h1, ⟨cs6, rfl, h26⟩, h3, h4⟩ | ⟨h1, rfl, h4⟩)
              · refine hK _ _ ?_
                clear hK K
                refine wpAny_ready (rs := [5]) (by kernel_rfl) (by simp) (AllReady.cons rfl (fun K hK => ?_) AllReady.nil)
                go_simp
                refine (two_rest (w := w) (w1 := w5) (par := false) (s := sb1) (r := kk m2) (q := Q + 1 + 1 + 1) 2 rfl hkw5 hwq z5.lt hgw lo9 (by omega) (by have := hb45.size; omega) (by omega) ((hkn4.below hb45).keepU h4 (by omega)) h1 h26 h3 h4).mono ?_
                rintro e w7 ⟨cs', rfl, ⟨h5, h6⟩, hb7, hend⟩
                refine hK _ _ ?_
                clear hK K
                have z7 := (z5.keeps h4 hqg).below hb7
                refine wpAny_ready (rs := [6]) (by kernel_rfl) (by simp) (AllReady.cons rfl (fun K hK => ?_) AllReady.nil)
                rw [if_pos (by rfl)]
                refine wp_put_blk z7 cs' (by kernel_rfl) h5 h6 rfl rfl rfl ?_
                intro w8 hB8 hg8
                refine hK _ _ ?_
                clear hK K
                refine wpAny_done (by kernel_rfl) ?_ _
                have hend8 := hend w8 hg8
                rw [hr] at hend8
                have HE8 := Lib.hid (And.intro hend8 h5)
                clear hend hend8
                go_wp2
                exact ret_blk hB8 rfl rfl Tryd.underlying59 rfl (by rw [HE8.out.2]; kernel_rfl) rfl HE8.out.1
              · go_wp2
                exact ⟨rfl, by rw [← hr]; exact un_stop (r := Un.seq false sb1 (kk m2)) hkw5 h1 h4⟩
            · clear t0 t1 t2 t3 t4
              go_simp
              refine (gO W9 hb49).mono ?_
              rintro e w5 ⟨id2, caps2, rfl, hr2, hb5⟩
              refine hK _ _ ?_
              clear hK K
              have hb45 := below_next hb5 hb49
              have hk65 := hk64.trans (Keeps.of_below hb45 (fun i => i = g))
              have hkw5 : Keeps (fun i => i = g) w w5 := (Keeps.of_below HU.out.below _).trans hk65
              obtain ⟨hcf2, h32⟩ := hr2.call
              have hc5 := h32 w5 m2 (Keeps.refl _ _) (bl4.below hb45) hf2
              have z5 := HU.out.z.keeps hk65 hqg
              clear gO hr2 h32
              have y5 := (y9.below hb5)
              refine wpAny_ready (rs := [0, 4]) (by kernel_rfl) (by simp) ?_
              refine AllReady.cons rfl (fun K hK => ?_) (AllReady.cons rfl (fun K hK => ?_) AllReady.nil)
              · have t0 : w5.cell? ⟨q9, 0, none⟩ = some (.int .i64 k9) := (y5.cell 0).trans rfl
                have t1 : w5.cell? ⟨q9, 1, none⟩ = some (.int .i64 c9) := (y5.cell 1).trans rfl
                have t2 : w5.cell? ⟨q9, 2, none⟩ = some (.bool b9) := (y5.cell 2).trans rfl
                have t3 : w5.cell? ⟨q9, 3, none⟩ = some (.int .i64 l9) := (y5.cell 3).trans rfl
                have t4 : w5.cell? ⟨q9, 4, none⟩ = some (.slice A9 n9 p9) := (y5.cell 4).trans rfl
                go_simp
                refine hK _ _ ?_
                clear hK K
                refine wpAny_ready (rs := [4]) (by kernel_rfl) (by simp) (AllReady.cons rfl (fun K hK => ?_) AllReady.nil)
                go_simp
                refine hc5.mono ?_
                rintro e w6 (⟨h1, ⟨cs6, rfl, h26⟩, h3, h4⟩ | ⟨h1, rfl, h4⟩)
                · refine hK _ _ ?_
                  clear hK K
                  refine wpAny_ready (rs := [5]) (by kernel_rfl) (by simp) (AllReady.cons rfl (fun K hK => ?_) AllReady.nil)
                  go_simp
                  refine (two_rest (w := w) (w1 := w5) (par := false) (s := sb1) (r := kk m2) (q := Q + 1 + 1 + 1) 2 rfl hkw5 hwq z5.lt hgw lo9 (by omega) (by have := hb45.size; omega) (by omega) ((hkn4.below hb45).keepU h4 (by omega)) h1 h26 h3 h4).mono ?_
                  rintro e w7 ⟨cs', rfl, ⟨h5, h6⟩, hb7, hend⟩
                  refine hK _ _ ?_
                  clear hK K
                  have z7 := (z5.keeps h4 hqg).below hb7
                  refine wpAny_ready (rs := [6]) (by kernel_rfl) (by simp) (AllReady.cons rfl (fun K hK => ?_) AllReady.nil)
                  rw [if_pos (by rfl)]
                  refine wp_put_blk z7 cs' (by kernel_rfl) h5 h6 rfl rfl rfl ?_
                  intro w8 hB8 hg8
                  refine hK _ _ ?_
                  clear hK K
                  refine wpAny_done (by kernel_rfl) ?_ _
                  have hend8 := hend w8 hg8
                  rw [hr] at hend8
                  have HE8 := Lib.hid (And.intro hend8 h5)
                  clear hend hend8
                  go_wp2
                  exact ret_blk hB8 rfl rfl Tryd.underlying59 rfl (by rw [HE8.out.2]; kernel_rfl) rfl HE8.out.1
                · go_wp2
                  exact ⟨rfl, by rw [← hr]; exact un_stop (r := Un.seq false sb1 (kk m2)) hkw5 h1 h4⟩
              · go_simp
                refine hc5.mono ?_
                rintro e w6 (⟨h1, ⟨cs6, rfl, h26⟩, h3, h4⟩ | ⟨h1, rfl, h4⟩)
                · refine hK _ _ ?_
                  clear hK K
                  have y6 := y5.keeps h4 hq9g
                  have t0 : w6.cell? ⟨q9, 0, none⟩ = some (.int .i64 k9) := (y6.cell 0).trans rfl
                  have t1 : w6.cell? ⟨q9, 1, none⟩ = some (.int .i64 c9) := (y6.cell 1).trans rfl
                  have t2 : w6.cell? ⟨q9, 2, none⟩ = some (.bool b9) := (y6.cell 2).trans rfl
                  have t3 : w6.cell? ⟨q9, 3, none⟩ = some (.int .i64 l9) := (y6.cell 3).trans rfl
                  have t4 : w6.cell? ⟨q9, 4, none⟩ = some (.slice A9 n9 p9) := (y6.cell 4).trans rfl
                  refine wpAny_ready (rs := [0]) (by kernel_rfl) (by simp) (AllReady.cons rfl (fun K hK => ?_) AllReady.nil)
                  go_simp
                  refine hK _ _ ?_
                  clear hK K
                  refine wpAny_ready (rs := [5]) (by kernel_rfl) (by simp) (AllReady.cons rfl (fun K hK => ?_) AllReady.nil)
                  go_simp
                  refine (two_rest (w := w) (w1 := w5) (par := false) (s := sb1) (r := kk m2) (q := Q + 1 + 1 + 1) 2 rfl hkw5 hwq z5.lt hgw lo9 (by omega) (by have := hb45.size; omega) (by omega) ((hkn4.below hb45).keepU h4 (by omega)) h1 h26 h3 h4).mono ?_
                  rintro e w7 ⟨cs', rfl, ⟨h5, h6⟩, hb7, hend⟩
                  refine hK _ _ ?_
                  clear hK K
                  have z7 := (z5.keeps h4 hqg).below hb7
                  refine wpAny_ready (rs := [6]) (by kernel_rfl) (by simp) (AllReady.cons rfl (fun K hK => ?_) AllReady.nil)
                  rw [if_pos (by rfl)]
                  refine wp_put_blk z7 cs' (by kernel_rfl) h5 h6 rfl rfl rfl ?_
                  intro w8 hB8 hg8
                  refine hK _ _ ?_
                  clear hK K
                  refine wpAny_done (by kernel_rfl) ?_ _
                  have hend8 := hend w8 hg8
                  rw [hr] at hend8
                  have HE8 := Lib.hid (And.intro hend8 h5)
                  clear hend hend8
                  go_wp2
                  exact ret_blk hB8 rfl rfl Tryd.underlying59 rfl (by rw [HE8.out.2]; kernel_rfl) rfl HE8.out.1
                · go_wp2
                  exact ⟨rfl, by rw [← hr]; exact un_stop (r := Un.seq false sb1 (kk m2)) hkw5 h1 h4⟩
          · have hlt' : F < R.2.steps := Nat.lt_of_lt_of_le h1 HR'.out.2.1
            clear hblk2
            go_wp2
            exact ⟨rfl, un_stop hkw2 hlt' hk23⟩
        · obtain ⟨kk, hkk⟩ : ∃ kk : Sr.M → Sp.T × Sr.M, kk = fun m => Un.un rest (Ex.bs zs) (l + LB) k m := ⟨_, rfl⟩
          have hRR : R = (if ya ≠ 0 then Un.un body (Ex.bs zs) l kk m.step else Un.un els (Ex.bs zs) (l + St.labels body) kk m.step) := by
            rw [hkk, HR.out, HL.out.1, (Sr.lab_cases 6 (St.labels body) (St.labels els)).2.2.2.2.1 rfl, HY.out.1]
            rfl
          have gO : ∀ w', Below w2.heap.size w2 w' → Calls Tryd.prog 109 #[.slice VE zs.length ce, .pointer (some ⟨Q, 0, none⟩), .pointer (some ⟨Q + 1, 0, none⟩), .pointer (some ⟨H, 0, none⟩), .pointer (some ⟨Q + 1 + 1, 0, none⟩)] w' fun e w2 => ∃ id caps, e = .returned (.func (.func id) #[] caps) ∧ RestOK w2 g F kk (.func (.func id) #[] caps) ∧ Below w'.heap.size w' w2 := fun w' hb => by
            have hk := hk62.trans (Keeps.of_below hb (fun i => i = g))
            have := HU.out.on w' hk VE ce zs (env2.later hb) (by have := HL.out; omega)
            rw [← hkk] at this
            exact this
          have HR' := Lib.hid (And.intro hRR (And.intro hk62 (And.intro bl2 env2)))
          rcases hyz : (ya != 0) with _ | _
          · have hr : Un.un els (Ex.bs zs) (l + St.labels body) kk m.step = R := by
              rw [hRR, if_neg (by rw [bne_eq_false_iff_eq] at hyz; omega)]
            obtain ⟨LBB, hLBB⟩ : ∃ x, x = St.labels body := ⟨_, rfl⟩
            have gL : ∀ w', Below w2.heap.size w2 w' → Calls Tryd.prog 38 #[.slice D dl dc] w' fun e w'' => e = .returned (.int .i64 ((LBB : Nat) : Int)) ∧ Below w'.heap.size w' w'' := fun w' hb => by
              have hk := hk62.trans (Keeps.of_below hb (fun i => i = g))
              rw [hLBB]
              exact labels_any body w' B dl dc D (by have := hk.size; have := HU.out.below.size; omega) (HU.out.pb w' hk) hd.1 hd.2.1 (by have := HL.out; omega)
            have hwr : IntKind.i64.wrap ((l : Int) + ((LBB : Nat) : Int)) = ((l + LBB : Nat) : Int) := by
              rw [IntKind.wrap_i64]
              have := HL.out
              omega
            rw [← hLBB] at hr
            have keepS : ∀ w', Below w2.heap.size w2 w' → (Below w2.heap.size w2 w' ∧ w'.cell? ⟨Q, 0, none⟩ = some (.pointer (some ⟨g, 0, none⟩)) ∧ w'.cell? ⟨S, 10, none⟩ = some (.slice D dl dc) ∧ w'.cell? ⟨S, 11, none⟩ = some (.slice E el ec)) := fun w' hb => ⟨hb, (hb.cell (World.block_lt_of_cell? _ _ u0)).trans u0, (hb.cell (World.block_lt_of_cell? _ _ s10)).trans s10, (hb.cell (World.block_lt_of_cell? _ _ s11)).trans s11⟩
            have hS0 := keepS _ (below_drew (Below.refl _ _))
            have HRR := Lib.hid (And.intro hr hLBB)
            clear hr hRR hkk env2 bl2 hk62 st2 hLBB
            go_wp2_with fail
            clear s0 s1 s2 s3 s4 s5 s6 s7 s8 s9 s10 s11 hyz
            refine wp_walk_tail 12 (by kernel_rfl) (by kernel_rfl) (fun w w' => Below w.heap.size w w') (fun w' => (Below w2.heap.size w2 w' ∧ w'.cell? ⟨Q, 0, none⟩ = some (.pointer (some ⟨g, 0, none⟩)) ∧ w'.cell? ⟨S, 10, none⟩ = some (.slice D dl dc) ∧ w'.cell? ⟨S, 11, none⟩ = some (.slice E el ec))) hS0 ?_
            simp only [List.length_cons, List.length_nil, Nat.reduceAdd, Nat.reduceSub, List.take_succ_cons, List.take_zero, List.drop_succ_cons, List.drop_zero]
            repeat (first | (refine settle_skip (fun _ => by rfl) ?_; (simp only [Act.put, List.setIfInBounds_toArray, List.set_cons_zero, List.set_cons_succ])) | (refine' settle_run (fun _ _ => Below.refl _ _) (fun _ => by rfl) ?_ ?_; rotate_left; (focus (intro ρ w hS hF; (try dsimp only at hS); go_split_ands; go_simp; try with_reducible rfl)); (simp only [Act.put, List.setIfInBounds_toArray, List.set_cons_zero, List.set_cons_succ])))
            (refine' settle_step (fun _ => by rfl) ?_ ?_; rotate_left; (focus (intro ρ w hS hF K hK; (simp only [Act.put, List.setIfInBounds_toArray, List.set_cons_zero, List.set_cons_succ] at hK); go_simp; go_at_call 38; refine (gL _ hS.1).mono ?_; rintro e w' ⟨rfl, hb'⟩; have hS' := keepS _ (below_next hb' hS.1); have hE' := hb'; exact hK _ hS' hE')); (simp only [Act.put, List.setIfInBounds_toArray, List.set_cons_zero, List.set_cons_succ]))
            repeat (first | (refine settle_skip (fun _ => by rfl) ?_; (simp only [Act.put, List.setIfInBounds_toArray, List.set_cons_zero, List.set_cons_succ])) | (refine' settle_run (fun _ _ => Below.refl _ _) (fun _ => by rfl) ?_ ?_; rotate_left; (focus (intro ρ w hS hF; (try dsimp only at hS); go_split_ands; go_simp; try with_reducible rfl)); (simp only [Act.put, List.setIfInBounds_toArray, List.set_cons_zero, List.set_cons_succ])))
            (refine settle_known (FRest g F kk) (by rfl) (fun _ => by rfl)  ?_ ?_; (focus (intro ρ w hS hF K hK; (simp only [Act.put, List.setIfInBounds_toArray, List.set_cons_zero, List.set_cons_succ] at hK); go_simp; (refine (gO _ hS.1).mono ?_; rintro e w' ⟨id2, caps2, rfl, hr2, hb'⟩; exact hK _ _ ⟨id2, caps2, rfl, hr2⟩ (keepS _ (below_next hb' hS.1)) hb'))); (simp only [Act.put, List.setIfInBounds_toArray, List.set_cons_zero, List.set_cons_succ]))
            repeat (first | (refine settle_skip (fun _ => by rfl) ?_; (simp only [Act.put, List.setIfInBounds_toArray, List.set_cons_zero, List.set_cons_succ])) | (refine' settle_run (fun _ _ => Below.refl _ _) (fun _ => by rfl) ?_ ?_; rotate_left; (focus (intro ρ w hS hF; (try dsimp only at hS); go_split_ands; go_simp; try with_reducible rfl)); (simp only [Act.put, List.setIfInBounds_toArray, List.set_cons_zero, List.set_cons_succ])))
            refine settle_nil ?_
            intro ρ w4 hS hF
            obtain ⟨id2, caps2, e101, hr2⟩ := hF 155 (FRest g F kk) (by repeat (first | exact List.mem_cons_self | apply List.mem_cons_of_mem))
            have hb4 := hS.1
            clear hF hS hS0 keepS gO gL
            dsimp only
            rw [e101]
            clear e101
            have hk64 := HR'.out.2.1.trans (Keeps.of_below hb4 (fun i => i = g))
            have hkw4 : Keeps (fun i => i = g) w w4 := (Keeps.of_below HU.out.below _).trans hk64
            have hz4 := HU.out.z.keeps hk64 hqg
            have hc2 := HI.out els (by have := HL.out; omega) w4 B el ec g F E _ (.slice VE zs.length ce) m.step zs (l + LBB) kk (HU.out.pe w4 hk64) hd.2.2.1 hd.2.2.2 hB (HR'.out.2.2.1.below hb4) hfs hF (HR'.out.2.2.2.later hb4) (by have := HL.out; omega) (by have := HRR.out.2; have := HL.out; omega) hr2
            refine wpList_want rfl fun K hK => ?_
            go_simp
            refine (hc2.mono (fun e w2 h => UnEnd.mid (w := w) (q := Q + 1 + 1 + 1) hkw4 hwq hz4.lt hgw (HRR.out.1 ▸ h))).mono ?_
            rintro e w5 (⟨cs, rfl, ⟨h5, h1⟩, hk5, hend⟩ | ⟨rfl, hend⟩)
            · have hz5 := hz4.keeps hk5 hqg
              refine hK _ _ ?_
              refine wpl_put_blk hz5 cs (by kernel_rfl) h5 h1 rfl rfl rfl rfl ?_
              intro w6 hB6 hg6
              go_wp2
              exact ret_blk hB6 rfl rfl Tryd.underlying59 rfl (by rw [h5]; kernel_rfl) rfl (hend w6 hg6)
            · go_wp2
              exact ⟨rfl, hend⟩
          · have hr : Un.un body (Ex.bs zs) l kk m.step = R := by
              rw [hRR, if_pos (by rw [bne_iff_ne] at hyz; exact hyz)]
            have keepS : ∀ w', Below w2.heap.size w2 w' → (Below w2.heap.size w2 w' ∧ w'.cell? ⟨Q, 0, none⟩ = some (.pointer (some ⟨g, 0, none⟩)) ∧ w'.cell? ⟨S, 10, none⟩ = some (.slice D dl dc)) := fun w' hb => ⟨hb, (hb.cell (World.block_lt_of_cell? _ _ u0)).trans u0, (hb.cell (World.block_lt_of_cell? _ _ s10)).trans s10⟩
            have hS0 := keepS _ (below_drew (Below.refl _ _))
            have HRR := Lib.hid hr
            clear hr hRR hkk env2 bl2 hk62 st2
            go_wp2_with fail
            clear s0 s1 s2 s3 s4 s5 s6 s7 s8 s9 s10 s11 hyz
            refine wp_walk_tail 8 (by kernel_rfl) (by kernel_rfl) (fun w w' => Below w.heap.size w w') (fun w' => (Below w2.heap.size w2 w' ∧ w'.cell? ⟨Q, 0, none⟩ = some (.pointer (some ⟨g, 0, none⟩)) ∧ w'.cell? ⟨S, 10, none⟩ = some (.slice D dl dc))) hS0 ?_
            simp only [List.length_cons, List.length_nil, Nat.reduceAdd, Nat.reduceSub, List.take_succ_cons, List.take_zero, List.drop_succ_cons, List.drop_zero]
            repeat (first | (refine settle_skip (fun _ => by rfl) ?_; (simp only [Act.put, List.setIfInBounds_toArray, List.set_cons_zero, List.set_cons_succ])) | (refine' settle_run (fun _ _ => Below.refl _ _) (fun _ => by rfl) ?_ ?_; rotate_left; (focus (intro ρ w hS hF; (try dsimp only at hS); go_split_ands; go_simp; try with_reducible rfl)); (simp only [Act.put, List.setIfInBounds_toArray, List.set_cons_zero, List.set_cons_succ])))
            (refine settle_known (FRest g F kk) (by rfl) (fun _ => by rfl)  ?_ ?_; (focus (intro ρ w hS hF K hK; (simp only [Act.put, List.setIfInBounds_toArray, List.set_cons_zero, List.set_cons_succ] at hK); go_simp; (refine (gO _ hS.1).mono ?_; rintro e w' ⟨id2, caps2, rfl, hr2, hb'⟩; exact hK _ _ ⟨id2, caps2, rfl, hr2⟩ (keepS _ (below_next hb' hS.1)) hb'))); (simp only [Act.put, List.setIfInBounds_toArray, List.set_cons_zero, List.set_cons_succ]))
            repeat (first | (refine settle_skip (fun _ => by rfl) ?_; (simp only [Act.put, List.setIfInBounds_toArray, List.set_cons_zero, List.set_cons_succ])) | (refine' settle_run (fun _ _ => Below.refl _ _) (fun _ => by rfl) ?_ ?_; rotate_left; (focus (intro ρ w hS hF; (try dsimp only at hS); go_split_ands; go_simp; try with_reducible rfl)); (simp only [Act.put, List.setIfInBounds_toArray, List.set_cons_zero, List.set_cons_succ])))
            refine settle_nil ?_
            intro ρ w4 hS hF
            obtain ⟨id2, caps2, e101, hr2⟩ := hF 142 (FRest g F kk) (by repeat (first | exact List.mem_cons_self | apply List.mem_cons_of_mem))
            have hb4 := hS.1
            clear hF hS hS0 keepS gO
            dsimp only
            rw [e101]
            clear e101
            have hk64 := HR'.out.2.1.trans (Keeps.of_below hb4 (fun i => i = g))
            have hkw4 : Keeps (fun i => i = g) w w4 := (Keeps.of_below HU.out.below _).trans hk64
            have hz4 := HU.out.z.keeps hk64 hqg
            have hc2 := HI.out body (by have := HL.out; omega) w4 B dl dc g F D _ (.slice VE zs.length ce) m.step zs l kk (HU.out.pb w4 hk64) hd.1 hd.2.1 hB (HR'.out.2.2.1.below hb4) hfs hF (HR'.out.2.2.2.later hb4) (by have := HL.out; omega) (by have := HL.out; omega) hr2
            refine wpList_want rfl fun K hK => ?_
            go_simp
            refine (hc2.mono (fun e w2 h => UnEnd.mid (w := w) (q := Q + 1 + 1 + 1) hkw4 hwq hz4.lt hgw (HRR.out ▸ h))).mono ?_
            rintro e w5 (⟨cs, rfl, ⟨h5, h1⟩, hk5, hend⟩ | ⟨rfl, hend⟩)
            · have hz5 := hz4.keeps hk5 hqg
              refine hK _ _ ?_
              refine wpl_put_blk hz5 cs (by kernel_rfl) h5 h1 rfl rfl rfl rfl ?_
              intro w6 hB6 hg6
              go_wp2
              exact ret_blk hB6 rfl rfl Tryd.underlying59 rfl (by rw [h5]; kernel_rfl) rfl (hend w6 hg6)
            · go_wp2
              exact ⟨rfl, hend⟩
        · obtain ⟨kk, hkk⟩ : ∃ kk : Sr.M → Sp.T × Sr.M, kk = fun m => Un.un rest (Ex.bs zs) (l + LB) k m := ⟨_, rfl⟩
          obtain ⟨yb, hyb⟩ : ∃ yb, yb = Ex.evl (Ex.bs zs) eb := ⟨_, rfl⟩
          have hryb : Ex.rng yb := by rw [hyb]; exact HT.out.2.1
          have hr : Un.iter (yb - ya).toNat ya (fun (i : Int) (k : Sr.M → Sp.T × Sr.M) (m : Sr.M) => Un.un body (Ex.bs zs ++ [(nm.data.toList, i)]) l k m.step) kk m.step = R := by
            rw [hkk, HR.out, HL.out.1, (Sr.lab_cases 7 (St.labels body) (St.labels els)).2.2.2.2.2.1 rfl, hyb, HY.out.1]
            rfl
          have gO : ∀ w', Below w2.heap.size w2 w' → Calls Tryd.prog 109 #[.slice VE zs.length ce, .pointer (some ⟨Q, 0, none⟩), .pointer (some ⟨Q + 1, 0, none⟩), .pointer (some ⟨H, 0, none⟩), .pointer (some ⟨Q + 1 + 1, 0, none⟩)] w' fun e w2 => ∃ id caps, e = .returned (.func (.func id) #[] caps) ∧ RestOK w2 g F kk (.func (.func id) #[] caps) ∧ Below w'.heap.size w' w2 := fun w' hb => by
            have hk := hk62.trans (Keeps.of_below hb (fun i => i = g))
            have := HU.out.on w' hk VE ce zs (env2.later hb) (by have := HL.out; omega)
            rw [← hkk] at this
            exact this
          have gE : ∀ w', Below w2.heap.size w2 w' → Calls Tryd.prog 112 #[.agg #[.int .i64 bk, .int .i64 bn, .string sb, .slice bA bl bc], .slice VE zs.length ce] w' fun r w'' => r = .returned (.int .i64 yb) ∧ Below w'.heap.size w' w'' := fun w' hb => by
            rw [hyb]
            have hk := hk62.trans (Keeps.of_below hb (fun i => i = g))
            exact eval_ok (.slice VE zs.length ce) zs (by have := HL.out; omega) eb w' _ ((HU.out.xb w' hk).up (by have := hk.size; have := HU.out.below.size; omega)) (env2.later hb).sl
          have keepS : ∀ w', Below w2.heap.size w2 w' → (Below w2.heap.size w2 w' ∧ w'.cell? ⟨Q, 0, none⟩ = some (.pointer (some ⟨g, 0, none⟩)) ∧ w'.cell? ⟨S, 0, none⟩ = some (.int .i64 7) ∧ w'.cell? ⟨S, 1, none⟩ = some (.string nm) ∧ w'.cell? ⟨S, 2, none⟩ = some (.int .i64 ak) ∧ w'.cell? ⟨S, 3, none⟩ = some (.int .i64 an) ∧ w'.cell? ⟨S, 4, none⟩ = some (.string sa) ∧ w'.cell? ⟨S, 5, none⟩ = some (.slice aA al ac) ∧ w'.cell? ⟨S, 6, none⟩ = some (.int .i64 bk) ∧ w'.cell? ⟨S, 7, none⟩ = some (.int .i64 bn) ∧ w'.cell? ⟨S, 8, none⟩ = some (.string sb) ∧ w'.cell? ⟨S, 9, none⟩ = some (.slice bA bl bc) ∧ w'.cell? ⟨S, 10, none⟩ = some (.slice D dl dc) ∧ w'.cell? ⟨S, 11, none⟩ = some (.slice E el ec)) := fun w' hb => ⟨hb, (hb.cell (World.block_lt_of_cell? _ _ u0)).trans u0, (hb.cell (World.block_lt_of_cell? _ _ s0)).trans s0, (hb.cell (World.block_lt_of_cell? _ _ s1)).trans s1, (hb.cell (World.block_lt_of_cell? _ _ s2)).trans s2, (hb.cell (World.block_lt_of_cell? _ _ s3)).trans s3, (hb.cell (World.block_lt_of_cell? _ _ s4)).trans s4, (hb.cell (World.block_lt_of_cell? _ _ s5)).trans s5, (hb.cell (World.block_lt_of_cell? _ _ s6)).trans s6, (hb.cell (World.block_lt_of_cell? _ _ s7)).trans s7, (hb.cell (World.block_lt_of_cell? _ _ s8)).trans s8, (hb.cell (World.block_lt_of_cell? _ _ s9)).trans s9, (hb.cell (World.block_lt_of_cell? _ _ s10)).trans s10, (hb.cell (World.block_lt_of_cell? _ _ s11)).trans s11⟩
          have hS0 := keepS _ (below_drew (Below.refl _ _))
          have HR' := Lib.hid (And.intro hr (And.intro hk62 (And.intro bl2 (And.intro env2 hryb))))
          clear hr hkk hyb hryb env2 bl2 hk62 st2
          go_wp2_with fail
          clear s0 s1 s2 s3 s4 s5 s6 s7 s8 s9 s10 s11
          refine wp_walk_tail 12 (by kernel_rfl) (by kernel_rfl) (fun w w' => Below w.heap.size w w') (fun w' => (Below w2.heap.size w2 w' ∧ w'.cell? ⟨Q, 0, none⟩ = some (.pointer (some ⟨g, 0, none⟩)) ∧ w'.cell? ⟨S, 0, none⟩ = some (.int .i64 7) ∧ w'.cell? ⟨S, 1, none⟩ = some (.string nm) ∧ w'.cell? ⟨S, 2, none⟩ = some (.int .i64 ak) ∧ w'.cell? ⟨S, 3, none⟩ = some (.int .i64 an) ∧ w'.cell? ⟨S, 4, none⟩ = some (.string sa) ∧ w'.cell? ⟨S, 5, none⟩ = some (.slice aA al ac) ∧ w'.cell? ⟨S, 6, none⟩ = some (.int .i64 bk) ∧ w'.cell? ⟨S, 7, none⟩ = some (.int .i64 bn) ∧ w'.cell? ⟨S, 8, none⟩ = some (.string sb) ∧ w'.cell? ⟨S, 9, none⟩ = some (.slice bA bl bc) ∧ w'.cell? ⟨S, 10, none⟩ = some (.slice D dl dc) ∧ w'.cell? ⟨S, 11, none⟩ = some (.slice E el ec))) hS0 ?_
          simp only [List.length_cons, List.length_nil, Nat.reduceAdd, Nat.reduceSub, List.take_succ_cons, List.take_zero, List.drop_succ_cons, List.drop_zero]
          repeat (first | (refine settle_skip (fun _ => by rfl) ?_; (simp only [Act.put, List.setIfInBounds_toArray, List.set_cons_zero, List.set_cons_succ])) | (refine' settle_run (fun _ _ => Below.refl _ _) (fun _ => by rfl) ?_ ?_; rotate_left; (focus (intro ρ w hS hF; (try dsimp only at hS); go_split_ands; go_simp; try with_reducible rfl)); (simp only [Act.put, List.setIfInBounds_toArray, List.set_cons_zero, List.set_cons_succ])))
          (refine' settle_step (fun _ => by rfl) ?_ ?_; rotate_left; (focus (intro ρ w hS hF K hK; (simp only [Act.put, List.setIfInBounds_toArray, List.set_cons_zero, List.set_cons_succ] at hK); go_simp; go_at_call 112; refine (gE _ hS.1).mono ?_; rintro e w' ⟨rfl, hb'⟩; have hS' := keepS _ (below_next hb' hS.1); have hE' := hb'; exact hK _ hS' hE')); (simp only [Act.put, List.setIfInBounds_toArray, List.set_cons_zero, List.set_cons_succ]))
          repeat (first | (refine settle_skip (fun _ => by rfl) ?_; (simp only [Act.put, List.setIfInBounds_toArray, List.set_cons_zero, List.set_cons_succ])) | (refine' settle_run (fun _ _ => Below.refl _ _) (fun _ => by rfl) ?_ ?_; rotate_left; (focus (intro ρ w hS hF; (try dsimp only at hS); go_split_ands; go_simp; try with_reducible rfl)); (simp only [Act.put, List.setIfInBounds_toArray, List.set_cons_zero, List.set_cons_succ])))
          (refine settle_known (FRest g F kk) (by rfl) (fun _ => by rfl)  ?_ ?_; (focus (intro ρ w hS hF K hK; (simp only [Act.put, List.setIfInBounds_toArray, List.set_cons_zero, List.set_cons_succ] at hK); go_simp; (refine (gO _ hS.1).mono ?_; rintro e w' ⟨id2, caps2, rfl, hr2, hb'⟩; exact hK _ _ ⟨id2, caps2, rfl, hr2⟩ (keepS _ (below_next hb' hS.1)) hb'))); (simp only [Act.put, List.setIfInBounds_toArray, List.set_cons_zero, List.set_cons_succ]))
          repeat (first | (refine settle_skip (fun _ => by rfl) ?_; (simp only [Act.put, List.setIfInBounds_toArray, List.set_cons_zero, List.set_cons_succ])) | (refine' settle_run (fun _ _ => Below.refl _ _) (fun _ => by rfl) ?_ ?_; rotate_left; (focus (intro ρ w hS hF; (try dsimp only at hS); go_split_ands; go_simp; try with_reducible rfl)); (simp only [Act.put, List.setIfInBounds_toArray, List.set_cons_zero, List.set_cons_succ])))
          refine settle_nil ?_
          intro ρ w4 hS hF
          obtain ⟨id2, caps2, e101, hr2⟩ := hF 168 (FRest g F kk) (by repeat (first | exact List.mem_cons_self | apply List.mem_cons_of_mem))
          have hb4 := hS.1
          clear hF hS hS0 keepS gO gE
          dsimp only
          rw [e101]
          clear e101
          have hk64 := HR'.out.2.1.trans (Keeps.of_below hb4 (fun i => i = g))
          have hkw4 : Keeps (fun i => i = g) w w4 := (Keeps.of_below HU.out.below _).trans hk64
          have hz4 := HU.out.z.keeps hk64 hqg
          have hc2 := uloop_any body (HI.out body (by have := HL.out; omega)) (yb - ya).toNat w4 B g F m.step VE ce zs l kk _ ya yb 7 nm ak an sa aA al ac bk bn sb bA bl bc D dl dc E el ec rfl HY.out.2 HR'.out.2.2.2.2 (HU.out.pb w4 hk64) hd.1 hd.2.1 hB (HR'.out.2.2.1.below hb4) hfs hF (HR'.out.2.2.2.1.later hb4) (by have := HL.out; omega) (by have := HL.out; omega) hr2
          unfold stcells xcells at hc2
          simp only [List.cons_append, List.nil_append] at hc2
          refine wpList_want rfl fun K hK => ?_
          go_simp
          refine (hc2.mono (fun e w2 h => UnEnd.mid (w := w) (q := Q + 1 + 1 + 1) hkw4 hwq hz4.lt hgw (HR'.out.1 ▸ h))).mono ?_
          rintro e w5 (⟨cs, rfl, ⟨h5, h1⟩, hk5, hend⟩ | ⟨rfl, hend⟩)
          · have hz5 := hz4.keeps hk5 hqg
            refine hK _ _ ?_
            refine wpl_put_blk hz5 cs (by kernel_rfl) h5 h1 rfl rfl rfl rfl ?_
            intro w6 hB6 hg6
            go_wp2
            exact ret_blk hB6 rfl rfl Tryd.underlying59 rfl (by rw [h5]; kernel_rfl) rfl (hend w6 hg6)
          · go_wp2
            exact ⟨rfl, hend⟩
    · have h7 := of_decide_eq_true hgt
      have hr : Un.un rest (Ex.bs zs) (l + LB) k m = R := by
        rw [HR.out, HL.out.1, (Sr.lab_cases kd (St.labels body) (St.labels els)).2.2.2.2.2.2 (by omega) (by omega) (by omega) (by omega) (by omega), Nat.add_zero]
        conv => rhs; unfold Un.un
        rw [if_neg (by omega), if_neg (by omega), if_neg (by omega), if_neg (by omega), if_neg (by omega), if_neg (by omega)]
      have hv6 := HW.out.2.2.2.2.2.2.1.keep (Keeps.of_below HU.out.below (fun i => i = g))
      have hOn := HU.out.on W6 (Keeps.refl _ _) VE ce zs hv6 (by have := HL.out; omega)
      have HR' := Lib.hid hr
      clear hr hv6
      go_wp2_with fail
      refine hOn.mono ?_
      rintro e w2 ⟨id2, caps2, rfl, hr2, hb2⟩
      obtain ⟨hcf2, h32⟩ := hr2.call
      have hkw2 : Keeps (fun i => i = g) w w2 := (Keeps.of_below HU.out.below _).trans (Keeps.of_below hb2 _)
      have hc2 := h32 w2 m (Keeps.refl _ _) (HW.out.2.2.2.2.2.1.below (below_next hb2 HU.out.below)) hf
      have hz2 := HU.out.z.below hb2
      clear hOn hr2 h32
      go_wp2_with fail
      refine (hc2.mono (fun e w2 h => UnEnd.mid (w := w) (q := Q + 1 + 1 + 1) hkw2 hwq hz2.lt hgw (HR'.out ▸ h))).mono ?_
      rintro e w5 (⟨cs, rfl, ⟨h5, h1⟩, hk5, hend⟩ | ⟨rfl, hend⟩)
      · have hz5 := hz2.keeps hk5 hqg
        have HE := Lib.hid (And.intro hend h5)
        clear hend
        go_wp2_with (first | (refine wpl_put_blk hz5 cs (by kernel_rfl) HE.out.2 h1 rfl rfl rfl rfl ?_; intro w6 hB6 hg6) | fail)
        exact ret_blk hB6 rfl rfl Tryd.underlying59 rfl (by rw [HE.out.2]; kernel_rfl) rfl (HE.out.1 w6 hg6)
      · go_wp2
        exact ⟨rfl, hend⟩
  · have h1k := of_decide_eq_true hlt
    have hr : Un.un rest (Ex.bs zs) (l + LB) k m = R := by
      rw [HR.out, HL.out.1, (Sr.lab_cases kd (St.labels body) (St.labels els)).2.2.2.2.2.2 (by omega) (by omega) (by omega) (by omega) (by omega), Nat.add_zero]
      conv => rhs; unfold Un.un
      rw [if_neg (by omega), if_neg (by omega), if_neg (by omega), if_neg (by omega), if_neg (by omega), if_neg (by omega)]
    have hv6 := HW.out.2.2.2.2.2.2.1.keep (Keeps.of_below HU.out.below (fun i => i = g))
    have hOn := HU.out.on W6 (Keeps.refl _ _) VE ce zs hv6 (by have := HL.out; omega)
    have HR' := Lib.hid hr
    clear hr hv6
    go_wp2_with fail
    refine hOn.mono ?_
    rintro e w2 ⟨id2, caps2, rfl, hr2, hb2⟩
    obtain ⟨hcf2, h32⟩ := hr2.call
    have hkw2 : Keeps (fun i => i = g) w w2 := (Keeps.of_below HU.out.below _).trans (Keeps.of_below hb2 _)
    have hc2 := h32 w2 m (Keeps.refl _ _) (HW.out.2.2.2.2.2.1.below (below_next hb2 HU.out.below)) hf
    have hz2 := HU.out.z.below hb2
    clear hOn hr2 h32
    go_wp2_with fail
    refine (hc2.mono (fun e w2 h => UnEnd.mid (w := w) (q := Q + 1 + 1 + 1) hkw2 hwq hz2.lt hgw (HR'.out ▸ h))).mono ?_
    rintro e w5 (⟨cs, rfl, ⟨h5, h1⟩, hk5, hend⟩ | ⟨rfl, hend⟩)
    · have hz5 := hz2.keeps hk5 hqg
      have HE := Lib.hid (And.intro hend h5)
      clear hend
      go_wp2_with (first | (refine wpl_put_blk hz5 cs (by kernel_rfl) HE.out.2 h1 rfl rfl rfl rfl ?_; intro w6 hB6 hg6) | fail)
      exact ret_blk hB6 rfl rfl Tryd.underlying59 rfl (by rw [HE.out.2]; kernel_rfl) rfl (HE.out.1 w6 hg6)
    · go_wp2
      exact ⟨rfl, hend⟩
end Go.Proofs.YtkjmddgnfgbioaaDoor


namespace Go.Proofs.YtkjmddgnfgbioaaDoor
set_option linter.unusedVariables false
set_option linter.unusedSimpArgs false
set_option maxRecDepth 100000
open Go.RowKit

theorem wrong_any (p : St.P) (w : World) (B n c : Nat) (A : Option Addr) (fuel : Int) (hB : B ≤ w.heap.size) (hp : PR B w A n p) (hnc : n ≤ c) (hc : c ≤ maxLen) (hsz : p.size ≤ 549755813888) :
    Calls Tryd.prog 76 #[.slice A n c, .int .i64 fuel] w fun e w' => e = .returned (.int .i64 (if Sr.free p ≠ [] then 4 else if fuel < 0 ∨ 2000 < fuel then 2 else 0)) ∧ Below w.heap.size w w' := by
  have hg := free_any p w B n c A hB hp hnc hc hsz
  have hlen := Sr.fr_length p [] []
  obtain ⟨fs, hfs⟩ : ∃ fs, fs = Sr.free p := ⟨_, rfl⟩
  have hl : fs.length ≤ 549755813888 := by rw [hfs]; unfold Sr.free; simp at hlen; omega
  rw [← hfs] at hg ⊢
  clear hfs hp hlen
  by_cases h0 : fs = []
  · subst h0
    by_cases h1 : fuel < 0
    · have g1 : decide (fuel < 0) = true := by simpa using h1
      go_enter Tryd.func76, Tryd.ntmps76
      go_wp2_with fail
      refine hg.mono ?_
      rintro e w1 ⟨v, rfl, hr, hb⟩
      obtain ⟨V, cV, rfl, -, -⟩ := own_slice hr
      have HB := Lib.hid hb
      clear hg hr hb
      go_wp2
      go_ret
      exact ⟨rfl, HB.out⟩
    · by_cases h2 : 2000 < fuel
      · have g1 : decide (fuel < 0) = false := by simpa using h1
        have g2 : decide (2000 < fuel) = true := by simpa using h2
        go_enter Tryd.func76, Tryd.ntmps76
        go_wp2_with fail
        refine hg.mono ?_
        rintro e w1 ⟨v, rfl, hr, hb⟩
        obtain ⟨V, cV, rfl, -, -⟩ := own_slice hr
        have HB := Lib.hid hb
        clear hg hr hb
        go_wp2
        go_ret
        exact ⟨rfl, HB.out⟩
      · have g1 : decide (fuel < 0) = false := by simpa using h1
        have g2 : decide (2000 < fuel) = false := by simpa using h2
        go_enter Tryd.func76, Tryd.ntmps76
        go_wp2_with fail
        refine hg.mono ?_
        rintro e w1 ⟨v, rfl, hr, hb⟩
        obtain ⟨V, cV, rfl, -, -⟩ := own_slice hr
        have HB := Lib.hid hb
        clear hg hr hb
        go_wp2
        go_ret
        exact ⟨rfl, HB.out⟩
  · have hpos : 0 < fs.length := List.length_pos_iff.2 h0
    have g0 : decide ((0 : Int) < (fs.length : Int)) = true := by simpa using hpos
    have H0 := Lib.hid h0
    clear h0
    go_enter Tryd.func76, Tryd.ntmps76
    go_wp2_with fail
    refine hg.mono ?_
    rintro e w1 ⟨v, rfl, hr, hb⟩
    obtain ⟨V, cV, rfl, -, -⟩ := own_slice hr
    have HB := Lib.hid hb
    clear hg hr hb
    go_wp2
    go_ret
    exact ⟨rfl, HB.out⟩

theorem two_blocks (w : World) (c0 c1 : List Value) (t0 t1 : TypeId) : Blk ((w.alloc (.cells c0.toArray t0)).alloc (.cells c1.toArray t1)) w.heap.size t0 c0 ∧ Blk ((w.alloc (.cells c0.toArray t0)).alloc (.cells c1.toArray t1)) (w.heap.size + 1) t1 c1 ∧ ((w.alloc (.cells c0.toArray t0)).alloc (.cells c1.toArray t1)).heap.size = w.heap.size + 1 + 1 ∧ Keeps (fun _ => False) w ((w.alloc (.cells c0.toArray t0)).alloc (.cells c1.toArray t1)) := by
  have h0 := Blk.new w t0 c0
  have h1 := Blk.new (w.alloc (.cells c0.toArray t0)) t1 c1
  rw [show (w.alloc (.cells c0.toArray t0)).heap.size = w.heap.size + 1 by simp] at h1
  exact ⟨h0.alloc _, h1, by simp, ((Keeps.refl _ w).alloc _).alloc _⟩

def spent' : List PanicEntry := [{ v := .iface 155 (.agg #[]), recovered := true }]
/-- the deferred function behind a run that did: nothing -/
theorem catch_idle (p q : Addr) (w : World) :
    CallsD Tryd.prog 103 #[.pointer (some p), .pointer (some q)] .returning w fun e u' w' => e = .returned (.tuple #[]) ∧ u' = .returning ∧ w' = w := by
  refine callsD_of_wpS Tryd.func103 rfl fun c₀ cs hu => ?_
  apply wpS_seq
  apply wpS_region
  simp [wpOpsS, go_sem, recoverD, hu, Tryd.ntmps103, Exit.thenS]
  apply wpS_seq
  apply wpS_region
  simp [wpOpsS, go_sem, Exit.thenS]
  refine wpS_cond (t := false) (by simp [Act.eval, Array.replicate]) ?_
  simp only [Bool.false_eq_true, if_false]
  refine wpS_of_wp (wp_skip ?_)
  cases c₀
  simp_all [bodyPostS, results, Tryd.results103]
theorem catch_spent (q6 q7 : Nat) (v6 v7 : Value) (w : World) (h6 : Blk w q6 112 [v6]) (h7 : Blk w q7 51 [v7]) (hne : q6 ≠ q7) :
    CallsD Tryd.prog 103 #[.pointer (some ⟨q6, 0, none⟩), .pointer (some ⟨q7, 0, none⟩)] (.panicking spent) w fun e u' w' =>
      e = .returned (.tuple #[]) ∧ u' = .panicking spent' ∧ ∃ q, w.heap.size ≤ q ∧ Blk w' q 116 (Sr.rcells 0 (Sr.M0 Sr.zeros) (.slice none 0 0)) ∧ Blk w' q6 112 [.pointer (some ⟨q, 0, none⟩)] ∧ Blk w' q7 51 [.int .i64 5] ∧ Keeps (fun k => k = q6 ∨ k = q7) w w' := by
  refine callsD_of_wpS Tryd.func103 rfl fun c₀ cs hu => ?_
  apply wpS_seq
  apply wpS_region
  unfold spent at hu
  simp [wpOpsS, go_sem, recoverD, hu, Tryd.ntmps103, Exit.thenS]
  apply wpS_seq
  apply wpS_region
  simp [wpOpsS, go_sem, Exit.thenS]
  refine wpS_cond (t := true) (by simp [Act.eval, Array.replicate]) ?_
  simp only [if_true]
  refine wpS_of_wp ?_
  have hta : ∀ w, (Instr.typeAssert (.iface 155 (.agg #[])) 20 155 true).run Tryd.prog w = .ok (.tuple #[.agg #[], .bool true]) w := fun w => by kernel_rfl
  clear hu
  have hq6 := h6.lt
  have hq7 := h7.lt
  obtain ⟨a0, a1, hz, hk⟩ := two_blocks w [] [.int .i64 0, .int .i64 0, .int .i64 0, .int .i64 0, .int .i64 0, .int .i64 0, .int .i64 0, .int .i64 0, .int .i64 0, .int .i64 0, .slice none 0 0] 155 116
  have hB6 := h6.keeps hk id
  have hB7 := h7.keeps hk id
  have hend : ∀ w3 w4, ((w.alloc (.cells ([] : List Value).toArray 155)).alloc (.cells ([.int .i64 0, .int .i64 0, .int .i64 0, .int .i64 0, .int .i64 0, .int .i64 0, .int .i64 0, .int .i64 0, .int .i64 0, .int .i64 0, .slice none 0 0] : List Value).toArray 116)).grownBy w3 (some q6) → w3.grownBy w4 (some q7) → Blk w3 q6 112 [.pointer (some ⟨w.heap.size + 1, 0, none⟩)] → Blk w4 q7 51 [.int .i64 5] →
      ∃ q, w.heap.size ≤ q ∧ Blk w4 q 116 (Sr.rcells 0 (Sr.M0 Sr.zeros) (.slice none 0 0)) ∧ Blk w4 q6 112 [.pointer (some ⟨q, 0, none⟩)] ∧ Blk w4 q7 51 [.int .i64 5] ∧ Keeps (fun k => k = q6 ∨ k = q7) w w4 := fun w3 w4 g3 g4 b6 b7 =>
    ⟨w.heap.size + 1, by omega, (a1.grown g3 (fun e => by injection e with e; omega)).grown g4 (fun e => by injection e with e; omega), b6.grown g4 (fun e => by injection e with e; exact hne e), b7,
      ((hk.mono (fun _ h => h.elim)).trans ((Keeps.of_grown g3).mono (fun k e => .inl (by injection e)))).trans ((Keeps.of_grown g4).mono (fun k e => .inr (by injection e)))⟩
  have hB73 : ∀ w3, ((w.alloc (.cells ([] : List Value).toArray 155)).alloc (.cells ([.int .i64 0, .int .i64 0, .int .i64 0, .int .i64 0, .int .i64 0, .int .i64 0, .int .i64 0, .int .i64 0, .int .i64 0, .int .i64 0, .slice none 0 0] : List Value).toArray 116)).grownBy w3 (some q6) → Blk w3 q7 51 [v7] := fun w3 g3 => hB7.grown g3 (fun e => by injection e with e; exact hne e.symm)
  have HE := Lib.hid (And.intro hend hB73)
  clear hend hB73 hB7 a0 a1 hk hz h6 h7
  change Code.wp _ _ _ { tmps := #[.pointer (some ⟨q6, 0, none⟩), .pointer (some ⟨q7, 0, none⟩), .iface 155 (.agg #[]), undef, undef, .iface 155 (.agg #[]), .iface 155 (.agg #[]), .bool true, undef, undef, undef, undef, undef, undef, undef, undef, undef, undef], defers := [] } _
  go_wp2_with (first | (refine wpl_set_blk hB6 0 (.pointer (some ⟨w.heap.size + 1, 0, none⟩)) (by kernel_rfl) (by simp) rfl rfl rfl rfl rfl rfl ?_; intro w3 hB63 hg3; have hB7 := HE.out.2 w3 hg3) | (refine wpl_set_blk hB7 0 (.int .i64 5) (by kernel_rfl) (by simp) rfl rfl rfl rfl rfl rfl ?_; intro w4 hB74 hg4) | fail)
  simp [bodyPostS, results, Tryd.results103]
  exact ⟨rfl, HE.out.1 w3 w4 hg3 hg4 hB63 hB74⟩
end Go.Proofs.YtkjmddgnfgbioaaDoor


namespace Go.Proofs.YtkjmddgnfgbioaaDoor
set_option linter.unusedVariables false
set_option linter.unusedSimpArgs false
set_option maxRecDepth 100000
open Go.RowKit

def RunEnd (w : World) (p : St.P) (h : List Int) (fuel : Int) : Ending → World → Prop := fun e w' => ∃ g F vt, e = .returned (.tuple #[.pointer (some ⟨g, 0, none⟩), .int .i64 (Sr.err p h fuel)]) ∧ RuO w.heap.size w' g F (Sr.fin p h fuel) vt ∧ Sr.Fit F (Sr.fin p h fuel) ∧ Below w.heap.size w w'

theorem Sr.err_of {p : St.P} {h : List Int} {fuel E0 : Int} (hE : E0 = (if Sr.free p ≠ [] then 4 else if fuel < 0 ∨ 2000 < fuel then 2 else 0)) : (E0 ≠ 0 → Sr.err p h fuel = E0 ∧ Sr.fin p h fuel = Sr.M0 Sr.zeros) ∧ (E0 = 0 → (0 ≤ fuel ∧ fuel ≤ 2000) ∧ (fuel < (Sr.go p h).steps → Sr.err p h fuel = 5 ∧ Sr.fin p h fuel = Sr.M0 Sr.zeros) ∧ ((Sr.go p h).steps ≤ fuel → Sr.err p h fuel = 0 ∧ Sr.fin p h fuel = Sr.go p h)) := by
  unfold Sr.fin Sr.err
  by_cases h1 : Sr.free p ≠ []
  · rw [if_pos h1] at hE
    subst hE
    refine ⟨fun _ => ?_, fun h => absurd h (by decide)⟩
    rw [if_pos h1]
    exact ⟨rfl, by simp⟩
  rw [if_neg h1] at hE ⊢
  by_cases h2 : fuel < 0 ∨ 2000 < fuel
  · rw [if_pos h2] at hE
    subst hE
    refine ⟨fun _ => ?_, fun h => absurd h (by decide)⟩
    rw [if_pos h2]
    exact ⟨rfl, by simp⟩
  rw [if_neg h2] at hE ⊢
  refine ⟨fun h => absurd hE h, fun _ => ⟨by omega, fun h3 => ?_, fun h3 => ?_⟩⟩
  · rw [if_pos h3]
    exact ⟨rfl, by simp⟩
  · rw [if_neg (by omega)]
    exact ⟨rfl, by simp⟩
theorem Own.lower {B B' g : Nat} {t : TypeId} {cs : List Value} {rs : List Rw} {w : World} (h : Own B w g t cs rs) (hB : B' ≤ B) : Own B' w g t cs rs :=
  ⟨h.blk, fun r hr => own_base (h.rows r hr) hB, h.ap, h.ng, Nat.le_trans hB h.base, Nat.le_trans hB h.lo⟩
theorem Sr.own_new {w : World} {q F : Nat} {h : List Int} (hq : Blk w q 116 (Sr.rcells F (Sr.M0 h) (.slice none 0 0))) {B : Nat} (hB : B ≤ q) : RuO B w q F (Sr.M0 h) (.slice none 0 0) := by
  have := hq.lt
  refine ⟨hq, fun r hr => ?_, fun i j r s hr hs hij k hk => ?_, fun r hr => ?_, by omega, hB⟩
  · rw [List.mem_singleton.1 hr]; exact World.ownsRow_nil _ _ _ _
  · have hi := (List.getElem?_eq_some_iff.1 hr).1
    have hj := (List.getElem?_eq_some_iff.1 hs).1
    simp [Sr.rows] at hi hj
    omega
  · rw [List.mem_singleton.1 hr]; simp [Value.ownBlock]

theorem Sr.fit0 : Sr.Fit 0 (Sr.M0 Sr.zeros) := ⟨rfl, by intro x hx; simp [Sr.M0, Sr.zeros] at hx; subst hx; unfold Ex.rng; omega, Nat.le_refl _, Nat.le_refl _⟩

set_option maxHeartbeats 1000000 in
theorem run_any (p : St.P) (h : List Int) (fuel : Int) (w : World) (B n c : Nat) (A : Option Addr) (hB : B ≤ w.heap.size) (hp : PR B w A n p) (hnc : n ≤ c) (hc : c ≤ maxLen) (hsz : p.size ≤ 274877906944) (hh : h.length = 8) (hr : ∀ x ∈ h, Ex.rng x) :
    Calls Tryd.prog 74 #[.slice A n c, .agg (ints .i64 h).toArray, .int .i64 fuel] w (RunEnd w p h fuel) := by
  have hmf : ∀ (fn : Fn) (first cap : Array Value) (w : World), (Instr.makeFunc fn first cap).run Tryd.prog w = .ok (.func fn first cap) w := fun _ _ _ _ => rfl
  obtain ⟨b0, b1, b2, b3, b4, b5, b6, b7, rfl⟩ := Sr.heap8 hh
  obtain ⟨x0, x1, x2, hz, hb0⟩ := allocs3 w (ints .i64 [b0, b1, b2, b3, b4, b5, b6, b7]) [.pointer none] [.int .i64 0] 50 112 51
  have hw := wrong_any p _ B n c A fuel (Nat.le_trans hB hb0.size) (hp.later (hb0.mono hB)) hnc hc (by omega)
  simp only [ints, List.map_cons, List.map_nil] at x0 x1 x2 hz hb0 hw ⊢
  have hp := hp.up hB
  obtain ⟨E0, hE0⟩ : ∃ E0 : Int, E0 = (if Sr.free p ≠ [] then 4 else if fuel < 0 ∨ 2000 < fuel then 2 else 0) := ⟨_, rfl⟩
  rw [← hE0] at hw
  have hE := Lib.hid hE0
  clear hE0
  go_enter_defers Tryd.func74, Tryd.ntmps74
  go_wp2_with fail
  obtain ⟨Q, hQ⟩ : ∃ Q, Q = w.heap.size := ⟨_, rfl⟩
  generalize (((w.alloc (.cells #[.int .i64 b0, .int .i64 b1, .int .i64 b2, .int .i64 b3, .int .i64 b4, .int .i64 b5, .int .i64 b6, .int .i64 b7] 50)).alloc (.cells #[.pointer none] 112)).alloc (.cells #[.int .i64 0] 51)) = W0 at x0 x1 x2 hz hb0 hw ⊢
  rw [← hQ] at x0 x1 x2 hz ⊢
  obtain ⟨q6, h6⟩ : ∃ q6, q6 = Q + 1 := ⟨_, rfl⟩
  obtain ⟨q7, h7⟩ : ∃ q7, q7 = Q + 1 + 1 := ⟨_, rfl⟩
  rw [← h7, ← h6]
  rw [← h7] at x2
  rw [← h6] at x1
  have HQ := Lib.hid (And.intro hQ (And.intro h6 (And.intro h7 hz)))
  clear hQ h6 h7 hz
  refine hw.mono ?_
  rintro e w1 ⟨rfl, hb1⟩
  have X0 := x0.below hb1
  have X1 := x1.below hb1
  have X2 := x2.below hb1
  have hbw := below_next hb1 hb0
  have hs1 := hb1.size
  have HB := Lib.hid (And.intro hbw hs1)
  clear hw x0 x1 x2 hb0 hb1 hbw hs1
  by_cases h0 : E0 = 0
  · obtain ⟨hfr, hout, hin⟩ := (Sr.err_of (h := [b0, b1, b2, b3, b4, b5, b6, b7]) hE.out).2 h0
    subst h0
    obtain ⟨F, rfl⟩ := Int.eq_ofNat_of_zero_le hfr.1
    have d0 := (X0.cell 0).trans rfl
    have d1 := (X0.cell 1).trans rfl
    have d2 := (X0.cell 2).trans rfl
    have d3 := (X0.cell 3).trans rfl
    have d4 := (X0.cell 4).trans rfl
    have d5 := (X0.cell 5).trans rfl
    have d6 := (X0.cell 6).trans rfl
    have d7 := (X0.cell 7).trans rfl
    simp only [List.getElem?_cons_zero, List.getElem?_cons_succ] at d0 d1 d2 d3 d4 d5 d6 d7
    have hzb := Blk.new w1 116 [.int .i64 b0, .int .i64 b1, .int .i64 b2, .int .i64 b3, .int .i64 b4, .int .i64 b5, .int .i64 b6, .int .i64 b7, .int .i64 (F : Int), .int .i64 0, .slice none 0 0]
    have Y1 := X1.alloc (.cells [.int .i64 b0, .int .i64 b1, .int .i64 b2, .int .i64 b3, .int .i64 b4, .int .i64 b5, .int .i64 b6, .int .i64 b7, .int .i64 (F : Int), .int .i64 0, .slice none 0 0].toArray 116)
    have Y2 := X2.alloc (.cells [.int .i64 b0, .int .i64 b1, .int .i64 b2, .int .i64 b3, .int .i64 b4, .int .i64 b5, .int .i64 b6, .int .i64 b7, .int .i64 (F : Int), .int .i64 0, .slice none 0 0].toArray 116)
    have hq7 := X2.lt
    have hq6 := X1.lt
    have HY := Lib.hid (And.intro Y2 hzb)
    clear Y2 hzb X0 X1 X2
    go_wp2_with (first | (refine wpl_set_blk Y1 0 (.pointer (some ⟨w1.heap.size, 0, none⟩)) (by kernel_rfl) (by simp) rfl rfl rfl rfl rfl rfl ?_; intro w3 hB3 hg3; have e6 := (hB3.cell 0).trans rfl; simp only [List.set_cons_zero, List.getElem?_cons_zero] at e6) | fail)
    have hbw3 : Below w.heap.size w w3 := (below_alloc HB.out.1 _).grown hg3 (by simp; have := HQ.out; have := HB.out; omega) (fun k e => by injection e with e; have := HQ.out; omega)
    have hg : w1.heap.size < w3.heap.size := by have := hg3.size; simp at this; omega
    have hzb3 : Blk w3 w1.heap.size 116 (Sr.rcells F (Sr.M0 [b0, b1, b2, b3, b4, b5, b6, b7]) (.slice none 0 0)) := HY.out.2.grown hg3 (fun e => by injection e with e; omega)
    have hO := Sr.own_new hzb3 (B := W0.heap.size) HB.out.2
    have hp3 : PR W0.heap.size w3 A n p := (hp.later hbw3).up (by have := HQ.out; omega)
    have hfit : Sr.Fit F (Sr.M0 [b0, b1, b2, b3, b4, b5, b6, b7]) := ⟨rfl, hr, Nat.zero_le _, Nat.le_refl _⟩
    have henv : EnvAt w3 (RuT w1.heap.size (Sr.M0 [b0, b1, b2, b3, b4, b5, b6, b7]) (.slice none 0 0)) (.slice none 0 0) [] := ⟨SlV.nil _ _, (by intro i hi; cases hi), (by intro i hi; cases hi), (by intro z hz; cases hz)⟩
    have hblk := block_any p w3 W0.heap.size n c w1.heap.size F A (.slice none 0 0) (.slice none 0 0) (Sr.M0 [b0, b1, b2, b3, b4, b5, b6, b7]) [] 0 hp3 hnc hc hO hfit (by omega) henv (by simp; omega) (by omega)
    rw [show Sr.run p (Ex.bs []) 0 (Sr.M0 [b0, b1, b2, b3, b4, b5, b6, b7]) = Sr.go p [b0, b1, b2, b3, b4, b5, b6, b7] from rfl] at hblk
    have hb7 : Blk w3 q7 51 [.int .i64 0] := HY.out.1.grown hg3 (fun e => by injection e with e; have := HQ.out; omega)
    have hrng : ∀ x ∈ (Sr.go p [b0, b1, b2, b3, b4, b5, b6, b7]).heap, Ex.rng x := Sr.run_rng p [] 0 _ hp.ok (by intro b hb; cases hb) hr
    have hon := Sr.run_on p [] 0 (Sr.M0 [b0, b1, b2, b3, b4, b5, b6, b7])
    have hoff : ∀ k, RuT w1.heap.size (Sr.M0 [b0, b1, b2, b3, b4, b5, b6, b7]) (.slice none 0 0) k → W0.heap.size ≤ k := fun k hk => hO.ge hk
    refine hblk.mono ?_
    clear hblk d0 d1 d2 d3 d4 d5 d6 d7 hp3 henv hO hzb3 e6 hg
    rintro e w4 (⟨h1, rfl, vt4, hT⟩ | ⟨h1, rfl, hk⟩)
    · have B6 := hB3.keeps hT.kp (fun hh => by have := hoff _ hh; have := HQ.out; omega)
      have B7 := hb7.keeps hT.kp (fun hh => by have := hoff _ hh; have := HQ.out; omega)
      have hbw4 : Below w.heap.size w w4 := hbw3.trans (hT.kp.below (by have := hbw3.size; omega) (fun k hk => by have := hoff k hk; have := HQ.out; omega))
      have hlo : ∀ k, RuT w1.heap.size (Sr.go p [b0, b1, b2, b3, b4, b5, b6, b7]) vt4 k → W0.heap.size ≤ k := fun k hk => hT.own.ge hk
      have e6 := (B6.cell 0).trans rfl
      simp only [List.set_cons_zero, List.getElem?_cons_zero] at e6 B6
      have hw4 := hT.own.base
      have HZ := Lib.hid (And.intro hT (And.intro hbw4 (And.intro hlo (And.intro h1 hw4))))
      have B75 : ∀ w5, w4.grownBy w5 (some q6) → Blk w5 q7 51 [.int .i64 0] := fun w5 g5 => B7.grown g5 (fun e => by injection e with e; have := HQ.out; omega)
      clear hT hbw4 hlo B7 hbw3 hg3 hB3 hb7 Y1 hoff
      go_wp2_with (first | (refine wpl_set_blk B6 0 (.pointer (some ⟨w1.heap.size, 0, none⟩)) (by kernel_rfl) (by simp) rfl rfl rfl rfl rfl rfl ?_; intro w5 B65 hg5; have B7 := B75 w5 hg5) | (refine wpl_set_blk B7 0 (.int .i64 0) (by kernel_rfl) (by simp) rfl rfl rfl rfl rfl rfl ?_; intro w6 B76 hg6) | fail)
      refine leaves_cons (f := 103) (args := #[.pointer (some ⟨q6, 0, none⟩), .pointer (some ⟨q7, 0, none⟩)]) (by simp) (by simp [go_sem]) ?_
      refine (catch_idle ⟨q6, 0, none⟩ ⟨q7, 0, none⟩ _).mono ?_
      rintro e u' w'' ⟨rfl, rfl, rfl⟩
      have f6 : w''.cell? ⟨q6, 0, none⟩ = some (.pointer (some ⟨w1.heap.size, 0, none⟩)) := ((B65.grown hg6 (fun e => by injection e with e; have := HQ.out; omega)).cell 0).trans rfl
      have f7 : w''.cell? ⟨q7, 0, none⟩ = some (.int .i64 0) := (B76.cell 0).trans rfl
      simp [Leaves, settle, results, Tryd.results74, go_sem, f6, f7]
      obtain ⟨hT, hbw4, hlo, h1, hw4⟩ := HZ.out
      obtain ⟨he, hf⟩ := hin (by exact_mod_cast h1)
      have k6 : Keeps (fun k => k = q6 ∨ k = q7) w4 w'' := ((Keeps.of_grown hg5).mono (fun k e => .inl (by injection e))).trans ((Keeps.of_grown hg6).mono (fun k e => .inr (by injection e)))
      have hO6 := hT.own.keeps k6 (fun i hi e => by have := hlo i hi; have := HQ.out; omega)
      refine ⟨w1.heap.size, F, vt4, by rw [he], ?_, ?_, ?_⟩
      · rw [hf]; exact hO6.lower (by have := HQ.out; omega)
      · rw [hf]; exact hfit.on hon hrng h1
      · exact hbw4.trans (k6.below (by have := HQ.out; omega) (fun k hk => by have := HQ.out; omega))
    · have B6 := hB3.keeps hk (fun hh => by have := hoff _ hh; have := HQ.out; omega)
      have B7 := hb7.keeps hk (fun hh => by have := hoff _ hh; have := HQ.out; omega)
      have hbw4 : Below w.heap.size w w4 := hbw3.trans (hk.below (by have := hbw3.size; omega) (fun k hk => by have := hoff k hk; have := HQ.out; omega))
      have hs4 := hbw4.size
      clear hk hbw3 hg3 hB3 hb7 Y1 hoff
      go_wp2
      refine leaves_cons (f := 103) (args := #[.pointer (some ⟨q6, 0, none⟩), .pointer (some ⟨q7, 0, none⟩)]) (by simp) (by simp [go_sem]) ?_
      refine (catch_spent q6 q7 _ _ _ B6 B7 (by have := HQ.out; omega)).mono ?_
      rintro e u' w5 ⟨rfl, rfl, q, hq, bq, b6, b7, k5⟩
      have f6 : w5.cell? ⟨q6, 0, none⟩ = some (.pointer (some ⟨q, 0, none⟩)) := (b6.cell 0).trans rfl
      have f7 : w5.cell? ⟨q7, 0, none⟩ = some (.int .i64 5) := (b7.cell 0).trans rfl
      unfold spent'
      simp [Leaves, settle, results, Tryd.results74, go_sem, f6, f7]
      obtain ⟨he, hf⟩ := hout (by exact_mod_cast h1)
      refine ⟨q, 0, .slice none 0 0, by rw [he], ?_, ?_, ?_⟩
      · rw [hf]; exact Sr.own_new bq (by omega)
      · rw [hf]; exact Sr.fit0
      · exact hbw4.trans (k5.below hs4 (fun k hk => by have := HQ.out; omega))
  · have hne : (E0 != 0) = true := by simpa using h0
    have hzb := Blk.new w1 116 [.int .i64 0, .int .i64 0, .int .i64 0, .int .i64 0, .int .i64 0, .int .i64 0, .int .i64 0, .int .i64 0, .int .i64 0, .int .i64 0, .slice none 0 0]
    have Y1 := X1.alloc (.cells [.int .i64 0, .int .i64 0, .int .i64 0, .int .i64 0, .int .i64 0, .int .i64 0, .int .i64 0, .int .i64 0, .int .i64 0, .int .i64 0, .slice none 0 0].toArray 116)
    have Y2 := X2.alloc (.cells [.int .i64 0, .int .i64 0, .int .i64 0, .int .i64 0, .int .i64 0, .int .i64 0, .int .i64 0, .int .i64 0, .int .i64 0, .int .i64 0, .slice none 0 0].toArray 116)
    have hq7 := X2.lt
    have hq6 := X1.lt
    have Y27 : ∀ w3, (w1.alloc (.cells ([.int .i64 0, .int .i64 0, .int .i64 0, .int .i64 0, .int .i64 0, .int .i64 0, .int .i64 0, .int .i64 0, .int .i64 0, .int .i64 0, .slice none 0 0] : List Value).toArray 116)).grownBy w3 (some q6) → Blk w3 q7 51 [.int .i64 0] := fun w3 g3 => Y2.grown g3 (fun e => by injection e with e; have := HQ.out; omega)
    have HY := Lib.hid (And.intro Y27 hzb)
    clear Y2 Y27 hzb X0 X1 X2
    go_wp2_with (first | (refine wpl_set_blk Y1 0 (.pointer (some ⟨w1.heap.size, 0, none⟩)) (by kernel_rfl) (by simp) rfl rfl rfl rfl rfl rfl ?_; intro w3 hB3 hg3; have hB7 := HY.out.1 w3 hg3) | (refine wpl_set_blk hB7 0 (.int .i64 E0) (by kernel_rfl) (by simp) rfl rfl rfl rfl rfl rfl ?_; intro w4 hB4 hg4) | fail)
    have d6 : w4.cell? ⟨q6, 0, none⟩ = some (.pointer (some ⟨w1.heap.size, 0, none⟩)) := ((hB3.grown hg4 (fun e => by injection e with e; have := HQ.out; omega)).cell 0).trans rfl
    have d7 : w4.cell? ⟨q7, 0, none⟩ = some (.int .i64 E0) := (hB4.cell 0).trans rfl
    simp [bodyPostD, Leaves, settle, results, Tryd.results74, go_sem, d6, d7]
    have hq6 := hq6
    refine ⟨w1.heap.size, 0, .slice none 0 0, by rw [((Sr.err_of hE.out).1 h0).1], ?_, ?_, ?_⟩
    · rw [((Sr.err_of hE.out).1 h0).2]
      exact Sr.own_new ((HY.out.2.grown hg3 (fun e => by injection e with e; omega)).grown hg4 (fun e => by injection e with e; omega)) (by have := HQ.out; have := HB.out; omega)
    · rw [((Sr.err_of hE.out).1 h0).2]
      exact Sr.fit0
    · exact ((below_alloc HB.out.1 _).grown hg3 (by simp; have := HQ.out; have := HB.out; omega) (fun k e => by injection e with e; have := HQ.out; omega)).grown hg4 (by have := hg3.size; simp at this; have := HQ.out; have := HB.out; omega) (fun k e => by injection e with e; have := HQ.out; omega)
end Go.Proofs.YtkjmddgnfgbioaaDoor


namespace Go.Proofs.YtkjmddgnfgbioaaDoor
set_option linter.unusedVariables false
set_option linter.unusedSimpArgs false
set_option maxRecDepth 100000
open Go.RowKit

def spentU' : List PanicEntry := [{ v := .iface 122 (.agg #[]), recovered := true }]
theorem ucatch_idle (p q r : Addr) (w : World) :
    CallsD Tryd.prog 77 #[.pointer (some p), .pointer (some q), .pointer (some r)] .returning w fun e u' w' => e = .returned (.tuple #[]) ∧ u' = .returning ∧ w' = w := by
  refine callsD_of_wpS Tryd.func77 rfl fun c₀ cs hu => ?_
  apply wpS_seq
  apply wpS_region
  simp [wpOpsS, go_sem, recoverD, hu, Tryd.ntmps77, Exit.thenS]
  apply wpS_seq
  apply wpS_region
  simp [wpOpsS, go_sem, Exit.thenS]
  refine wpS_cond (t := false) (by simp [Act.eval, Array.replicate]) ?_
  simp only [Bool.false_eq_true, if_false]
  refine wpS_of_wp (wp_skip ?_)
  cases c₀
  simp_all [bodyPostS, results, Tryd.results77]
def zheap : List Value := [.int .i64 0, .int .i64 0, .int .i64 0, .int .i64 0, .int .i64 0, .int .i64 0, .int .i64 0, .int .i64 0]
theorem ucatch_spent (q6 q7 q8 : Nat) (c6 c7 : List Value) (v8 : Value) (w : World) (h6 : Blk w q6 59 c6) (h7 : Blk w q7 50 c7) (h8 : Blk w q8 51 [v8]) (l6 : c6.length = 5) (l7 : c7.length = 8) (n67 : q6 ≠ q7) (n68 : q6 ≠ q8) (n78 : q7 ≠ q8) :
    CallsD Tryd.prog 77 #[.pointer (some ⟨q6, 0, none⟩), .pointer (some ⟨q7, 0, none⟩), .pointer (some ⟨q8, 0, none⟩)] (.panicking spentU) w fun e u' w' =>
      e = .returned (.tuple #[]) ∧ u' = .panicking spentU' ∧ Blk w' q6 59 zterm ∧ Blk w' q7 50 zheap ∧ Blk w' q8 51 [.int .i64 5] ∧ Keeps (fun k => k = q6 ∨ k = q7 ∨ k = q8) w w' := by
  refine callsD_of_wpS Tryd.func77 rfl fun c₀ cs hu => ?_
  apply wpS_seq
  apply wpS_region
  unfold spentU at hu
  simp [wpOpsS, go_sem, recoverD, hu, Tryd.ntmps77, Exit.thenS]
  apply wpS_seq
  apply wpS_region
  simp [wpOpsS, go_sem, Exit.thenS]
  refine wpS_cond (t := true) (by simp [Act.eval, Array.replicate]) ?_
  simp only [if_true]
  refine wpS_of_wp ?_
  have hta : ∀ w, (Instr.typeAssert (.iface 122 (.agg #[])) 20 122 true).run Tryd.prog w = .ok (.tuple #[.agg #[], .bool true]) w := fun w => by kernel_rfl
  clear hu
  have hkA : Keeps (fun _ => False) w (w.alloc (.cells #[] 122)) := (Keeps.refl _ w).alloc _
  have g6 := h6.keeps hkA id
  have g7 := h7.keeps hkA id
  have g8 := h8.keeps hkA id
  have HK := Lib.hid (And.intro hkA (And.intro g7 (And.intro g8 (And.intro n67 (And.intro n68 n78)))))
  clear h6 h7 h8 hkA g7 g8
  have w7 : ∀ w3, (w.alloc (.cells #[] 122)).grownBy w3 (some q6) → Blk w3 q7 50 c7 := fun w3 g3 => HK.out.2.1.grown g3 (fun e => by injection e with e; exact HK.out.2.2.2.1 e.symm)
  have w8 : ∀ w3 w4, (w.alloc (.cells #[] 122)).grownBy w3 (some q6) → w3.grownBy w4 (some q7) → Blk w4 q8 51 [v8] := fun w3 w4 g3 g4 => (HK.out.2.2.1.grown g3 (fun e => by injection e with e; exact HK.out.2.2.2.2.1 e.symm)).grown g4 (fun e => by injection e with e; exact HK.out.2.2.2.2.2 e.symm)
  have H78 := Lib.hid (And.intro w7 w8)
  clear w7 w8 n67 n68 n78
  change Code.wp _ _ _ { tmps := #[.pointer (some ⟨q6, 0, none⟩), .pointer (some ⟨q7, 0, none⟩), .pointer (some ⟨q8, 0, none⟩), .iface 122 (.agg #[]), undef, undef, .iface 122 (.agg #[]), .iface 122 (.agg #[]), .bool true, undef, undef, undef, undef, undef, undef, undef, undef, undef, undef], defers := [] } _
  go_wp2_with (first | (refine wpl_put_blk g6 [.int .i64 0, .int .i64 0, .bool false, .int .i64 0, .slice none 0 0] (by rw [l6]; kernel_rfl) (by rw [l6]; rfl) (by intro v hv; simp at hv; rcases hv with rfl | rfl | rfl | rfl | rfl <;> rfl) rfl rfl rfl rfl ?_; intro w3 hB63 hg3; have hB7 := H78.out.1 w3 hg3) | (refine wpl_put_blk hB7 zheap (by rw [l7]; kernel_rfl) (by rw [l7]; rfl) (by intro v hv; unfold zheap at hv; simp at hv; subst hv; rfl) rfl rfl rfl rfl ?_; intro w4 hB74 hg4; have hB8 := H78.out.2 w3 w4 hg3 hg4) | (refine wpl_set_blk hB8 0 (.int .i64 5) (by kernel_rfl) (by simp) rfl rfl rfl rfl rfl rfl ?_; intro w5 hB85 hg5) | fail)
  simp [bodyPostS, results, Tryd.results77]
  obtain ⟨hkA, -, -, n67, n68, n78⟩ := HK.out
  refine ⟨rfl, (hB63.grown hg4 (fun e => by injection e with e; exact n67 e)).grown hg5 (fun e => by injection e with e; exact n68 e), hB74.grown hg5 (fun e => by injection e with e; exact n78 e), hB85, ?_⟩
  exact (((hkA.mono (fun _ h => h.elim)).trans ((Keeps.of_grown hg3).mono (fun k e => .inl (by injection e)))).trans ((Keeps.of_grown hg4).mono (fun k e => .inr (.inl (by injection e))))).trans ((Keeps.of_grown hg5).mono (fun k e => .inr (.inr (by injection e))))
end Go.Proofs.YtkjmddgnfgbioaaDoor
