/-
  Programs run, in plain Lean: free names; programs behind one another; without what runs side by side; cells that nobody names.
-/
import Derived.Test.YtajddbmmbhdnfaaSrLaw
import Derived.Test.YtajddbmmbhdnfaaExNm
namespace Go.Proofs.Ytajddbmmbhdnfaa.Sr
set_option linter.unusedVariables false
set_option linter.unusedSimpArgs false
set_option maxRecDepth 100000
open Ex St

/-! ### what scope.Free has -/
def use1 (bd acc : List ByteArray) (s : ByteArray) : List ByteArray := if has s bd = false ∧ has s acc = false then acc ++ [s] else acc
def use (bd acc : List ByteArray) (e : X) : List ByteArray := (names [] e).foldl (use1 bd) acc
def fr : P → List ByteArray → List ByteArray → List ByteArray
  | .nil, _, acc => acc
  | .cons k nm a b body els rest, bd, acc =>
    if k = 1 ∨ k = 2 then fr rest (bd ++ [ba nm]) (use bd acc a)
    else if k = 3 then fr rest bd (use bd (use bd acc a) b)
    else if k = 4 ∨ k = 5 then fr rest bd (fr body bd acc)
    else if k = 6 then fr rest bd (fr els bd (fr body bd (use bd acc a)))
    else if k = 7 then fr rest bd (fr body (bd ++ [ba nm]) (use bd (use bd acc a) b))
    else fr rest bd acc
def free (p : P) : List ByteArray := fr p [] []

theorem has_mem (s : ByteArray) (l : List ByteArray) : has s l = true ↔ s ∈ l := by
  unfold has
  rw [List.any_eq_true]
  refine ⟨fun ⟨x, hx, h⟩ => bytes_eq h ▸ hx, fun h => ⟨s, h, by simp⟩⟩
def bss (l : List ByteArray) : List Bs := l.map (·.data.toList)
theorem bss_snoc (l : List ByteArray) (nm : Bs) : bss (l ++ [ba nm]) = bss l ++ [nm] := by simp [bss, ba]
theorem mem_bss (l : List ByteArray) (s : ByteArray) : s.data.toList ∈ bss l ↔ s ∈ l := by
  unfold bss
  rw [List.mem_map]
  refine ⟨fun ⟨x, hx, e⟩ => ?_, fun h => ⟨s, h, rfl⟩⟩
  rw [← ba_data s, ← e, ba_data]
  exact hx
theorem okx_occ (bd : List Bs) : ∀ e : X, okx bd e ↔ ∀ s, occ s e = true → s ∈ bd
  | .num _ => by simp [okx, occ]
  | .bad => by simp [okx, occ]
  | .name x => by
    unfold okx occ
    exact ⟨fun h s hs => by rw [← eq_of_beq hs]; exact h, fun h => h x (by simp)⟩
  | .two _ a b => by
    unfold okx occ
    rw [okx_occ bd a, okx_occ bd b]
    refine ⟨fun h s hs => ?_, fun h => ⟨fun s hs => h s (by simp [hs]), fun s hs => h s (by simp [hs])⟩⟩
    rcases Bool.or_eq_true_iff.1 hs with hs | hs
    · exact h.1 s hs
    · exact h.2 s hs
theorem mem_names (s : ByteArray) (e : X) : s ∈ names [] e ↔ occ s.data.toList e = true := by
  rw [← has_mem, has_occ]
  simp [has]
theorem use1_nil (bd acc : List ByteArray) (s : ByteArray) : use1 bd acc s = [] ↔ acc = [] ∧ s ∈ bd := by
  unfold use1
  rw [← has_mem]
  rcases h : has s bd with _ | _
  · rcases h' : has s acc with _ | _
    · simp
    · simp
      rintro rfl
      simp [has] at h'
  · simp
theorem foldl_nil (bd : List ByteArray) : ∀ (l acc : List ByteArray), l.foldl (use1 bd) acc = [] ↔ acc = [] ∧ ∀ s ∈ l, s ∈ bd
  | [], acc => by simp
  | s :: l, acc => by
    rw [List.foldl_cons, foldl_nil bd l, use1_nil]
    simp [and_assoc]
theorem use_nil (bd acc : List ByteArray) (e : X) : use bd acc e = [] ↔ acc = [] ∧ okx (bss bd) e := by
  unfold use
  rw [foldl_nil, okx_occ]
  refine and_congr Iff.rfl ⟨fun h s hs => ?_, fun h s hs => ?_⟩
  · have := h (ba s) ((mem_names _ _).2 (by simpa [ba] using hs))
    rw [← mem_bss] at this
    simpa [ba] using this
  · rw [← mem_bss]
    exact h _ ((mem_names _ _).1 hs)
theorem fr_nil : ∀ (p : P) (bd acc : List ByteArray), fr p bd acc = [] ↔ acc = [] ∧ cl p (bss bd)
  | .nil, bd, acc => by simp [fr, cl]
  | .cons k nm a b body els rest, bd, acc => by
    unfold fr cl
    split
    · rw [fr_nil rest, use_nil, bss_snoc, and_assoc]
    split
    · rw [fr_nil rest, use_nil, use_nil, and_assoc, and_assoc, and_assoc]
    split
    · rw [fr_nil rest, fr_nil body, and_assoc]
    split
    · rw [fr_nil rest, fr_nil els, fr_nil body, use_nil]
      simp only [and_assoc]
    split
    · rw [fr_nil rest, fr_nil body, use_nil, use_nil, bss_snoc]
      simp only [and_assoc]
    exact fr_nil rest bd acc
theorem free_nil (p : P) : free p = [] ↔ cl p [] := by
  unfold free
  rw [fr_nil]
  simp [bss]

/-! ### one behind the other -/
theorem lab_cases (k : Int) (b e : Nat) : (k = 1 → lab1 k b e = 0) ∧ (k = 2 → lab1 k b e = 1) ∧ (k = 3 → lab1 k b e = 1) ∧ (k = 4 ∨ k = 5 → lab1 k b e = b) ∧ (k = 6 → lab1 k b e = b + e) ∧ (k = 7 → lab1 k b e = b) ∧
    (k ≠ 2 → k ≠ 3 → ¬ (k = 4 ∨ k = 5) → k ≠ 6 → k ≠ 7 → lab1 k b e = 0) := by
  unfold lab1
  refine ⟨?_, ?_, ?_, ?_, ?_, ?_, ?_⟩
  · rintro rfl; simp
  · rintro rfl; simp
  · rintro rfl; simp
  · rintro (rfl | rfl) <;> simp
  · rintro rfl; simp
  · rintro rfl; simp
  · intro h2 h3 h4 h6 h7
    rw [if_neg (by omega), if_neg (by omega), if_neg h6]
theorem run_append : ∀ (p q : P) (env : Env) (l : Nat) (m : M), ∃ env', run (p ++ q) env l m = run q (env ++ env') (l + labels p) (run p env l m)
  | .nil, q, env, l, m => ⟨[], by simp [P.nil_append, run, labels]⟩
  | .cons k nm a b body els rest, q, env, l, m => by
    rw [P.cons_append]
    simp only [run, labels]
    obtain ⟨l1, l2, l3, l4, l6, l7, l8⟩ := lab_cases k (labels body) (labels els)
    by_cases h1 : k = 1
    · obtain ⟨e', h⟩ := run_append rest q (env ++ [(nm, evl env a)]) l m.step
      refine ⟨(nm, evl env a) :: e', ?_⟩
      simp only [if_pos h1, l1 h1, Nat.zero_add]
      simpa using h
    by_cases h2 : k = 2
    · obtain ⟨e', h⟩ := run_append rest q (env ++ [(nm, m.heap.getD (cell (evl env a)) 0)]) (l + 1) (m.step.acc (cell (evl env a)) false l)
      refine ⟨(nm, m.heap.getD (cell (evl env a)) 0) :: e', ?_⟩
      simp only [if_neg h1, if_pos h2, l2 h2, ← Nat.add_assoc]
      simpa using h
    by_cases h3 : k = 3
    · obtain ⟨e', h⟩ := run_append rest q env (l + 1) ((m.step.acc (cell (evl env a)) true l).put (cell (evl env a)) (evl env b))
      refine ⟨e', ?_⟩
      simp only [if_neg h1, if_neg h2, if_pos h3, l3 h3, ← Nat.add_assoc]
      exact h
    by_cases h4 : k = 4 ∨ k = 5
    · obtain ⟨e', h⟩ := run_append rest q env (l + labels body) (run body env l m.step)
      refine ⟨e', ?_⟩
      simp only [if_neg h1, if_neg h2, if_neg h3, if_pos h4, l4 h4, ← Nat.add_assoc]
      exact h
    by_cases h6 : k = 6
    · obtain ⟨e', h⟩ := run_append rest q env (l + (labels body + labels els)) (if evl env a ≠ 0 then run body env l m.step else run els env (l + labels body) m.step)
      refine ⟨e', ?_⟩
      simp only [if_neg h1, if_neg h2, if_neg h3, if_neg h4, if_pos h6, l6 h6]
      rw [← Nat.add_assoc l _ (labels rest)]
      exact h
    by_cases h7 : k = 7
    · obtain ⟨e', h⟩ := run_append rest q env (l + labels body) (iter (evl env b - evl env a).toNat (evl env a) (fun i m => run body (env ++ [(nm, i)]) l m.step) m.step)
      refine ⟨e', ?_⟩
      simp only [if_neg h1, if_neg h2, if_neg h3, if_neg h4, if_neg h6, if_pos h7, l7 h7, ← Nat.add_assoc]
      exact h
    · obtain ⟨e', h⟩ := run_append rest q env l m
      refine ⟨e', ?_⟩
      simp only [if_neg h1, if_neg h2, if_neg h3, if_neg h4, if_neg h6, if_neg h7, l8 h2 h3 h4 h6 h7, Nat.zero_add]
      exact h
theorem cl_append : ∀ (p q : P) (bd : List Bs), (cl p bd → cl q bd → cl (p ++ q) bd) ∧ (cl (p ++ q) bd → cl p bd)
  | .nil, q, bd => ⟨fun _ h => h, fun _ => trivial⟩
  | .cons k nm a b body els rest, q, bd => by
    rw [P.cons_append]
    simp only [cl]
    split
    · exact ⟨fun h h' => ⟨h.1, (cl_append rest q _).1 h.2 (cl_mono q (fun s hs => List.mem_append_left _ hs) h')⟩, fun h => ⟨h.1, (cl_append rest q _).2 h.2⟩⟩
    split
    · exact ⟨fun h h' => ⟨h.1, (cl_append rest q _).1 h.2 h'⟩, fun h => ⟨h.1, (cl_append rest q _).2 h.2⟩⟩
    split
    · exact ⟨fun h h' => ⟨h.1, (cl_append rest q _).1 h.2 h'⟩, fun h => ⟨h.1, (cl_append rest q _).2 h.2⟩⟩
    split
    · exact ⟨fun h h' => ⟨h.1, (cl_append rest q _).1 h.2 h'⟩, fun h => ⟨h.1, (cl_append rest q _).2 h.2⟩⟩
    split
    · exact ⟨fun h h' => ⟨h.1, (cl_append rest q _).1 h.2 h'⟩, fun h => ⟨h.1, (cl_append rest q _).2 h.2⟩⟩
    exact ⟨fun h h' => (cl_append rest q _).1 h h', fun h => (cl_append rest q _).2 h⟩

/-! ### where it begins is no matter: the same heap, as many steps more -/
/-- the same, but for steps, labels and what was there -/
structure Like (m m' : M) (d : Nat) : Prop where
  heap : m'.heap = m.heap
  steps : m'.steps = m.steps + d
theorem iter_like {d : Nat} {f g : Int → M → M} (h : ∀ i m m', Like m m' d → Like (f i m) (g i m') d) : ∀ n i m m', Like m m' d → Like (iter n i f m) (iter n i g m') d
  | 0, _, _, _, hl => hl
  | n + 1, i, m, m', hl => iter_like h n (i + 1) _ _ (h i m m' hl)
theorem run_like : ∀ (p : P) (env : Env) (l l' : Nat) (m m' : M) (d : Nat), Like m m' d → Like (run p env l m) (run p env l' m') d
  | .nil, _, _, _, _, _, _, h => h
  | .cons k nm a b body els rest, env, l, l', m, m', d, h => by
    have hs : Like m.step m'.step d := ⟨h.heap, by simp [M.step, h.steps]; omega⟩
    unfold run
    rw [h.heap]
    split
    · exact run_like rest _ _ _ _ _ _ hs
    split
    · exact run_like rest _ _ _ _ _ _ ⟨hs.heap, hs.steps⟩
    split
    · exact run_like rest _ _ _ _ _ _ ⟨by simp [M.put, M.acc, hs.heap], hs.steps⟩
    split
    · exact run_like rest _ _ _ _ _ _ (run_like body _ _ _ _ _ _ hs)
    split
    · refine run_like rest _ _ _ _ _ _ ?_
      split
      · exact run_like body _ _ _ _ _ _ hs
      · exact run_like els _ _ _ _ _ _ hs
    split
    · exact run_like rest _ _ _ _ _ _ (iter_like (fun i m m' h => run_like body (env ++ [(nm, i)]) l l' m.step m'.step d ⟨h.heap, show m'.steps + 1 = m.steps + 1 + d by rw [h.steps]; omega⟩) _ _ _ _ hs)
    exact run_like rest _ _ _ _ _ _ h
/-- how far a program comes -/
def M0 (h : List Int) : M := ⟨h, 0, []⟩
def go (p : P) (h : List Int) : M := run p [] 0 (M0 h)
theorem go_append (p q : P) (h : List Int) (hq : cl q []) : (go (p ++ q) h).heap = (go q (go p h).heap).heap ∧ (go (p ++ q) h).steps = (go p h).steps + (go q (go p h).heap).steps ∧ (go p h).steps ≤ (go (p ++ q) h).steps := by
  obtain ⟨e', h1⟩ := run_append p q [] 0 (M0 h)
  have h2 := run_agree q [] ([] ++ e') [] (0 + labels p) (run p [] 0 (M0 h)) hq (fun s hs => by cases hs)
  have h3 := run_like q [] 0 (0 + labels p) (M0 (go p h).heap) (run p [] 0 (M0 h)) (go p h).steps ⟨rfl, by simp [M0, go]⟩
  have h4 := (run_on q ([] ++ e') (0 + labels p) (run p [] 0 (M0 h))).steps
  rw [← h2, ← h1] at h3
  exact ⟨h3.heap, by have := h3.steps; unfold go at *; omega, by unfold go; rw [h1]; exact h4⟩
theorem go_le (p q : P) (h : List Int) : (go p h).steps ≤ (go (p ++ q) h).steps := by
  obtain ⟨e', h1⟩ := run_append p q [] 0 (M0 h)
  have h4 := (run_on q ([] ++ e') (0 + labels p) (run p [] 0 (M0 h))).steps
  unfold go
  rw [h1]
  exact h4

/-! ### without what runs side by side -/
theorem labels_plain : ∀ p : P, labels (plain p) = labels p
  | .nil => rfl
  | .cons k nm a b body els rest => by
    unfold plain
    split
    · rename_i h
      simp only [labels]
      rw [labels_plain body, labels_plain rest]
      unfold lab1
      rw [if_neg (by omega), if_neg (by omega), if_pos rfl, if_neg (by omega), if_pos (by omega)]
      omega
    · simp only [labels]
      rw [labels_plain body, labels_plain els, labels_plain rest]
theorem run_plain : ∀ (p : P) (env : Env) (l : Nat) (m : M), run (plain p) env l m = run p env l m
  | .nil, _, _, _ => rfl
  | .cons k nm a b body els rest, env, l, m => by
    unfold plain
    split
    · rename_i h
      have h1 : k ≠ 1 := by omega
      have h2 : k ≠ 2 := by omega
      have h3 : k ≠ 3 := by omega
      simp only [run, if_neg h1, if_neg h2, if_neg h3, if_pos h]
      rw [if_neg (by decide), if_neg (by decide), if_neg (by decide), if_neg (by decide), if_pos (by decide), if_pos (show evl env (.num 1) ≠ 0 by simp [evl]), run_plain rest, run_plain body, labels_plain body]
      rfl
    · simp only [run]
      simp only [run_plain rest, run_plain body, run_plain els, labels_plain body, labels_plain els]
theorem cl_plain : ∀ (p : P) (bd : List Bs), cl (plain p) bd ↔ cl p bd
  | .nil, _ => Iff.rfl
  | .cons k nm a b body els rest, bd => by
    unfold plain
    split
    · rename_i h
      simp only [cl]
      rw [if_neg (by decide), if_neg (by decide), if_neg (by decide), if_pos trivial, if_neg (by omega), if_neg (by omega), if_pos h, cl_plain rest, cl_plain body]
      simp [okx]
    · simp only [cl]
      simp only [cl_plain rest, cl_plain body, cl_plain els]
theorem go_plain (p : P) (h : List Int) : go (plain p) h = go p h := run_plain p _ _ _
theorem free_plain (p : P) : free (plain p) = [] ↔ free p = [] := by rw [free_nil, free_nil, cl_plain]

/-! ### a cell that nobody names -/
theorem getD_set_ne (h : List Int) (c d : Nat) (v : Int) (hne : d ≠ c) : (h.set c v).getD d 0 = h.getD d 0 := by
  simp only [List.getD_eq_getElem?_getD]
  rw [List.getElem?_set_ne (fun e => hne e.symm)]
def M.but (m : M) (c : Nat) (v : Int) : M := ⟨m.heap.set c v, m.steps, m.trace⟩
/-- nobody names the cell between -/
def Free (c : Nat) (m m' : M) : Prop := ∃ t, m'.trace = m.trace ++ t ∧ ∀ x ∈ t, x.1 ≠ (c : Int)
theorem Free.parts {c : Nat} {a b d : M} (h : Free c a d) (h1 : On a b) (h2 : On b d) : Free c a b ∧ Free c b d := by
  obtain ⟨t, h3, h4⟩ := h
  obtain ⟨-, -, t1, h5, -, -⟩ := h1
  obtain ⟨-, -, t2, h6, -, -⟩ := h2
  have : t = t1 ++ t2 := by
    rw [h6, h5, List.append_assoc] at h3
    exact (List.append_cancel_left h3).symm
  subst this
  exact ⟨⟨t1, h5, fun x hx => h4 x (List.mem_append_left _ hx)⟩, ⟨t2, h6, fun x hx => h4 x (List.mem_append_right _ hx)⟩⟩
theorem iter_but {c : Nat} {v : Int} {f : Int → M → M} (ho : ∀ i m, On m (f i m)) (h : ∀ i m, Free c m (f i m) → f i (m.but c v) = (f i m).but c v) : ∀ n i m, Free c m (iter n i f m) → iter n i f (m.but c v) = (iter n i f m).but c v
  | 0, _, _, _ => rfl
  | n + 1, i, m, hf => by
    obtain ⟨f1, f2⟩ := hf.parts (ho i m) (On.iter ho n (i + 1) (f i m))
    rw [iter, iter, h i m f1, iter_but ho h n (i + 1) _ f2]
theorem run_but (c : Nat) (v : Int) : ∀ (p : P) (env : Env) (l : Nat) (m : M), Free c m (run p env l m) → run p env l (m.but c v) = (run p env l m).but c v
  | .nil, _, _, _, _ => rfl
  | .cons k nm a b body els rest, env, l, m, hf => by
    unfold run at hf ⊢
    by_cases h1 : k = 1
    · rw [if_pos h1] at hf
      rw [if_pos h1, if_pos h1]
      exact run_but c v rest _ _ _ (hf.parts (On.step m) (run_on _ _ _ _)).2
    rw [if_neg h1] at hf
    rw [if_neg h1, if_neg h1]
    by_cases h2 : k = 2
    · rw [if_pos h2] at hf
      rw [if_pos h2, if_pos h2]
      obtain ⟨f1, f2⟩ := hf.parts (On.read m _ _) (run_on _ _ _ _)
      obtain ⟨t, ht, hx⟩ := f1
      have : cell (evl env a) ≠ c := fun e => by
        have ht' : t = [(((cell (evl env a) : Nat) : Int), false, (l : Int))] := by
          simp only [M.step, M.acc] at ht
          exact (List.append_cancel_left ht).symm
        exact hx _ (by rw [ht']; exact List.mem_singleton.2 rfl) (by simp [e])
      rw [show (m.but c v).heap.getD (cell (evl env a)) 0 = m.heap.getD (cell (evl env a)) 0 from getD_set_ne _ _ _ _ this]
      exact run_but c v rest _ _ _ f2
    rw [if_neg h2] at hf
    rw [if_neg h2, if_neg h2]
    by_cases h3 : k = 3
    · rw [if_pos h3] at hf
      rw [if_pos h3, if_pos h3]
      obtain ⟨f1, f2⟩ := hf.parts (On.write m _ _ _) (run_on _ _ _ _)
      obtain ⟨t, ht, hx⟩ := f1
      have : cell (evl env a) ≠ c := fun e => by
        have ht' : t = [(((cell (evl env a) : Nat) : Int), true, (l : Int))] := by
          simp only [M.step, M.acc, M.put] at ht
          exact (List.append_cancel_left ht).symm
        exact hx _ (by rw [ht']; exact List.mem_singleton.2 rfl) (by simp [e])
      have e : ((m.but c v).step.acc (cell (evl env a)) true l).put (cell (evl env a)) (evl env b) = ((m.step.acc (cell (evl env a)) true l).put (cell (evl env a)) (evl env b)).but c v := by
        simp only [M.but, M.step, M.acc, M.put]
        rw [List.set_comm _ _ (fun e => this e.symm)]
      rw [e]
      exact run_but c v rest _ _ _ f2
    rw [if_neg h3] at hf
    rw [if_neg h3, if_neg h3]
    by_cases h4 : k = 4 ∨ k = 5
    · rw [if_pos h4] at hf
      rw [if_pos h4, if_pos h4]
      obtain ⟨f1, f2⟩ := hf.parts ((On.step m).trans (run_on body _ _ _)) (run_on _ _ _ _)
      rw [show (m.but c v).step = m.step.but c v from rfl, run_but c v body _ _ _ (f1.parts (On.step m) (run_on _ _ _ _)).2]
      exact run_but c v rest _ _ _ f2
    rw [if_neg h4] at hf
    rw [if_neg h4, if_neg h4]
    by_cases h6 : k = 6
    · rw [if_pos h6] at hf
      rw [if_pos h6, if_pos h6]
      by_cases hz : evl env a ≠ 0
      · rw [if_pos hz] at hf
        rw [if_pos hz, if_pos hz]
        obtain ⟨f1, f2⟩ := hf.parts ((On.step m).trans (run_on body _ _ _)) (run_on _ _ _ _)
        rw [show (m.but c v).step = m.step.but c v from rfl, run_but c v body _ _ _ (f1.parts (On.step m) (run_on _ _ _ _)).2]
        exact run_but c v rest _ _ _ f2
      · rw [if_neg hz] at hf
        rw [if_neg hz, if_neg hz]
        obtain ⟨f1, f2⟩ := hf.parts ((On.step m).trans (run_on els _ _ _)) (run_on _ _ _ _)
        rw [show (m.but c v).step = m.step.but c v from rfl, run_but c v els _ _ _ (f1.parts (On.step m) (run_on _ _ _ _)).2]
        exact run_but c v rest _ _ _ f2
    rw [if_neg h6] at hf
    rw [if_neg h6, if_neg h6]
    by_cases h7 : k = 7
    · rw [if_pos h7] at hf
      rw [if_pos h7, if_pos h7]
      have ho : ∀ (i : Int) (m : M), On m (run body (env ++ [(nm, i)]) l m.step) := fun i m => (On.step m).trans (run_on body _ _ _)
      obtain ⟨f1, f2⟩ := hf.parts ((On.step m).trans (On.iter ho _ _ _)) (run_on _ _ _ _)
      rw [show (m.but c v).step = m.step.but c v from rfl, iter_but ho (fun i m hf => by
        rw [show (m.but c v).step = m.step.but c v from rfl]
        exact run_but c v body _ _ _ (hf.parts (On.step m) (run_on _ _ _ _)).2) _ _ _ (f1.parts (On.step m) (On.iter ho _ _ _)).2]
      exact run_but c v rest _ _ _ f2
    rw [if_neg h7] at hf
    rw [if_neg h7, if_neg h7]
    exact run_but c v rest _ _ _ hf
theorem go_but (p : P) (h : List Int) (c : Nat) (v : Int) (hf : ∀ x ∈ (go p h).trace, x.1 ≠ (c : Int)) : (go p (h.set c v)).heap = (go p h).heap.set c v ∧ (go p (h.set c v)).steps = (go p h).steps := by
  have := run_but c v p [] 0 (M0 h) ⟨(go p h).trace, by simp [M0, go], hf⟩
  unfold go
  rw [show M0 (h.set c v) = (M0 h).but c v from rfl, this]
  exact ⟨rfl, rfl⟩
theorem go_kept (p : P) (h : List Int) (c : Nat) (hf : ∀ x ∈ (go p h).trace, x.2.1 = true → x.1 ≠ (c : Int)) : (go p h).heap.getD c 0 = h.getD c 0 := by
  obtain ⟨-, -, t, h1, -, h2⟩ := run_on p [] 0 (M0 h)
  refine h2 c ?_
  rw [show t = (go p h).trace by unfold go; rw [h1]; simp [M0]]
  exact hf

/-! ### with so much fuel -/
/-- what is wrong: 0 nothing, 2 the fuel is out of range, 4 a name, 5 it did not do -/
def err (p : P) (h : List Int) (fuel : Int) : Int := if free p ≠ [] then 4 else if fuel < 0 ∨ 2000 < fuel then 2 else if fuel < (go p h).steps then 5 else 0
def zeros : List Int := [0, 0, 0, 0, 0, 0, 0, 0]
def fin (p : P) (h : List Int) (fuel : Int) : M := if err p h fuel = 0 then go p h else M0 zeros
end Go.Proofs.Ytajddbmmbhdnfaa.Sr
