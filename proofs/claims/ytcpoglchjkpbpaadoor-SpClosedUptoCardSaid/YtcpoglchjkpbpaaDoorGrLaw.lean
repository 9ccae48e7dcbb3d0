/-
  Graphs without rounds, in plain Lean: node after node is taken behind which no other one waits; what is behind what. No program is named here.
-/
import Derived.Lib.Hide
namespace Go.Proofs.YtcpoglchjkpbpaaDoor.Gr
set_option linter.unusedVariables false
set_option linter.unusedSimpArgs false
set_option maxRecDepth 100000

abbrev Ed := Nat × Nat
/-- m waits no longer: it is not out, and all that lead to it are -/
def rdy (es : List Ed) (out : List Nat) (m : Nat) : Bool := !out.contains m && es.all fun e => e.2 != m || out.contains e.1
def nxt (N : Nat) (es : List Ed) (out : List Nat) : Option Nat := (List.range N).find? (rdy es out)
def run (N : Nat) (es : List Ed) : Nat → List Nat → List Nat
  | 0, out => out
  | k + 1, out => match nxt N es out with | none => out | some n => run N es k (out ++ [n])
def take (N : Nat) (es : List Ed) : List Nat := run N es N []

theorem rdy_iff {es : List Ed} {out : List Nat} {m : Nat} : rdy es out m = true ↔ m ∉ out ∧ ∀ e ∈ es, e.2 = m → e.1 ∈ out := by
  unfold rdy
  rw [Bool.and_eq_true, List.all_eq_true]
  constructor
  · rintro ⟨h1, h2⟩
    refine ⟨by simpa using h1, fun e he em => ?_⟩
    have := h2 e he
    rw [Bool.or_eq_true] at this
    rcases this with h | h
    · simp [em] at h
    · simpa using h
  · rintro ⟨h1, h2⟩
    refine ⟨by simpa using h1, fun e he => ?_⟩
    rw [Bool.or_eq_true]
    by_cases em : e.2 = m
    · exact .inr (by simpa using h2 e he em)
    · exact .inl (by simpa using em)
theorem nxt_some {N : Nat} {es : List Ed} {out : List Nat} {n : Nat} (h : nxt N es out = some n) : n < N ∧ n ∉ out ∧ (∀ e ∈ es, e.2 = n → e.1 ∈ out) ∧ ∀ m, m < n → rdy es out m = false := by
  unfold nxt at h
  have h1 := List.find?_some h
  have h2 := List.mem_of_find?_eq_some h
  obtain ⟨h3, h4⟩ := rdy_iff.1 h1
  refine ⟨List.mem_range.1 h2, h3, h4, fun m hm => ?_⟩
  obtain ⟨-, as, bs, e, h5⟩ := List.find?_eq_some_iff_append.1 h
  have hl : as.length = n := by
    have hh : (as ++ n :: bs)[as.length]? = some n := by simp
    rw [← e] at hh
    obtain ⟨h6, h7⟩ := List.getElem?_eq_some_iff.1 hh
    simpa using h7
  have hm' : m ∈ as := by
    have hh : (List.range N)[m]? = some m := by have := List.mem_range.1 h2; exact List.getElem?_range (by omega)
    rw [e, List.getElem?_append_left (by omega)] at hh
    exact List.mem_of_getElem? hh
  simpa using h5 m hm'
theorem nxt_none {N : Nat} {es : List Ed} {out : List Nat} (h : nxt N es out = none) : ∀ m, m < N → rdy es out m = false := fun m hm => by
  have := List.find?_eq_none.1 h m (List.mem_range.2 hm)
  simpa using this

/-- nodes, each once, each behind those that lead to it -/
structure Good (N : Nat) (es : List Ed) (out : List Nat) : Prop where
  nd : out.Nodup
  lt : ∀ m ∈ out, m < N
  topo : ∀ i m, out[i]? = some m → ∀ e ∈ es, e.2 = m → e.1 ∈ out.take i
theorem Good.nil (N : Nat) (es : List Ed) : Good N es [] := ⟨List.nodup_nil, fun _ h => (by cases h), fun i m h => by rw [List.getElem?_nil] at h; cases h⟩
theorem Good.snoc {N : Nat} {es : List Ed} {out : List Nat} {n : Nat} (h : Good N es out) (hn : nxt N es out = some n) : Good N es (out ++ [n]) := by
  obtain ⟨h1, h2, h3, -⟩ := nxt_some hn
  refine ⟨List.nodup_append.2 ⟨h.nd, by simp, fun a ha b hb e => h2 (by rw [← List.mem_singleton.1 hb, ← e]; exact ha)⟩, fun m hm => ?_, fun i m hi e he em => ?_⟩
  · rcases List.mem_append.1 hm with hm | hm
    · exact h.lt m hm
    · rw [List.mem_singleton.1 hm]; exact h1
  · by_cases hil : i < out.length
    · rw [List.getElem?_append_left hil] at hi
      rw [List.take_append_of_le_length (by omega)]
      exact h.topo i m hi e he em
    · have hil' : i = out.length := by
        obtain ⟨h6, -⟩ := List.getElem?_eq_some_iff.1 hi
        simp at h6
        omega
      subst hil'
      rw [List.take_append_of_le_length (by omega), List.take_length]
      simp at hi
      subst hi
      exact h3 e he em
theorem good_run {N : Nat} {es : List Ed} : ∀ (k : Nat) (out : List Nat), Good N es out → Good N es (run N es k out)
  | 0, out, h => h
  | k + 1, out, h => by
    unfold run
    cases hn : nxt N es out with
    | none => exact h
    | some n => exact good_run k _ (h.snoc hn)
theorem good_take (N : Nat) (es : List Ed) : Good N es (take N es) := good_run N [] (Good.nil N es)
theorem Good.length {N : Nat} {es : List Ed} {out : List Nat} (h : Good N es out) : out.length ≤ N := by
  have := h.nd.length_le_of_subset (l₂ := List.range N) (fun m hm => List.mem_range.2 (h.lt m hm))
  simpa using this
/-- enough rounds: none is left behind -/
theorem run_stop {N : Nat} {es : List Ed} : ∀ (k : Nat) (out : List Nat), Good N es out → N ≤ k + out.length → nxt N es (run N es k out) = none
  | 0, out, h, hk => by
    cases hn : nxt N es out with
    | none => exact hn
    | some n =>
      have := (h.snoc hn).length
      simp at this
      omega
  | k + 1, out, h, hk => by
    unfold run
    cases hn : nxt N es out with
    | none => exact hn
    | some n => exact run_stop k _ (h.snoc hn) (by simp; omega)
theorem take_stop (N : Nat) (es : List Ed) : nxt N es (take N es) = none := run_stop N [] (Good.nil N es) (by simp)
/-- all nodes are taken -/
theorem Good.full {N : Nat} {es : List Ed} {out : List Nat} (h : Good N es out) (hl : out.length = N) : ∀ m, m < N → m ∈ out := fun m hm => by
  by_cases hc : m ∈ out
  · exact hc
  · have hnd : (m :: out).Nodup := List.nodup_cons.2 ⟨hc, h.nd⟩
    have := hnd.length_le_of_subset (l₂ := List.range N) (fun x hx => by
      rcases List.mem_cons.1 hx with rfl | hx
      · exact List.mem_range.2 hm
      · exact List.mem_range.2 (h.lt x hx))
    simp at this
    omega

/-! ### what is behind what -/
inductive Way (es : List Ed) : Nat → Nat → Prop
  | one {a b : Nat} : (a, b) ∈ es → Way es a b
  | on {a b c : Nat} : (a, b) ∈ es → Way es b c → Way es a c
theorem Way.trans {es : List Ed} {a b c : Nat} (h : Way es a b) (k : Way es b c) : Way es a c := by
  induction h with
  | one h => exact .on h k
  | on h _ ih => exact .on h (ih k)
theorem Way.head {es : List Ed} {a c : Nat} (h : Way es a c) : ∃ b, (a, b) ∈ es ∧ (b = c ∨ Way es b c) := by
  cases h with
  | one h => exact ⟨_, h, .inl rfl⟩
  | on h k => exact ⟨_, h, .inr k⟩
theorem Way.last {es : List Ed} {a c : Nat} (h : Way es a c) : ∃ b, (b, c) ∈ es := by
  induction h with
  | one h => exact ⟨_, h⟩
  | on _ _ ih => exact ih
/-- the place in the order goes up along a way -/
theorem Good.up {N : Nat} {es : List Ed} {out : List Nat} (h : Good N es out) {a b : Nat} (hw : Way es a b) : ∀ j : Nat, out[j]? = some b → ∃ i : Nat, i < j ∧ out[i]? = some a := by
  induction hw with
  | one he =>
    intro j hj
    have := h.topo j _ hj _ he rfl
    obtain ⟨i, hi⟩ := List.getElem?_of_mem this
    rw [List.getElem?_take] at hi
    split at hi
    · exact ⟨i, by assumption, hi⟩
    · cases hi
  | on he _ ih =>
    intro j hj
    obtain ⟨k, hk, hkb⟩ := ih j hj
    have := h.topo k _ hkb _ he rfl
    obtain ⟨i, hi⟩ := List.getElem?_of_mem this
    rw [List.getElem?_take] at hi
    split at hi
    · exact ⟨i, by omega, hi⟩
    · cases hi
theorem Good.inj {N : Nat} {es : List Ed} {out : List Nat} (h : Good N es out) {i j a : Nat} (hi : out[i]? = some a) (hj : out[j]? = some a) : i = j := by
  obtain ⟨h1, h2⟩ := List.getElem?_eq_some_iff.1 hi
  obtain ⟨h3, h4⟩ := List.getElem?_eq_some_iff.1 hj
  exact (List.getElem_inj h.nd).1 (by rw [h2, h4])
theorem Good.not_round {N : Nat} {es : List Ed} {out : List Nat} (h : Good N es out) (hl : out.length = N) (hes : ∀ e ∈ es, e.2 < N) (a : Nat) : ¬ Way es a a := fun hw => by
  obtain ⟨b, hb⟩ := hw.last
  have := h.full hl a (hes _ hb)
  obtain ⟨j, hj⟩ := List.getElem?_of_mem this
  obtain ⟨i, hi, hia⟩ := h.up hw j hj
  have := h.inj hia hj
  omega

/-! ### where a way leads, in sets; the nodes are taken from the last to the first -/
def next (es : List Ed) (n : Nat) : List Nat := (es.filter fun e => e.1 == n).map (·.2)
theorem mem_next {es : List Ed} {n m : Nat} : m ∈ next es n ↔ (n, m) ∈ es := by
  unfold next
  rw [List.mem_map]
  constructor
  · rintro ⟨⟨a, b⟩, h, rfl⟩
    rw [List.mem_filter] at h
    have : a = n := by simpa using h.2
    rw [← this]
    exact h.1
  · intro h
    exact ⟨(n, m), by rw [List.mem_filter]; exact ⟨h, by simp⟩, rfl⟩
section
variable {S : Type} (mem : S → Nat → Prop) (em : S) (un : S → Nat → S → S)
/-- one node: all that it leads to, and what is behind these -/
def beh1 (es : List Ed) (B : List S) (n : Nat) : S := (next es n).foldl (fun s m => un s m (B.getD m em)) em
def behL (es : List Ed) : List Nat → List S → List S
  | [], B => B
  | n :: l, B => behL es l (B.set n (beh1 em un es B n))
theorem mem_fold (he : ∀ x, ¬ mem em x) (hu : ∀ s m t x, mem (un s m t) x ↔ mem s x ∨ x = m ∨ mem t x) (B : List S) (x : Nat) :
    ∀ (l : List Nat) (s : S), mem (l.foldl (fun s m => un s m (B.getD m em)) s) x ↔ mem s x ∨ ∃ m ∈ l, x = m ∨ mem (B.getD m em) x
  | [], s => by simp
  | m :: l, s => by
    rw [List.foldl_cons, mem_fold he hu B x l, hu]
    constructor
    · rintro ((h | h) | ⟨m', h1, h2⟩)
      · exact .inl h
      · exact .inr ⟨m, List.mem_cons_self, h⟩
      · exact .inr ⟨m', List.mem_cons_of_mem _ h1, h2⟩
    · rintro (h | ⟨m', h1, h2⟩)
      · exact .inl (.inl h)
      · rcases List.mem_cons.1 h1 with rfl | h1
        · exact .inl (.inr h2)
        · exact .inr ⟨m', h1, h2⟩
theorem behL_length (es : List Ed) : ∀ (l : List Nat) (B : List S), (behL em un es l B).length = B.length
  | [], _ => rfl
  | n :: l, B => by unfold behL; rw [behL_length es l]; simp
/-- what is right stays right, and all become right -/
theorem behL_right (he : ∀ x, ¬ mem em x) (hu : ∀ s m t x, mem (un s m t) x ↔ mem s x ∨ x = m ∨ mem t x) (es : List Ed) : ∀ (l done : List Nat) (B : List S),
    (∀ n ∈ l, n < B.length) → (∀ n ∈ done, ∀ x, mem (B.getD n em) x ↔ Way es n x) → (∀ n ∈ l, n ∉ done) → l.Nodup → (∀ i n, l[i]? = some n → ∀ m, (n, m) ∈ es → m ∈ done ∨ m ∈ l.take i) →
    ∀ n, (n ∈ done ∨ n ∈ l) → ∀ x, mem ((behL em un es l B).getD n em) x ↔ Way es n x
  | [], done, B, _, hd, _, _, _, n, hn, x => by
    rcases hn with hn | hn
    · exact hd n hn x
    · cases hn
  | k :: l, done, B, hlt, hd, hnot, hnd, hnext, n, hn, x => by
    unfold behL
    have hk : k < B.length := hlt k List.mem_cons_self
    have hkd : k ∉ done := hnot k List.mem_cons_self
    have hkl : k ∉ l := (List.nodup_cons.1 hnd).1
    refine behL_right he hu es l (k :: done) (B.set k (beh1 em un es B k)) (fun n hn => by rw [List.length_set]; exact hlt n (List.mem_cons_of_mem _ hn)) (fun n hn x => ?_) (fun n' hn' hc => ?_) (List.nodup_cons.1 hnd).2 (fun i n hi m hm => ?_) n (by
      rcases hn with hn | hn
      · exact .inl (List.mem_cons_of_mem _ hn)
      · rcases List.mem_cons.1 hn with rfl | hn
        · exact .inl List.mem_cons_self
        · exact .inr hn) x
    · by_cases hnk : n = k
      · subst hnk
        rw [List.getD_eq_getElem?_getD, List.getElem?_set_self hk, Option.getD_some]
        unfold beh1
        rw [mem_fold mem em un he hu]
        constructor
        · rintro (h | ⟨m, h1, h2⟩)
          · exact absurd h (he x)
          · have hm := mem_next.1 h1
            have hmd : m ∈ done := by
              rcases hnext 0 n (by simp) m hm with h | h
              · exact h
              · simp at h
            rcases h2 with rfl | h2
            · exact .one hm
            · exact .on hm ((hd m hmd x).1 h2)
        · intro hw
          obtain ⟨m, hm, h⟩ := hw.head
          have hmd : m ∈ done := by
            rcases hnext 0 n (by simp) m hm with h | h
            · exact h
            · simp at h
          exact .inr ⟨m, mem_next.2 hm, h.imp (fun e => e.symm) (fun h => (hd m hmd x).2 h)⟩
      · have hn' : n ∈ done := (List.mem_cons.1 hn).resolve_left hnk
        rw [List.getD_eq_getElem?_getD, List.getElem?_set_ne (fun e => hnk e.symm), ← List.getD_eq_getElem?_getD]
        exact hd n hn' x
    · rcases List.mem_cons.1 hc with e | hc
      · exact hkl (e ▸ hn')
      · exact hnot n' (List.mem_cons_of_mem _ hn') hc
    · rcases hnext (i + 1) n (by simpa using hi) m hm with h | h
      · exact .inl (List.mem_cons_of_mem _ h)
      · rw [List.take_succ_cons] at h
        rcases List.mem_cons.1 h with rfl | h
        · exact .inl List.mem_cons_self
        · exact .inr h
/-- behind the whole order, from its end: what is behind each node -/
theorem beh_right (he : ∀ x, ¬ mem em x) (hu : ∀ s m t x, mem (un s m t) x ↔ mem s x ∨ x = m ∨ mem t x) {N : Nat} {es : List Ed} {out : List Nat} (h : Good N es out) (hl : out.length = N) (hes : ∀ e ∈ es, e.2 < N) (n : Nat) (hn : n < N) (x : Nat) :
    mem ((behL em un es out.reverse (List.replicate N em)).getD n em) x ↔ Way es n x := by
  refine behL_right mem em un he hu es out.reverse [] _ (fun n hn => ?_) (fun _ h => by cases h) (fun _ _ h => by cases h) (List.pairwise_reverse.2 (h.nd.imp fun h e => h e.symm)) (fun i n hi m hm => ?_) n (.inr (List.mem_reverse.2 (h.full hl n hn))) x
  · rw [List.length_replicate]; exact h.lt n (List.mem_reverse.1 hn)
  · right
    have hil : i < out.length := by
      obtain ⟨h6, -⟩ := List.getElem?_eq_some_iff.1 hi
      simpa using h6
    rw [List.getElem?_reverse hil] at hi
    have hm' := h.full hl m (hes _ hm)
    obtain ⟨j, hj⟩ := List.getElem?_of_mem hm'
    have := h.topo j m hj _ hm rfl
    obtain ⟨a, ha⟩ := List.getElem?_of_mem this
    rw [List.getElem?_take] at ha
    split at ha
    · have haj : a < j := by assumption
      have := h.inj ha hi
      obtain ⟨hjl, -⟩ := List.getElem?_eq_some_iff.1 hj
      refine List.mem_of_getElem? (i := out.length - 1 - j) ?_
      rw [List.getElem?_take, if_pos (by omega), List.getElem?_reverse (by omega), show out.length - 1 - (out.length - 1 - j) = j by omega]
      exact hj
    · cases ha
end
end Go.Proofs.YtcpoglchjkpbpaaDoor.Gr
