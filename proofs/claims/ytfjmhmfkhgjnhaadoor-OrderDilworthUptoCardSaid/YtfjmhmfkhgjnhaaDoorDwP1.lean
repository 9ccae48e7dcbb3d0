/-
  The keep's OrderDilworth, walked.
-/
import Derived.Test.YtfjmhmfkhgjnhaaDoorOmP1
import Derived.Test.YtfjmhmfkhgjnhaaDoorShelf
import Derived.Test.YtfjmhmfkhgjnhaaDoorOrP1
import Derived.Sort.OwnSortedInts
import Derived.Lib.SlKeysI
import Derived.Test.YtfjmhmfkhgjnhaaDoorMkP1
import Derived.Test.YtfjmhmfkhgjnhaaDoorOrP6

namespace Go.Proofs.YtfjmhmfkhgjnhaaDoor.Mt
set_option linter.unusedVariables false
set_option linter.unusedSimpArgs false
set_option maxRecDepth 100000

theorem filter_both (p : Nat → Bool) : ∀ l : List Nat, (l.filter p).length + (l.filter fun x => !p x).length = l.length
  | [] => rfl
  | x :: l => by
    have := filter_both p l
    rw [List.filter_cons, List.filter_cons]
    cases h : p x <;> simp <;> omega
section
variable {nb : Nat → List Nat} {N : Nat} {ah bk : List Int}
theorem Val.rev_le (hV : Val nb N ah bk) : ((List.range N).filter fun y => !decide (ah.getD y (-1) < 0)).length ≤ ((List.range N).filter fun y => !decide (bk.getD y (-1) < 0)).length := by
  have hm : ∀ y ∈ (List.range N).filter fun y => !decide (ah.getD y (-1) < 0), y < N ∧ ∃ k : Nat, ah.getD y (-1) = (k : Int) ∧ k < N ∧ bk.getD k (-1) = (y : Int) := fun y hy => by
    obtain ⟨h1, h2⟩ := List.mem_filter.1 hy
    have h1 := List.mem_range.1 h1
    have h2 : ¬ ah.getD y (-1) < 0 := by simpa using h2
    obtain ⟨k, hk⟩ := Int.eq_ofNat_of_zero_le (show 0 ≤ ah.getD y (-1) by omega)
    obtain ⟨a, -, b⟩ := hV.fw y k h1 hk
    exact ⟨h1, k, hk, a, b⟩
  have hnd : (((List.range N).filter fun y => !decide (ah.getD y (-1) < 0)).map fun y => (ah.getD y (-1)).toNat).Nodup := by
    refine List.pairwise_map.2 ?_
    refine List.Pairwise.imp_of_mem ?_ (List.nodup_range.filter _)
    intro a b ha hb hne e
    obtain ⟨-, k, h1, -, h2⟩ := hm a ha
    obtain ⟨-, j, h3, -, h4⟩ := hm b hb
    rw [h1, h3, Int.toNat_natCast, Int.toNat_natCast] at e
    subst e
    rw [h2] at h4
    exact hne (by omega)
  have := hnd.length_le_of_subset (l₂ := (List.range N).filter fun y => !decide (bk.getD y (-1) < 0)) (fun x hx => by
    obtain ⟨y, hy, rfl⟩ := List.mem_map.1 hx
    obtain ⟨-, k, h1, h2, h3⟩ := hm y hy
    rw [h1, Int.toNat_natCast]
    refine List.mem_filter.2 ⟨List.mem_range.2 h2, ?_⟩
    rw [h3]
    simp)
  rwa [List.length_map] at this
theorem Val.turn (hV : Val nb N ah bk) : ((List.range N).filter fun y => !decide (bk.getD y (-1) < 0)).length ≤ ((List.range N).filter fun y => !decide (ah.getD y (-1) < 0)).length := by
  have hm : ∀ y ∈ (List.range N).filter fun y => !decide (bk.getD y (-1) < 0), y < N ∧ ∃ k : Nat, bk.getD y (-1) = (k : Int) ∧ k < N ∧ ah.getD k (-1) = (y : Int) := fun y hy => by
    obtain ⟨h1, h2⟩ := List.mem_filter.1 hy
    have h1 := List.mem_range.1 h1
    have h2 : ¬ bk.getD y (-1) < 0 := by simpa using h2
    obtain ⟨k, hk⟩ := Int.eq_ofNat_of_zero_le (show 0 ≤ bk.getD y (-1) by omega)
    obtain ⟨a, b⟩ := hV.bw y k h1 hk
    exact ⟨h1, k, hk, a, b⟩
  have hnd : (((List.range N).filter fun y => !decide (bk.getD y (-1) < 0)).map fun y => (bk.getD y (-1)).toNat).Nodup := by
    refine List.pairwise_map.2 ?_
    refine List.Pairwise.imp_of_mem ?_ (List.nodup_range.filter _)
    intro a b ha hb hne e
    obtain ⟨-, k, h1, -, h2⟩ := hm a ha
    obtain ⟨-, j, h3, -, h4⟩ := hm b hb
    rw [h1, h3, Int.toNat_natCast, Int.toNat_natCast] at e
    subst e
    rw [h2] at h4
    exact hne (by omega)
  have := hnd.length_le_of_subset (l₂ := (List.range N).filter fun y => !decide (ah.getD y (-1) < 0)) (fun x hx => by
    obtain ⟨y, hy, rfl⟩ := List.mem_map.1 hx
    obtain ⟨-, k, h1, h2, h3⟩ := hm y hy
    rw [h1, Int.toNat_natCast]
    refine List.mem_filter.2 ⟨List.mem_range.2 h2, ?_⟩
    rw [h3]
    simp)
  rwa [List.length_map] at this
/-- as many begin a chain as end one -/
theorem Val.ends (hV : Val nb N ah bk) : ((List.range N).filter fun y => decide (ah.getD y (-1) < 0)).length = ((List.range N).filter fun y => decide (bk.getD y (-1) < 0)).length := by
  have h1 := filter_both (fun y => decide (ah.getD y (-1) < 0)) (List.range N)
  have h2 := filter_both (fun y => decide (bk.getD y (-1) < 0)) (List.range N)
  have h3 := hV.rev_le
  have h4 := hV.turn
  omega
theorem covW_count (hV : Val nb N ah bk) : (covW ah bk N N).length = ((List.range N).filter fun y => decide (ah.getD y (-1) = -1)).length := by
  unfold covW
  rw [List.length_map, ← hV.ends]
  congr 1
  refine List.filter_congr fun y _ => ?_
  rcases neg_of hV.lowA y with h | ⟨k, h⟩
  · rw [h]; rfl
  · rw [h]
    have e1 : ¬ ((k : Int) < 0) := by omega
    have e2 : ¬ ((k : Int) = -1) := by omega
    rw [decide_eq_false e1, decide_eq_false e2]

/-! ### what lies in a chain -/
theorem tl_next (ah : List Int) : ∀ (f : Nat) (k : Int) (i a b : Nat), (tl ah f k)[i]? = some a → (tl ah f k)[i + 1]? = some b → ah.getD a (-1) = (b : Int)
  | 0, _, i, a, b, h, _ => by simp [tl] at h
  | f + 1, k, i, a, b, h1, h2 => by
    rw [tl] at h1 h2
    by_cases hk : k < 0
    · rw [if_pos hk] at h1
      simp at h1
    · rw [if_neg hk] at h1 h2
      rcases i with _ | i
      · rw [List.getElem?_cons_zero] at h1
        injection h1 with h1
        rw [List.getElem?_cons_succ] at h2
        rw [← h1]
        rcases f with _ | f
        · simp [tl] at h2
        · rw [tl] at h2
          by_cases hn : ah.getD k.toNat (-1) < 0
          · rw [if_pos hn] at h2
            simp at h2
          · rw [if_neg hn, List.getElem?_cons_zero] at h2
            injection h2 with h2
            omega
      · rw [List.getElem?_cons_succ] at h1 h2
        exact tl_next ah f _ i a b h1 h2
theorem tl_head (ah : List Int) {f : Nat} (hf : 0 < f) (n : Nat) : (tl ah f (n : Int))[0]? = some n := by
  obtain ⟨f, rfl⟩ : ∃ g, f = g + 1 := ⟨f - 1, by omega⟩
  rw [tl_pos]
  rfl
theorem tl_grow (ah : List Int) : ∀ (f : Nat) (k : Int) (i a b : Nat), (tl ah f k)[i]? = some a → ah.getD a (-1) = (b : Int) → i + 1 < f → (tl ah f k)[i + 1]? = some b
  | 0, _, i, a, b, h, _, _ => by simp [tl] at h
  | f + 1, k, i, a, b, h1, h2, hi => by
    rw [tl] at h1 ⊢
    by_cases hk : k < 0
    · rw [if_pos hk] at h1
      simp at h1
    · rw [if_neg hk] at h1 ⊢
      rw [List.getElem?_cons_succ]
      rcases i with _ | i
      · rw [List.getElem?_cons_zero] at h1
        injection h1 with h1
        rw [h1, h2]
        exact tl_head ah (by omega) b
      · rw [List.getElem?_cons_succ] at h1
        exact tl_grow ah f _ i a b h1 h2 (by omega)
theorem tl_prev (ah : List Int) {f : Nat} {k : Int} {i b : Nat} (h : (tl ah f k)[i + 1]? = some b) : ∃ a, (tl ah f k)[i]? = some a ∧ ah.getD a (-1) = (b : Int) := by
  have hl := (List.getElem?_eq_some_iff.1 h).1
  have ha : (tl ah f k)[i]? = some (tl ah f k)[i] := List.getElem?_eq_getElem (by omega)
  exact ⟨_, ha, tl_next ah f k i _ b ha h⟩
theorem tl_lt (hV : Val nb N ah bk) {f n : Nat} (hn : n < N) : ∀ (i a : Nat), (tl ah f (n : Int))[i]? = some a → a < N
  | 0, a, h => by
    rcases f with _ | f
    · simp [tl] at h
    · rw [tl_head ah (by omega)] at h
      injection h with h
      omega
  | i + 1, b, h => by
    obtain ⟨a, h1, h2⟩ := tl_prev ah h
    exact (hV.fw a b (tl_lt hV hn i a h1) h2).1
theorem tl_rank (hV : Val nb N ah bk) (r : Nat → Nat) (hr : ∀ a b, a < N → b ∈ nb a → r a < r b) {f n : Nat} (hn : n < N) : ∀ (i a : Nat), (tl ah f (n : Int))[i]? = some a → i ≤ r a
  | 0, a, h => Nat.zero_le _
  | i + 1, b, h => by
    obtain ⟨a, h1, h2⟩ := tl_prev ah h
    have ha := tl_lt hV hn i a h1
    have h3 := tl_rank hV r hr hn i a h1
    have h4 := hr a b ha (hV.fw a b ha h2).2.1
    omega
/-- one node lies in one chain, at one place -/
theorem tl_one (hV : Val nb N ah bk) {f n m : Nat} (hn : n < N) (hm : m < N) (bn : bk.getD n (-1) < 0) (bm : bk.getD m (-1) < 0) : ∀ (i j x : Nat), (tl ah f (n : Int))[i]? = some x → (tl ah f (m : Int))[j]? = some x → n = m ∧ i = j
  | 0, 0, x, h1, h2 => by
    rcases f with _ | f
    · simp [tl] at h1
    · rw [tl_head ah (by omega)] at h1 h2
      injection h1 with h1
      injection h2 with h2
      exact ⟨by omega, rfl⟩
  | 0, j + 1, x, h1, h2 => by
    rcases f with _ | f
    · simp [tl] at h1
    · rw [tl_head ah (by omega)] at h1
      injection h1 with h1
      obtain ⟨a, h3, h4⟩ := tl_prev ah h2
      have := (hV.fw a x (tl_lt hV hm j a h3) h4).2.2
      rw [← h1] at this
      omega
  | i + 1, 0, x, h1, h2 => by
    rcases f with _ | f
    · simp [tl] at h1
    · rw [tl_head ah (by omega)] at h2
      injection h2 with h2
      obtain ⟨a, h3, h4⟩ := tl_prev ah h1
      have := (hV.fw a x (tl_lt hV hn i a h3) h4).2.2
      rw [← h2] at this
      omega
  | i + 1, j + 1, x, h1, h2 => by
    obtain ⟨a, h3, h4⟩ := tl_prev ah h1
    obtain ⟨b, h5, h6⟩ := tl_prev ah h2
    have e1 := (hV.fw a x (tl_lt hV hn i a h3) h4).2.2
    have e2 := (hV.fw b x (tl_lt hV hm j b h5) h6).2.2
    have : a = b := by omega
    subst this
    obtain ⟨e3, e4⟩ := tl_one hV hn hm bn bm i j a h3 h5
    exact ⟨e3, by omega⟩
/-- every node lies in a chain -/
theorem tl_some (hV : Val nb N ah bk) (r : Nat → Nat) (hr : ∀ a b, a < N → b ∈ nb a → r a < r b) (hrN : ∀ x, x < N → r x < N) : ∀ (k x : Nat), r x = k → x < N → ∃ n i : Nat, n < N ∧ bk.getD n (-1) < 0 ∧ (tl ah N (n : Int))[i]? = some x := by
  intro k
  induction k using Nat.strongRecOn with
  | _ k ih =>
    intro x hk hx
    by_cases hb : bk.getD x (-1) < 0
    · exact ⟨x, 0, hx, hb, tl_head ah (by omega) x⟩
    · obtain ⟨y, hy⟩ := Int.eq_ofNat_of_zero_le (show 0 ≤ bk.getD x (-1) by omega)
      obtain ⟨hyN, hya⟩ := hV.bw x y hx hy
      have hlt := hr y x hyN (hV.fw y x hyN hya).2.1
      obtain ⟨n, i, h1, h2, h3⟩ := ih (r y) (by omega) y rfl hyN
      have hi := tl_rank hV r hr h1 i y h3
      exact ⟨n, i + 1, h1, h2, tl_grow ah N n i y x h3 hya (by have := hrN x hx; omega)⟩
theorem covW_mem {x : List Nat} (h : x ∈ covW ah bk N N) : ∃ n, n < N ∧ bk.getD n (-1) < 0 ∧ x = tl ah N (n : Int) := by
  obtain ⟨n, hn, rfl⟩ := List.mem_map.1 h
  obtain ⟨h1, h2⟩ := List.mem_filter.1 hn
  exact ⟨n, List.mem_range.1 h1, by simpa using h2, rfl⟩
theorem covW_perm (hV : Val nb N ah bk) (r : Nat → Nat) (hr : ∀ a b, a < N → b ∈ nb a → r a < r b) (hrN : ∀ x, x < N → r x < N) : (covW ah bk N N).flatten.Perm (List.range N) := by
  refine (List.perm_ext_iff_of_nodup ?_ List.nodup_range).2 fun x => ?_
  · refine List.pairwise_flatten.2 ⟨fun l hl => ?_, ?_⟩
    · obtain ⟨n, hn, hb, rfl⟩ := covW_mem hl
      refine List.pairwise_iff_getElem.2 fun i j hi hj hij e => ?_
      have := (tl_one hV hn hn hb hb i j (tl ah N (n : Int))[i] (List.getElem?_eq_getElem hi) (by rw [e]; exact List.getElem?_eq_getElem hj)).2
      omega
    · unfold covW
      refine List.pairwise_map.2 ?_
      refine List.Pairwise.imp_of_mem ?_ (List.nodup_range.filter _)
      intro n m hn hm hne x hx y hy e
      subst e
      obtain ⟨n1, n2⟩ := List.mem_filter.1 hn
      obtain ⟨m1, m2⟩ := List.mem_filter.1 hm
      obtain ⟨i, hi⟩ := List.getElem?_of_mem hx
      obtain ⟨j, hj⟩ := List.getElem?_of_mem hy
      exact hne (tl_one hV (List.mem_range.1 n1) (List.mem_range.1 m1) (by simpa using n2) (by simpa using m2) i j x hi hj).1
  · rw [List.mem_range, List.mem_flatten]
    constructor
    · rintro ⟨l, hl, hx⟩
      obtain ⟨n, hn, -, rfl⟩ := covW_mem hl
      obtain ⟨i, hi⟩ := List.getElem?_of_mem hx
      exact tl_lt hV hn i x hi
    · intro hx
      obtain ⟨n, i, h1, h2, h3⟩ := tl_some hV r hr hrN _ x rfl hx
      exact ⟨_, List.mem_map.2 ⟨n, List.mem_filter.2 ⟨List.mem_range.2 h1, by simpa using h2⟩, rfl⟩, List.mem_of_getElem? h3⟩
theorem covW_chain (hV : Val nb N ah bk) {l : List Nat} (h : l ∈ covW ah bk N N) : l ≠ [] ∧ (∀ x ∈ l, x < N) ∧ ∀ i a b, l[i]? = some a → l[i + 1]? = some b → b ∈ nb a := by
  obtain ⟨n, hn, hb, rfl⟩ := covW_mem h
  refine ⟨fun e => ?_, fun x hx => ?_, fun i a b h1 h2 => ?_⟩
  · have := tl_head ah (f := N) (by omega) n
    rw [e] at this
    simp at this
  · obtain ⟨i, hi⟩ := List.getElem?_of_mem hx
    exact tl_lt hV hn i x hi
  · exact (hV.fw a b (tl_lt hV hn i a h1) (tl_next ah N n i a b h1 h2)).2.1
end
end Go.Proofs.YtfjmhmfkhgjnhaaDoor.Mt


namespace Go.Proofs.YtfjmhmfkhgjnhaaDoor
set_option linter.unusedVariables false
set_option linter.unusedSimpArgs false
set_option maxRecDepth 100000
open Go.RowKit Go.Sort

def srt (zs : List Int) : List Int := zs.mergeSort fun x y => decide (x ≤ y)
theorem srt_length (zs : List Int) : (srt zs).length = zs.length := (List.mergeSort_perm zs _).length_eq
theorem srt_perm {a b : List Int} (h : a.Perm b) : srt a = srt b := Go.mergeSort_of_perm_i h

theorem sort_own (v : Value) (zs : List Int) (w : World) (B : Nat) (h : w.ownsRow B 3 1 v zs.length (ints .i64 zs)) (hz : zs.length < 4611686018427387904) :
    Calls Tryd.prog 31 #[v] w fun e w' => e = .returned (.tuple #[]) ∧ w'.ownsRow B 3 1 v zs.length (ints .i64 (srt zs)) ∧ w.grownBy w' v.ownBlock := by
  rcases h.2 with ⟨rfl, h0⟩ | ⟨g, cap, cur, rfl, hB, hg, hle, hm, hsz, ht⟩
  · have hz0 : zs.length = 0 := h0
    rw [hz0]
    refine (Tryd.slices_Sort_int_none none 0 w).mono ?_
    rintro e w' ⟨rfl, rfl⟩
    have : zs = [] := List.eq_nil_of_length_eq_zero hz0
    subst this
    exact ⟨rfl, by simpa [srt] using h, World.grownBy.refl _ _⟩
  · have ht' : cur.toList.take zs.length = zs.map (Value.int .i64) := by simpa [ints] using ht
    have hgl : g < w.heap.size := (Array.getElem?_eq_some_iff.1 hg).1
    refine (Tryd.slices_Sort_int g 0 cap zs w (holds_of_blockI hg ht') hgl hz).mono ?_
    rintro e w' ⟨rfl, n, os, rfl⟩
    refine ⟨rfl, ?_, grownBy_sortedI _⟩
    have := ownsRow_sortedI (base := B) (n := n) (os := os) (ss := zs) (ts := srt zs) (srt_length zs) hB hg hle hm (by simpa using hsz)
    unfold srt at this ⊢
    simpa [ints] using this
end Go.Proofs.YtfjmhmfkhgjnhaaDoor


namespace Go.Proofs.YtfjmhmfkhgjnhaaDoor
set_option linter.unusedVariables false
set_option linter.unusedSimpArgs false
set_option maxRecDepth 100000
open Go.RowKit

theorem srt_range {l : List Nat} {N : Nat} (h : l.Perm (List.range N)) : srt (l.map fun (x : Nat) => (x : Int)) = (List.range N).map fun (x : Nat) => (x : Int) := by
  rw [srt_perm (h.map _)]
  unfold srt
  refine List.mergeSort_of_pairwise ?_
  refine List.pairwise_map.2 ?_
  refine List.Pairwise.imp ?_ List.pairwise_lt_range
  intro a b hab
  simp
  omega
theorem RowsI.rs {w : World} {B : Nat} {cs : List (List Nat)} {os : List Value} (hl : os.length = cs.length) (h2 : ∀ (i : Nat) (o : Value) (s : List Nat), os[i]? = some o → cs[i]? = some s → w.ownsRow B 3 1 o s.length (ilist s)) : Gy.Rs w os cs := by
  refine ⟨hl, fun p hp => ?_⟩
  obtain ⟨i, hi⟩ := List.getElem?_of_mem hp
  obtain ⟨h3, h4⟩ := List.getElem?_zip_eq_some.1 hi
  exact SlN.of_own (h2 i p.1 p.2 h3 h4)

/-- what Dilworth's law says of the chains and of those apart -/
theorem dil_law {N : Nat} {es : List Gr.Ed} (hl : (Gr.take N es).length = N) (hes : ∀ e ∈ es, e.1 < N ∧ e.2 < N) (cs : List (List Nat)) (hcs : cs = Mt.covW (Mt.prW (Gr.behW N es) N N).1 (Mt.prW (Gr.behW N es) N N).2 N N) :
    cs.flatten.Perm (List.range N) ∧ cs.length = (Mt.wideW (Gr.behW N es) N).length ∧ (∀ l ∈ cs, l ≠ [] ∧ (∀ x ∈ l, x < N) ∧ (∀ i a b, l[i]? = some a → l[i + 1]? = some b → Gr.Way es a b) ∧ l.length ≤ N) ∧ Gr.ApL N es ((Mt.wideW (Gr.behW N es) N).map fun (x : Nat) => (x : Int)) := by
  subst hcs
  have hB := Gr.behW_gs (N := N) (es := es) (fun e he => (hes e he).2)
  have hV := (Mt.prW_best hB (Nat.le_refl N)).val
  obtain ⟨r, hr, hrN⟩ := Mt.rank hl
  have hr' : ∀ a b, a < N → b ∈ Mt.nbW (Gr.behW N es) a → r a < r b := fun a b _ hb => hr a b (Mt.nbW_lt hB a b hb) ((Mt.nbW_way hl hes a b).1 hb).2
  obtain ⟨hA, hM⟩ := Mt.wide_is hl hes
  have hR : Mt.Rch Bs.bit (Mt.nbW (Gr.behW N es)) N (Mt.prW (Gr.behW N es) N N).1 (Mt.prW (Gr.behW N es) N N).2 N (Mt.ftW (Gr.behW N es) N N) := Mt.vall_is Bs.bit_put Bs.bit_nil (Mt.nbW_lt hB) (Mt.prW_best hB (Nat.le_refl N)) N (Nat.le_refl N)
  refine ⟨Mt.covW_perm hV r hr' hrN, ?_, fun l h => ?_, ⟨fun x hx => ?_, ?_, fun x hx y hy => ?_⟩⟩
  · rw [Mt.covW_count hV]
    have h1 := Mt.apart_le hV r (fun x k hk => hr x k (Mt.nbW_lt hB x k hk) ((Mt.nbW_way hl hes x k).1 hk).2) hrN
      (fun x y z hy hz => by
        obtain ⟨h1, h2⟩ := (Mt.nbW_way hl hes x y).1 hy
        obtain ⟨h3, h4⟩ := (Mt.nbW_way hl hes y z).1 hz
        exact (Mt.nbW_way hl hes x z).2 ⟨h1, h2.trans h4⟩) hA.nd hA.lt (fun a ha b hb hm => hA.ap a ha b hb ((Mt.nbW_way hl hes a b).1 hm).2)
    have h2 := Mt.ends_le hV (hR.reach hV)
    refine Nat.le_antisymm (Nat.le_trans h2 (Nat.le_of_eq ?_)) h1
    unfold Mt.wideW
    congr 1
    refine List.filter_congr fun y _ => ?_
    unfold Mt.wideB
    cases Bs.bit (Mt.ftW (Gr.behW N es) N N).1 y <;> cases Bs.bit (Mt.ftW (Gr.behW N es) N N).2 y <;> rfl
  · obtain ⟨h1, h2, h3⟩ := Mt.covW_chain hV h
    obtain ⟨n, -, -, e⟩ := Mt.covW_mem h
    exact ⟨h1, h2, fun i a b ha hb => ((Mt.nbW_way hl hes a b).1 (h3 i a b ha hb)).2, by rw [e]; exact Mt.tl_length _ _ _⟩
  · obtain ⟨y, hy, rfl⟩ := List.mem_map.1 hx
    have := hA.lt y hy
    omega
  · exact List.pairwise_map.2 (hA.nd.imp fun h e => h (by omega))
  · obtain ⟨a, ha, rfl⟩ := List.mem_map.1 hx
    obtain ⟨b, hb, rfl⟩ := List.mem_map.1 hy
    rw [Int.toNat_natCast, Int.toNat_natCast]
    exact hA.ap a ha b hb

set_option maxRecDepth 20000 in
set_option maxHeartbeats 8000000 in
theorem orderDilworth_walk (w : World) (n : Int) (es : List Gr.Er) (A : Option Addr) (c : Nat) (hA : SlV w 2 (.slice A es.length c) es.length (ercs es)) (hle : es.length ≤ 1099511627776) (hT : Tab w) :
    Calls Tryd.prog 8 #[.agg #[.int .i64 n, .slice A es.length c]] w fun e w' => e = .returned (.bool true) ∧ Below w.heap.size w w' := by
  have hb0 : Below w.heap.size w (w.alloc (.cells #[.int .i64 n, .slice A es.length c] 24)) := below_alloc (Below.refl _ _) _
  have x0 := Blk.new w 24 [.int .i64 n, .slice A es.length c]
  obtain ⟨q, hq⟩ : ∃ q, q = w.heap.size := ⟨_, rfl⟩
  go_enter Tryd.func8, Tryd.ntmps8
  go_upto_region 1 with (fail)
  generalize (w.alloc (.cells #[.int .i64 n, .slice A es.length c] 24)) = W0 at hb0 x0 ⊢
  have hT0 := hT.later hT.lt hb0
  have hA0 := hA.below hb0
  rw [← hq] at x0 ⊢
  go_wp2_with fail
  refine (alive3_any W0 hT0).mono ?_
  rintro _ w3 ⟨rfl, hb3⟩
  have HB := Lib.hid (And.intro (below_next hb3 hb0) hq)
  have hK : ∀ w', Below w3.heap.size w3 w' → (w'.cell? ⟨q, 0, none⟩ = some (.int .i64 n) ∧ w'.cell? ⟨q, 1, none⟩ = some (.slice A es.length c)) ∧ SlV w' 2 (.slice A es.length c) es.length (ercs es) ∧ Tab w' := fun w' hb =>
    ⟨⟨(((x0.below hb3).below hb).cell 0).trans rfl, (((x0.below hb3).below hb).cell 1).trans rfl⟩, (hA0.below hb3).below hb, hT0.later hT0.lt (below_self hb3 hb)⟩
  have HK := Lib.hid hK
  clear hK hb3 hb0 x0 hT0 hA0 hA hT hq
  obtain ⟨⟨c0, c1⟩, ga, gt⟩ := HK.out w3 (Below.refl _ _)
  have gC := cover_any n es w3 A c ga hle gt
  have gW := fun w' ga gt => wide_any n es w' A c ga hle gt
  obtain ⟨R, hR⟩ : ∃ R, R = Gr.wrong n es := ⟨_, rfl⟩
  obtain ⟨cs, hcs⟩ : ∃ cs, cs = Mt.covG n es := ⟨_, rfl⟩
  obtain ⟨ws, hws⟩ : ∃ ws, ws = Mt.wideG n es := ⟨_, rfl⟩
  rw [← hR, ← hcs] at gC
  rw [← hR, ← hws] at gW
  have HR := Lib.hid (And.intro hR (And.intro hcs hws))
  clear hR hcs hws
  go_wp2_with fail
  refine gC.mono ?_
  rintro _ w4 ⟨u, rfl, ⟨os, r1, r2⟩, hb4⟩
  clear c0 c1 ga gt gC
  obtain ⟨⟨c0, c1⟩, ga, gt⟩ := HK.out w4 hb4
  obtain ⟨A1, n1, rfl, -, -⟩ := own_slice r1
  have hol : os.length = cs.length := by have := r1.1; omega
  have s1 := own_slV r1
  have HRs := RowsI.rs hol r2
  go_wp2_with fail
  refine (gW w4 ga gt).mono ?_
  rintro _ w5 ⟨u2, rfl, r3, hb5⟩
  have hb05 := hb4.trans (hb5.mono hb4.size)
  have s15 := s1.below hb5
  have rs5 : Gy.Rs w5 os cs := ⟨hol, fun p hp => (HRs.2 p hp).below hb5⟩
  have s25 := own_ints r3
  obtain ⟨A2, n2, rfl, -, -⟩ := own_slice r3
  clear c0 c1 ga gt gW r1 r2 s1 HRs r3 hb4 hb5
  by_cases h0 : R = 0
  · subst h0
    obtain ⟨e0, e1, e2⟩ := HR.out
    obtain ⟨hok, N, e, hN, hes, hln, hful⟩ := Gr.wrong_zero e0.symm
    subst e
    unfold Mt.covG at e1
    unfold Mt.wideG at e2
    rw [if_pos e0.symm, Int.toNat_natCast] at e1 e2
    obtain ⟨p1, p2, p3, p4⟩ := dil_law hful hes cs e1
    rw [← e2] at p2 p4
    have hfl : cs.flatten.length = N := by rw [p1.length_eq, List.length_range]
    have hcl : cs.length ≤ 200 := by
      have := Mt.covW_length (Mt.prW (Gr.behW N (Gr.nat es)) N N).1 (Mt.prW (Gr.behW N (Gr.nat es)) N N).2 N N
      rw [← e1] at this
      omega
    have gCc := concat_ints os cs (.slice A1 cs.length n1) w5 (by rw [hol]; exact s15) rs5 (by rw [hfl]; omega)
    have hsr := srt_range p1
    obtain ⟨F, hF⟩ : ∃ F, F = cs.flatten := ⟨_, rfl⟩
    rw [← hF] at gCc hsr hfl
    obtain ⟨M, hM⟩ : ∃ M, M = cs.length := ⟨_, rfl⟩
    have gAp := fun w' ga gt h => apart_any (N : Int) es (ws.map fun (x : Nat) => (x : Int)) w' A A2 c n2 ga hle gt h
    rw [List.length_map] at gAp
    have hap : ∀ b : Bool, (b = true ↔ Gr.wrong (N : Int) es = 0 ∧ Gr.ApL (N : Int).toNat (Gr.nat es) (ws.map fun (x : Nat) => (x : Int))) → b = true := fun b h => h.2 ⟨e0.symm, by rw [Int.toNat_natCast]; exact p4⟩
    have hws : ws.length = M := by rw [← p2, hM]
    rw [List.length_map] at s25
    rw [← hM] at gCc s15 hcl ⊢
    rw [hws] at gAp s25 ⊢
    have HP := Lib.hid (And.intro e0.symm (And.intro p3 (And.intro hM (And.intro hsr (And.intro hfl (And.intro s15 (And.intro rs5 (And.intro hap (And.intro s25 hol)))))))))
    clear e0 e1 e2 p1 p2 p3 p4 hF hM hsr hfl hap hws s15 rs5 s25 hes hful hok hln HR hol
    go_wp2_with fail
    refine gCc.mono ?_
    rintro _ w6 ⟨u7, rfl, hr6, hb6⟩
    obtain ⟨e0, p3, hM, hsr, hfl, s15, rs5, hap, s25, hol⟩ := HP.out
    have gS := sort_own u7 (F.map fun (x : Nat) => (x : Int)) w6 w5.heap.size (by rw [List.length_map]; exact hr6) (by rw [List.length_map, hfl]; omega)
    rw [hsr, List.length_map, hfl] at gS
    rw [hfl] at hr6
    have hge6 := own_ge hr6
    obtain ⟨A7, n7, rfl, -, -⟩ := own_slice hr6
    clear gCc e0 p3 hM hsr hfl s15 rs5 hap s25 hol hr6
    go_wp2_with fail
    refine gS.mono ?_
    rintro _ w7 ⟨rfl, hr7, hg7⟩
    have hb67 : Below w5.heap.size w5 w7 := hb6.trans ((Below.refl _ _).grown hg7 hb6.size hge6)
    have s7 : SlN w7 (.slice A7 N n7) (List.range N) := by
      have := own_slV hr7
      unfold SlN
      rw [List.length_range]
      exact this
    have hb07 := hb05.trans (hb67.mono hb05.size)
    have H7 := Lib.hid (And.intro s7 hb67)
    clear gS hr7 hg7 hge6 hb6 s7 hb67
    go_wp2_with fail
    go_loopw [45] (fun i wr => ∃ k : Nat, k ≤ N ∧ i = .int .i64 (k : Int) ∧ Below w7.heap.size w7 wr) (fun i _ => N - (intOf i).toNat)
    case atStart => exact ⟨0, Nat.zero_le _, rfl, Below.refl _ _⟩
    case round =>
      obtain ⟨k, hk, rfl, hb⟩ := hrel
      by_cases hlt : k < N
      · obtain ⟨g, o, e, hg, ck⟩ := (H7.out.1.below hb).get (show (List.range N)[k]? = some k from List.getElem?_range hlt)
        subst e
        have gq : ((k : Int) != (k : Int)) = false := by simp
        go_wp2_with fail
        go_roundw
        case rel => exact ⟨k + 1, by omega, by go_num, hb⟩
        case measure => simp [intOf]; omega
      · have hke : k = N := by omega
        subst hke
        go_wp2_with fail
        obtain ⟨wo, hwo⟩ : ∃ wo : World, wo = wr := ⟨_, rfl⟩
        subst hwo
        have hb0o := hb07.trans (hb.mono hb07.size)
        have hb5o := H7.out.2.trans (hb.mono H7.out.2.size)
        go_loopw [56] (fun i wr => ∃ j : Nat, j ≤ M ∧ i = .int .i64 (j : Int) ∧ Below wo.heap.size wo wr) (fun i _ => M - (intOf i).toNat)
        case atStart => exact ⟨0, Nat.zero_le _, rfl, Below.refl _ _⟩
        case round =>
          obtain ⟨j, hj, rfl, hbi⟩ := hrel
          have hb0r := hb0o.trans (hbi.mono hb0o.size)
          have hb5r := hb5o.trans (hbi.mono hb5o.size)
          obtain ⟨⟨c0, c1⟩, ga, gt⟩ := HK.out wr hb0r
          obtain ⟨e0, p3, hM, hsr, hfl, s15, rs5, hap, s25, hol⟩ := HP.out
          by_cases hjM : j < M
          · obtain ⟨l, hl⟩ : ∃ l, cs[j]? = some l := ⟨_, List.getElem?_eq_getElem (by omega)⟩
            obtain ⟨v, hv, sv⟩ := rs5.get hl
            obtain ⟨Al, cl, rfl, h1, h2⟩ := sv.form
            obtain ⟨q1, q2, q3, q4⟩ := p3 l (List.mem_of_getElem? hl)
            obtain ⟨A', c', e, -, -, -, hcc⟩ := s15
            injection e with e1 e2 e3
            subst e1 e3
            obtain ⟨g, o, rfl, hg, hc⟩ := hcc.at_ (fun e => by rw [e] at hv; simp at hv)
            have cj := (hb5r.cell (p := ⟨g, o + j, none⟩) hg).trans (hc j _ hv)
            have hl200 : l.length ≤ 1099511627776 := by omega
            have gCh := chained_yes k es wr A Al c cl l ga hle gt e0 (sv.below hb5r) hl200 q2 q3
            have hl0 : l.length ≠ 0 := fun e => q1 (List.eq_nil_of_length_eq_zero e)
            obtain ⟨ll, hll⟩ : ∃ x, x = l.length := ⟨_, rfl⟩
            rw [← hll] at cj gCh hl0
            have gz : ((ll : Int) == 0) = false := by
              rw [beq_eq_false_iff_ne]
              omega
            clear e0 p3 hM hsr hfl rs5 hap s25 hol hl hv sv h1 h2 q1 q2 q3 q4 hcc hc hl200 hll e2
            go_wp2_with fail
            refine gCh.mono ?_
            rintro _ w9 ⟨rfl, hb9⟩
            have hbo9 := hbi.trans (hb9.mono hbi.size)
            clear gCh cj c0 c1 ga gt hb9
            go_wp2_with fail
            go_roundw
            case rel => exact ⟨j + 1, by omega, by go_num, hbo9⟩
            case measure => simp [intOf]; omega
          · have hje : j = M := by omega
            subst hje
            have gA := gAp wr ga gt (by have := s25.below hb5r; exact this)
            have HA := Lib.hid hap
            have hbw := below_next hb0r HB.out.1
            clear e0 p3 hM hsr hfl s15 rs5 s25 hol hap gAp
            go_wp2_with fail
            refine gA.mono ?_
            rintro _ w9 ⟨z, rfl, hz, hb9⟩
            have hzt := HA.out z hz
            subst hzt
            have HF := Lib.hid (below_next hb9 hbw)
            clear gA hz hb9 hbw c0 c1 ga gt
            go_wp2_with fail
            go_ret
            exact ⟨rfl, HF.out⟩
  · have g0 : (R != 0) = true := by simpa using h0
    obtain ⟨e0, e1, e2⟩ := HR.out
    unfold Mt.covG at e1
    unfold Mt.wideG at e2
    rw [if_neg (by rw [← e0]; exact h0)] at e1 e2
    subst e1 e2
    have HF := Lib.hid (below_next hb05 HB.out.1)
    clear h0 s15 s25 rs5 hol e0 HR
    go_wp2_with fail
    go_ret
    exact ⟨by simp, HF.out⟩
end Go.Proofs.YtfjmhmfkhgjnhaaDoor
