/-
  slices.Grow, slices.Concat of statements.
-/
import Derived.Test.YtniekhedpdkmiaaDoorStM
namespace Go.Proofs.YtniekhedpdkmiaaDoor
set_option linter.unusedVariables false
set_option linter.unusedSimpArgs false
open Go.RowKit

theorem grow_stmts (n : Nat) (w : World) (hn : n ≤ 137438953472) :
    Calls Tryd.prog 41 #[.slice none 0 0, .int .i64 n] w fun e w' => ∃ v, e = .returned v ∧ w'.ownsRow w.heap.size 40 12 v 0 [] ∧ Below w.heap.size w w' := by
  rcases Nat.eq_zero_or_pos n with rfl | hpos
  · go_enter Tryd.func41, Tryd.ntmps41
    go_wp2
    go_ret
    exact ⟨_, rfl, World.ownsRow_nil _ _ _ _, Below.refl _ _⟩
  · obtain ⟨i, hi, hz0, hz1, hz2⟩ := info_parts info_stmt
    have hcap := grownCap_ge w n 0 40
    have hcm := grownCap_le_maxLen w n 0 40 (by unfold maxLen; omega)
    have hr := fun ty kq => Lib.run_append_nil_zeros (P := Tryd.prog) w 34 3 ty 40 i _ kq .i64 Tryd.underlying34 Tryd.underlying3 hi hz0 n hpos (by omega) (by omega) (by rw [hz2]; omega)
    obtain ⟨cap, hc⟩ : ∃ cap, cap = grownCap w n 0 40 := ⟨_, rfl⟩
    rw [← hc] at hcap hcm hr
    have hcz : (Builtin.zeroCells (Value.agg #[Value.int IntKind.i64 0, Value.string ⟨#[]⟩, Value.int IntKind.i64 0, Value.int IntKind.i64 0, Value.string ⟨#[]⟩, Value.slice none 0 0, Value.int IntKind.i64 0, Value.int IntKind.i64 0, Value.string ⟨#[]⟩, Value.slice none 0 0, Value.slice none 0 0, Value.slice none 0 0]).cells n ++ Builtin.zeroCells (Value.agg #[Value.int IntKind.i64 0, Value.string ⟨#[]⟩, Value.int IntKind.i64 0, Value.int IntKind.i64 0, Value.string ⟨#[]⟩, Value.slice none 0 0, Value.int IntKind.i64 0, Value.int IntKind.i64 0, Value.string ⟨#[]⟩, Value.slice none 0 0, Value.slice none 0 0, Value.slice none 0 0]).cells (cap - n)).size = cap * 12 := by
      simp only [Array.size_append, size_zeroCells, Value.cells, List.size_toArray, List.length_cons, List.length_nil]
      omega
    generalize (Builtin.zeroCells (Value.agg #[Value.int IntKind.i64 0, Value.string ⟨#[]⟩, Value.int IntKind.i64 0, Value.int IntKind.i64 0, Value.string ⟨#[]⟩, Value.slice none 0 0, Value.int IntKind.i64 0, Value.int IntKind.i64 0, Value.string ⟨#[]⟩, Value.slice none 0 0, Value.slice none 0 0, Value.slice none 0 0]).cells n ++ Builtin.zeroCells (Value.agg #[Value.int IntKind.i64 0, Value.string ⟨#[]⟩, Value.int IntKind.i64 0, Value.int IntKind.i64 0, Value.string ⟨#[]⟩, Value.slice none 0 0, Value.int IntKind.i64 0, Value.int IntKind.i64 0, Value.string ⟨#[]⟩, Value.slice none 0 0, Value.slice none 0 0, Value.slice none 0 0]).cells (cap - n)) = cur at hr hcz
    have hcm' := hcm
    unfold maxLen at hcm
    have hend : (w.drew.alloc (.cells cur 40)).ownsRow w.heap.size 40 12 (.slice (some ⟨w.heap.size, 0, none⟩) 0 cap) 0 [] ∧ Below w.heap.size w (w.drew.alloc (.cells cur 40)) :=
      ⟨⟨rfl, .inr ⟨w.heap.size, cap, cur, rfl, Nat.le_refl _, heap_alloc_new w.drew _, Nat.zero_le _, hcm', hcz, by simp⟩⟩, below_alloc (below_drew (Below.refl _ _)) _⟩
    have HR := Lib.hid hr
    have HE := Lib.hid hend
    clear hr hend hc hcz hz0 hz1 hz2 hi hcm'
    go_enter Tryd.func41, Tryd.ntmps41
    go_wp2_with (at_builtin; refine Lib.wpList_append_run _ rfl _ _ _ _ rfl _ _ rfl rfl _ _ (HR.out _ _) ?_)
    go_ret
    exact ⟨_, rfl, HE.out.1, HE.out.2⟩

def St.cat (l : List St.P) : St.P := l.foldr (· ++ ·) .nil
theorem St.cat_snoc (l : List St.P) (p : St.P) : St.cat (l ++ [p]) = St.cat l ++ p := by
  induction l with
  | nil => simp [St.cat, St.P.append_nil, St.P.nil_append]
  | cons q l ih =>
    show q ++ St.cat (l ++ [p]) = (q ++ St.cat l) ++ p
    rw [ih, St.P.append_assoc]
def St.len (l : List St.P) : Nat := (St.cat l).length
theorem St.len_snoc (l : List St.P) (p : St.P) : St.len (l ++ [p]) = St.len l + p.length := by unfold St.len; rw [St.cat_snoc, St.P.length_append]
theorem St.len_take (l : List St.P) (k : Nat) : St.len (l.take k) ≤ St.len l := by
  have e : St.cat l = St.cat (l.take k) ++ St.cat (l.drop k) := by
    induction l generalizing k with
    | nil => simp [St.cat, St.P.nil_append]
    | cons q l ih =>
      rcases k with _ | k
      · simp [St.cat, St.P.nil_append]
      · show q ++ St.cat l = (q ++ St.cat (l.take k)) ++ St.cat (l.drop k)
        rw [ih k, St.P.append_assoc]
  unfold St.len
  rw [e, St.P.length_append]
  omega

theorem info_sl : (Tryd.prog.info? 34).map (fun i => (i.zero, i.size, i.bytes)) = some (some (.slice none 0 0), 1, 24) := by kernel_rfl

/-- what a slice of slices of statements holds -/
def Parts (w : World) (vs : List Value) (ps : List St.P) : Prop := vs.length = ps.length ∧ ∀ (j : Nat) (v : Value), vs[j]? = some v → ∃ p, ps[j]? = some p ∧ IsP w v p

set_option maxHeartbeats 2000000 in
theorem concat_any (vs : List Value) (ps : List St.P) (v : Value) (w : World) (h : SlV w 1 v vs.length vs) (hp : Parts w vs ps) (hsz : St.len ps ≤ 1099511627) :
    Calls Tryd.prog 26 #[v] w fun e w' => ∃ u, e = .returned u ∧ IsP w' u (St.cat ps) ∧ Below w.heap.size w w' := by
  obtain ⟨A, c, rfl, hle, hm, hlen, hc⟩ := h
  unfold maxLen at hm
  have HL := Lib.hid hp.1
  have hone : ∀ k, k < vs.length → ∃ (A' : Option Addr) (n' c' : Nat) (p : St.P), vs[k]? = some (.slice A' n' c') ∧ ps[k]? = some p ∧ n' = p.length ∧ n' ≤ c' ∧ c' ≤ maxLen ∧ PR w.heap.size w A' n' p := fun k hk => by
    obtain ⟨u, hu⟩ : ∃ u, vs[k]? = some u := ⟨_, List.getElem?_eq_getElem hk⟩
    obtain ⟨p, h1, A', n', c', rfl, h3, h4, h5⟩ := hp.2 k u hu
    exact ⟨A', n', c', p, hu, h1, h5.length, h3, h4, h5⟩
  have hsn : ∀ k p, ps[k]? = some p → ps.take (k + 1) = ps.take k ++ [p] := fun k p hp => by
    obtain ⟨h', rfl⟩ := List.getElem?_eq_some_iff.1 hp
    exact List.take_succ_eq_append_getElem h'
  have HO := Lib.hid (And.intro hone (And.intro hsn hsz))
  clear hone hsn hsz hp hlen
  go_enter Tryd.func26, Tryd.ntmps26
  go_wp2
  go_loop [3, 11] (fun s i => ∃ k : Nat, k ≤ vs.length ∧ i = .int .i64 k ∧ s = .int .i64 (St.len (ps.take k) : Nat)) (fun s i => vs.length - (intOf i).toNat)
  case atStart => exact ⟨0, Nat.zero_le _, rfl, rfl⟩
  case round =>
    obtain ⟨k, hk, rfl, rfl⟩ := hrel
    have hb := St.len_take ps k
    have hb2 := HO.out.2.2
    by_cases hlt : k < vs.length
    · obtain ⟨A', n', c', p, hu, hpk, hn', hle', hm', -⟩ := HO.out.1 k hlt
      obtain ⟨b, o, rfl, hbb, hcc⟩ := hc.at_ (fun e => by rw [e] at hu; simp at hu)
      have c1 := hcc _ _ hu
      have hln := St.len_snoc (ps.take k) p
      have hb3 := St.len_take ps (k + 1)
      rw [HO.out.2.1 _ _ hpk, hln, ← hn'] at hb3
      have HN := Lib.hid (And.intro hln (And.intro hn' hpk))
      obtain ⟨l, hl⟩ : ∃ l, l = St.len (ps.take k) := ⟨_, rfl⟩
      rw [← hl] at hb hb3 ⊢
      have HK := Lib.hid hl
      clear hc hcc hu hpk hn' hln hl
      go_wp2
      go_round
      case rel => exact ⟨k + 1, by omega, by go_num, by rw [HO.out.2.1 _ _ HN.out.2.2, HN.out.1, ← HK.out, ← HN.out.2.1]; go_num⟩
      case measure => simp [intOf]; omega
    · have HK := Lib.hid (show k = ps.length by have := HL.out; omega)
      clear hb
      go_wp2_with fail
      refine (grow_stmts _ _ (by rw [HK.out, List.take_length]; omega)).mono ?_
      rintro e w1 ⟨v1, rfl, hown1, hb1⟩
      go_wp2_with fail
      go_loopw [6, 27] (fun s i wr => ∃ (k : Nat) (cs : List Value), k ≤ vs.length ∧ i = .int .i64 k ∧ wr.ownsRow w.heap.size 40 12 s (St.len (ps.take k)) cs ∧ PC w.heap.size wr cs (St.len (ps.take k)) (St.cat (ps.take k)) ∧ Below w.heap.size w wr) (fun s i _ => vs.length - (intOf i).toNat)
      case atStart => exact ⟨0, [], Nat.zero_le _, rfl, hown1, .nil, hb1⟩
      case round =>
        clear hb1 hown1
        obtain ⟨k, cs, hk, rfl, hown, hpc, hbw⟩ := hrel
        have hb := St.len_take ps k
        by_cases hlt : k < vs.length
        · obtain ⟨A', n', c', p, hu, hpk, hn', hle', hm', hpr⟩ := HO.out.1 k hlt
          obtain ⟨b, o, rfl, hbb, hcc⟩ := hc.at_ (fun e => by rw [e] at hu; simp at hu)
          have c1 := (hbw.cell (p := ⟨b, o + k, none⟩) hbb).trans (hcc _ _ hu)
          have hln := St.len_snoc (ps.take k) p
          have hb3 := St.len_take ps (k + 1)
          rw [HO.out.2.1 _ _ hpk, hln, ← hn'] at hb3
          obtain ⟨ds, hpd, hcd⟩ := (hpr.later hbw).flat
          have HN := Lib.hid (And.intro hln (And.intro hn' hpk))
          have n63 : St.len (ps.take k) + n' ≤ maxLen := by unfold maxLen; omega
          have n47 : (St.len (ps.take k) + n') * 184 ≤ 140737488355328 := by omega
          have hle0 := hbw.size
          clear hc hcc hu hpk hn' hln
          go_wp2_with (at_builtin; refine wp_append wr _ _ _ _ _ _ _ _ Tryd.underlying34 info_stmt rfl (by decide) hown hcd hpd.length (hpd.one_cells) n63 n47 hle0 rfl rfl rfl rfl ?_; intro v' w4 hown4 _ _ hb4)
          have hpc4 := (hpc.append hpd).later hb4
          have hbw4 := hbw.trans hb4
          clear hown hpc hpd hcd hb4 hbw hpr
          go_roundw
          case rel => exact ⟨k + 1, _, by omega, by go_num, by rw [HO.out.2.1 _ _ HN.out.2.2, HN.out.1, ← HN.out.2.1]; exact hown4, by rw [HO.out.2.1 _ _ HN.out.2.2, HN.out.1, ← HN.out.2.1, St.cat_snoc]; exact hpc4, hbw4⟩
          case measure => simp [intOf]; omega
        · have HK2 := Lib.hid (show k = ps.length by have := HL.out; omega)
          clear hc
          go_wp2
          go_ret
          exact ⟨_, rfl, by
            rw [HK2.out, List.take_length] at hown hpc
            exact IsP.of_slv (PC.keep hpc hbw.size fun _ _ => rfl) (SlV.of_own hown), hbw⟩
end Go.Proofs.YtniekhedpdkmiaaDoor
