/-
  Package bitset, walked: List.
-/
import Derived.Test.YtcpoglchjkpbpaaDoorBs6
import Derived.RangeFuncBox
namespace Go.Proofs.YtcpoglchjkpbpaaDoor
set_option linter.unusedVariables false
set_option linter.unusedSimpArgs false
set_option maxRecDepth 100000
open Go.RowKit Go.Shelf

attribute [local go_sem] Oper.semAt_some

theorem all_in (a : Option Addr) (len cap : Nat) (w : World) :
    CallsIn Fence.wide 2 Tryd.prog 47 #[.slice a len cap] w fun e w' => e = .returned (.func (.func 65) #[] #[.pointer (some ⟨w.heap.size, 0, none⟩)]) ∧ w' = w.alloc (.cells #[.slice a len cap] 81) := by
  refine callsIn_of_wp Tryd.func47 rfl trivial ?_ rfl
  simp only [Tryd.ntmps47, List.size_toArray, List.length_cons, List.length_nil, Nat.reduceAdd, Nat.reduceSub, Array.replicate_succ, Array.replicate_zero, List.push_toArray, List.append_toArray, List.nil_append, List.cons_append]
  gi_wp2
  go_ret
  exact ⟨rfl, rfl⟩

theorem all_stops (qb n₀ p cap : Nat) (A : Option Addr) (xs : List Nat) (hws : Bs.Ws xs) (hreach : xs.length ≤ 17592186044416) (w : World) (hq : qb < n₀) (hqp : qb ≠ p) (hqb : w.cell? ⟨qb, 0, none⟩ = some (.slice A xs.length cap)) (hc : Cells w p A (nats xs)) (hpn : p ≤ n₀) (hT : Tab w) (htp : 0 < p) (hn : n₀ ≤ w.heap.size) :
    SeqStopsK Fence.wide 2 Tryd.prog 65 #[.pointer (some ⟨qb, 0, none⟩)] (fun x : Nat => #[Value.int .i64 ((x : Nat) : Int)]) (KpP n₀ p) (fun ys => ys = Bs.ls 0 xs) (fun pre => ∃ t, Bs.ls 0 xs = pre ++ t) (Bs.ls 0 xs).length w := fun l J Jx W hW _ _ hY h0 => by
  refine (all1_in l qb n₀ p cap A xs hws hreach J Jx hY W hq hqp ((hW.cell (p := ⟨qb, 0, none⟩) (by show qb < _; omega)).trans hqb) (hc.keep (Nat.le_refl _) (fun a ha => hW.cell (by omega))) hpn (fun j hj => (hW.cell (p := ⟨0, j, none⟩) (by show 0 < _; omega)).trans (hT j hj)) htp h0).mono ?_
  rintro e W' ⟨he, hj | ⟨pre, hp, hj⟩⟩
  · exact ⟨he, .inl ⟨_, rfl, hj⟩⟩
  · exact ⟨he, .inr ⟨_, hp, hj⟩⟩

theorem kpP_b {n₀ p : Nat} {w : World} (hn : n₀ ≤ w.heap.size) (W : World) (l : Nat) (o o' : Obj) (hl : w.heap.size ≤ l) (h : W.heap[l]? = some o) (_ : o.isCells = false) (_ : o.isWalk = false) : KpP n₀ p W (W.putObj l o') :=
  ⟨(grownBy_putObj' W l o').size, fun k hk _ => (grownBy_putObj' W l o').block k (by have := (Array.getElem?_eq_some_iff.1 h).1; omega) (fun e => by cases e; omega)⟩

/-- numbers, as they lie in a slice -/
def ilist (l : List Nat) : List Value := ints .i64 (l.map fun (x : Nat) => (x : Int))
theorem info_int : (Tryd.prog.info? 3).map (fun i => (i.zero, i.size, i.bytes)) = some (some (.int .i64 0), 1, 8) := by kernel_rfl
theorem Bs.ls_length : ∀ (k : Nat) (xs : List Nat), Bs.Ws xs → (Bs.ls k xs).length ≤ 64 * xs.length
  | _, [], _ => by simp [Bs.ls]
  | k, x :: r, h => by
    have h1 := Bs.ls_length (k + 1) r (fun y hy => h y (List.mem_cons_of_mem _ hy))
    have h2 := Bs.bl_length x x (Nat.le_refl _) (h x List.mem_cons_self)
    have h3 := Bs.pop_le 64 x
    rw [Bs.ls, List.length_append, List.length_map, h2, List.length_cons]
    omega

set_option maxHeartbeats 2000000 in
theorem list_any (w : World) (v : Value) (xs : List Nat) (h : SlU w v xs) (hT : Tab w) (hr : xs.length ≤ 17592186044) :
    Calls Tryd.prog 31 #[v] w fun e w' => ∃ u, e = .returned u ∧ SlV w' 1 u (Bs.ls 0 xs).length (ilist (Bs.ls 0 xs)) ∧ Below w.heap.size w w' := by
  obtain ⟨⟨A, c, rfl, hle, hm, hlen, hc⟩, hw⟩ := h
  clear hlen
  have hN := Bs.ls_length 0 xs hw
  have htl := hT.lt
  refine (callsIn_wide (n := 3)).1 ?_
  refine callsIn_of_wp_marks Tryd.func31 rfl trivial ?_ rfl
  simp only [Tryd.ntmps31, List.size_toArray, List.length_cons, List.length_nil, Nat.reduceAdd, Nat.reduceSub, Array.replicate_succ, Array.replicate_zero, List.push_toArray, List.append_toArray, List.nil_append, List.cons_append]
  gi_wp2_with fail
  refine ⟨trivial, (all_in _ _ _ _).mono ?_⟩
  rintro e w' ⟨rfl, rfl⟩
  have hbw : Below w.heap.size w ((w.alloc (.cells #[.slice none 0 0] 32)).alloc (.cells #[.slice A xs.length c] 81)) := below_alloc (below_alloc (Below.refl _ _) _) _
  have p0 : Boxed ((w.alloc (.cells #[.slice none 0 0] 32)).alloc (.cells #[.slice A xs.length c] 81)) w.heap.size 32 (.slice none 0 0) := (Boxed.new w _ _).alloc _
  have p1 := Blk.new (w.alloc (.cells #[.slice none 0 0] 32)) 81 [.slice A xs.length c]
  gi_wp2_with fail
  have hz : (w.alloc (.cells #[.slice none 0 0] 32)).heap.size = w.heap.size + 1 := by simp
  rw [hz] at p1
  obtain ⟨p, hp⟩ : ∃ p, p = w.heap.size := ⟨_, rfl⟩
  rw [← hp] at p0 p1 ⊢
  have hsz : ((w.alloc (.cells #[.slice none 0 0] 32)).alloc (.cells #[.slice A xs.length c] 81)).heap.size = p + 1 + 1 := by simp [hp]
  generalize ((w.alloc (.cells #[.slice none 0 0] 32)).alloc (.cells #[.slice A xs.length c] 81)) = W0 at *
  have hcW : Cells W0 p A (nats xs) := by rw [hp]; exact hc.keep (Nat.le_refl _) (fun a ha => hbw.cell ha)
  have hTW : Tab W0 := fun j hj => (hbw.cell (p := ⟨0, j, none⟩) htl).trans (hT j hj)
  have hst := all_stops (p + 1) (p + 1 + 1) p c A xs hw (by omega) W0 (by omega) (by omega) ((p1.cell 0).trans rfl) hcW (by omega) hTW (by omega) (by omega)
  have n63 : ∀ m, m < (Bs.ls 0 xs).length → m + 1 ≤ maxLen := fun m hm => by unfold maxLen; omega
  have n47 : ∀ m, m < (Bs.ls 0 xs).length → (m + 1) * 8 ≤ 140737488355328 := fun m hm => by omega
  have HP := Lib.hid hp
  clear hp hz hc hT p1
  refine wpIn_rangeFunc_ownH rfl (by omega) (gf := 65) (lb := #[.pointer (some ⟨p + 1, 0, none⟩)]) rfl trivial (enters_of Tryd.func65 (by kernel_rfl) rfl)
    hst (fun h k => h.trans k) (kpP_b (by omega)) (Below.refl _ _) (fun _ => rfl)
    (fun pre W => (∃ u, Boxed W p 32 u ∧ W.ownsRow (p + 1 + 1) 3 1 u pre.length (ilist pre) ∧ True) ∧ Below w.heap.size w W)
    (fun c pre W => False)
    (OwnFrom.and (Own.from (holdsRow_own (p + 1 + 1) p 32 3 1 (fun pre : List Nat => pre.length) (fun pre => ilist pre) (fun _ _ => True)) _) (ownFrom_below (Nat.le_refl _) (by have := hbw.size; omega)))
    (fun c s X Y row hs _ _ => hs)
    ⟨⟨_, p0, World.ownsRow_nil _ _ _ _, trivial⟩, hbw⟩
    (fun x a' W => a' = { tmps := #[.slice A xs.length c, undef, .slice none 0 0, .pointer (some ⟨p, 0, none⟩), .int .i64 (x : Int), .slice A xs.length c, .func (.func 65) #[] #[.pointer (some ⟨p + 1, 0, none⟩)], .int .i64 (x : Int), undef, undef, undef, undef, undef], defers := [] })
    (fun x a' _ X Y row hs hg hr => hs)
    ?assign ?body ?done ?stop
  case assign =>
    rintro l pre x W K hI hK
    gi_wp2
    exact hK _ _ (KeepsFrom.refl _ _) (KpP.refl _ _ _) hI rfl
  case body =>
    rintro l pre x a' W hl ⟨r, hr⟩ ⟨⟨u, hbx, hown, -⟩, hbW⟩ rfl hlt
    have hlW : l < W.heap.size := (Array.getElem?_eq_some_iff.1 hr).1
    have hws : p + 1 + 1 ≤ W.heap.size := by omega
    have c0 := hbx.cell
    have f0 := hbx.frozen
    obtain ⟨U, uc, rfl, hu1, hu2⟩ := own_slice hown
    obtain ⟨i, hi, hz0, hz1, hz2⟩ := info_parts info_int
    have b1 := n63 _ hlt
    have b2 := n47 _ hlt
    have hnew : ∀ j u, [Value.int .i64 (x : Int)][j]? = some u → (W.alloc (.cells #[.int .i64 (x : Int)] 3)).cell? ((⟨W.heap.size, 0, none⟩ : Addr).add j) = some u := fun j u hu => by
      rw [Addr.add_lit, Nat.zero_add]
      exact ((Blk.new W 3 [.int .i64 (x : Int)]).cell j).trans hu
    have hte : (32 : TypeId) ≠ 3 := by decide
    gi_wp2_with (first | (refine wpListIn_append_own _ rfl _ _ _ rfl (p + 1 + 1) 3 i (.int .i64 0) 1 8 Tryd.underlying32 hi hz0 hz1 hz2 rfl (by decide) (.slice U pre.length uc) _ _ rfl (hown.alloc _) _ 1 1 [.int .i64 (x : Int)] rfl rfl hnew (ints_one1 .i64 [(x : Int)]) b1 b2 (by simp; omega) ?_; intro v' w1 hown' hgrow _; have hbx1 := (hbx.alloc (.cells #[.int .i64 (x : Int)] 3)).kept hgrow (hbx.not_row hte hown); have c1 := hbx1.cell; have f1 := hbx1.frozen; obtain ⟨gg, cap', rfl⟩ := ownsRow_succ hown') | fail)
    have hge := own_ge hown
    refine ⟨(((KeepsOthers.alloc W _).trans (KeepsOthers.of_grownBy hgrow fun j o ej hj => ?_)).trans (KeepsOthers.setCell _ _ _)).from _, ⟨?_, fun k hk hkp => ?_⟩, ⟨_, hbx1.set _, ?_, trivial⟩, ?_⟩
    · rcases (hown.alloc (.cells #[.int .i64 (x : Int)] 3)).2 with ⟨e, _⟩ | ⟨g, cap, cur, e, _, hgb, _⟩
      · rw [e] at ej
        simp [Value.ownBlock] at ej
      · rw [e] at ej
        obtain rfl : g = j := by simpa [Value.ownBlock] using ej
        rw [hgb] at hj; cases hj; rfl
    · have := hgrow.size
      have h2 := (grownBy_setCell' w1 p (.slice (some ⟨gg, 0, none⟩) (pre.length + 1) cap')).size
      simp at this h2 ⊢
      omega
    · have h1 := (grownBy_setCell' w1 p (.slice (some ⟨gg, 0, none⟩) (pre.length + 1) cap')).block k (by have := hgrow.size; simp at this; omega) (fun e => hkp (by injection e))
      have h2 := hgrow.block k (by simp; omega) (fun e => by have := hge k e.symm; omega)
      exact h1.trans (h2.trans (Below.heap_alloc W _ k (by omega)))
    · have := hown'.kept (grownBy_setCell' w1 p (.slice (some ⟨gg, 0, none⟩) (pre.length + 1) cap')) (.inr (hbx1.not_row hte hown').symm)
      simpa [ilist, ints] using this
    · have hp := HP.out
      exact hbW.trans ((((Below.refl w.heap.size W).alloc (by omega) _).grown hgrow (by simp; omega) (fun k e => by have := hge k e; omega)).setCell (p := ⟨p, 0, none⟩) (by show w.heap.size ≤ p; omega) _)
  case done =>
    rintro D ys W hD rfl ⟨⟨u, hbx, hown, -⟩, hbW⟩ hK
    have c0 := hbx.cell
    obtain ⟨U, uc, rfl, hu1, hu2⟩ := own_slice hown
    have hs := SlV.of_own (ownsRow_putObj hown (.deferred none) hK rfl)
    have hb := hbW.trans (belowK_b (w := w) (Nat.le_refl _) W D _ (.deferred none) (by have := hbw.size; omega) hK rfl rfl)
    have HS := Lib.hid (And.intro hs hb)
    clear hs hb
    gi_wp2
    refine ⟨by simp, .inl ⟨_, _, rfl, run_takeDeferred hK, ?_⟩⟩
    exact ⟨_, by simp [results, Tryd.results31, go_sem], _, rfl, HS.out⟩
  case stop =>
    rintro D c pre W hD _ hF hK
    exact hF.elim
end Go.Proofs.YtcpoglchjkpbpaaDoor
