/-
  Package ufind, walked: New, do.
-/
import Derived.Test.YtphbegadddamgaaUf2
namespace Go.Proofs.Ytphbegadddamgaa
set_option linter.unusedVariables false
set_option linter.unusedSimpArgs false
open Go.RowKit

theorem info_int : (Try.prog.info? 3).map (fun i => (i.zero, i.size, i.bytes)) = some (some (.int .i64 0), 1, 8) := by kernel_rfl

theorem make_ints (n : Nat) (hn : n ≤ 200) (w : World) : (Instr.makeSlice 45 (.int .i64 n) (.int .i64 n)).run Try.prog w = .ok (.slice (some ⟨w.heap.size, 0, none⟩) n n) (w.alloc (.cells (madeCells #[.int .i64 0] n) 3)) := by
  obtain ⟨i, hi, hz0, hz1, hz2⟩ := info_parts info_int
  have hb' : (i.bytes : Int) * (n : Int) ≤ 281474976710656 := by
    rw [hz2]
    omega
  have hr := run_make (P := Try.prog) w 45 3 i (.int .i64 0) Try.underlying45 hi hz0 .i64 .i64 n n (by omega) (Int.le_refl _) hb' (by omega)
  simp only [Int.toNat_natCast, hz1, Nat.mul_one] at hr
  exact hr

theorem own_frozen2 {w : World} {B u n c : Nat} {xs : List Value} (h : w.ownsRow B 3 1 (.slice (some ⟨u, 0, none⟩) n c) n xs) (k : Nat) : w.frozen? ⟨u, k, none⟩ = false := by
  obtain ⟨cs, hB, _⟩ := own_blk h
  exact hB.frozen k

theorem own_setCell {w : World} {base : Nat} {e : TypeId} {g n c : Nat} {xs : List Value} (h : w.ownsRow base e 1 (.slice (some ⟨g, 0, none⟩) n c) n xs) (i : Nat) (v : Value) : (w.setCell ⟨g, i, none⟩ v).ownsRow base e 1 (.slice (some ⟨g, 0, none⟩) n c) n (xs.set i v) := by
  obtain ⟨cs, hB, rfl, rfl, hn, hm, hb⟩ := own_blk h
  have := own_of_blk (n := n) (hB.set_ i v) hb (by simpa using hn) (by simpa using hm)
  rw [List.length_set, List.take_set] at this
  exact this
theorem uf_fill {B : Nat} {w : World} {g u s n : Nat} {up sz : List Nat} (h : UfAt B w g u s n up sz) (k a b : Nat) :
    UfAt B ((w.setCell ⟨u, k, none⟩ (.int .i64 a)).setCell ⟨s, k, none⟩ (.int .i64 b)).drew g u s n (up.set k a) (sz.set k b) ∧ Keeps (fun i => i = u ∨ i = s) w ((w.setCell ⟨u, k, none⟩ (.int .i64 a)).setCell ⟨s, k, none⟩ (.int .i64 b)).drew := by
  have k1 : Keeps (fun i => some i = some u) w (w.setCell ⟨u, k, none⟩ (.int .i64 a)) := Keeps.of_grown (grown_setCell w u k _)
  have k2 : Keeps (fun i => some i = some s) (w.setCell ⟨u, k, none⟩ (.int .i64 a)) ((w.setCell ⟨u, k, none⟩ (.int .i64 a)).setCell ⟨s, k, none⟩ (.int .i64 b)) := Keeps.of_grown (grown_setCell _ s k _)
  have hug := h.ug
  have hsg := h.sg
  have hap := h.apart
  have o1 := own_setCell h.up k (.int .i64 a)
  have o1' := own_keeps o1 k2 (fun b hb e => by injection hb with hb; injection e with e; exact hap (hb.trans e))
  have o2 := own_setCell (own_keeps h.sz k1 (fun b hb e => by injection hb with hb; injection e with e; exact hap (e.symm.trans hb.symm))) k (.int .i64 b)
  rw [← nats_set] at o1' o2
  have b1 := (h.blk.keeps k1 (fun e => by injection e with e; exact hug e.symm)).keeps k2 (fun e => by injection e with e; exact hsg e.symm)
  exact ⟨⟨b1, h.base, o1', o2, hap⟩, (k1.mono (fun i hi => .inl (by injection hi))).trans ((k2.mono (fun i hi => .inr (by injection hi))).drewN 1)⟩

def part (n : Nat) (l : List Nat) (k : Nat) : List Nat := l.take k ++ List.replicate (n - k) 0
theorem part_set (n : Nat) (l : List Nat) (k x : Nat) (hk : k < n) (hx : l[k]? = some x) : (part n l k).set k x = part n l (k + 1) := by
  have hl : k < l.length := (List.getElem?_eq_some_iff.1 hx).1
  unfold part
  obtain ⟨m, hm⟩ : ∃ m, n - k = m + 1 := ⟨n - k - 1, by omega⟩
  rw [hm, show n - (k + 1) = m by omega, List.set_append_right _ _ (by simp; omega)]
  have e : l.take (k + 1) = l.take k ++ [x] := by
    obtain ⟨h', rfl⟩ := List.getElem?_eq_some_iff.1 hx
    exact List.take_succ_eq_append_getElem h'
  rw [e]
  simp [List.replicate_succ, Nat.min_eq_left (Nat.le_of_lt hl)]
theorem part_all (n : Nat) (l : List Nat) (h : l.length = n) : part n l n = l := by subst h; simp [part]

def madeW (w : World) (n a b : Nat) : World := (((w.alloc (.cells (madeCells #[.int .i64 0] n) 3)).alloc (.cells (madeCells #[.int .i64 0] n) 3)).alloc (.cells #[.slice (some ⟨a, 0, none⟩) n n, .slice (some ⟨b, 0, none⟩) n n] 91)).drew
theorem made_at (w : World) (n a b : Nat) (hn : n ≤ 200) (hab : (a = w.heap.size ∧ b = w.heap.size + 1) ∨ (a = w.heap.size + 1 ∧ b = w.heap.size)) :
    UfAt w.heap.size (madeW w n a b) (w.heap.size + 1 + 1) a b n (List.replicate n 0) (List.replicate n 0) ∧ Below w.heap.size w (madeW w n a b) := by
  have z : nats (List.replicate n 0) = List.replicate n (.int .i64 0) := by simp [nats]
  have o1 : (madeW w n a b).ownsRow w.heap.size 3 1 (.slice (some ⟨w.heap.size, 0, none⟩) n n) n (nats (List.replicate n 0)) := by
    have := World.ownsRow_lit (e := 3) (size := 1) (base := w.heap.size) w (madeCells #[.int .i64 0] n) n (Nat.le_refl _) (by unfold maxLen; omega) (by simp [madeCells])
    rw [toList_madeCells_one] at this
    rw [z]
    exact (this.alloc _).alloc _
  have o2 : (madeW w n a b).ownsRow w.heap.size 3 1 (.slice (some ⟨w.heap.size + 1, 0, none⟩) n n) n (nats (List.replicate n 0)) := by
    have := World.ownsRow_lit (e := 3) (size := 1) (base := w.heap.size) (w.alloc (.cells (madeCells #[.int .i64 0] n) 3)) (madeCells #[.int .i64 0] n) n (by simp) (by unfold maxLen; omega) (by simp [madeCells])
    rw [toList_madeCells_one, show (w.alloc (.cells (madeCells #[.int .i64 0] n) 3)).heap.size = w.heap.size + 1 by simp] at this
    rw [z]
    exact this.alloc _
  have hB : Blk (madeW w n a b) (w.heap.size + 1 + 1) 91 [.slice (some ⟨a, 0, none⟩) n n, .slice (some ⟨b, 0, none⟩) n n] := by
    have := Blk.new ((w.alloc (.cells (madeCells #[.int .i64 0] n) 3)).alloc (.cells (madeCells #[.int .i64 0] n) 3)) 91 [.slice (some ⟨a, 0, none⟩) n n, .slice (some ⟨b, 0, none⟩) n n]
    rw [show ((w.alloc (.cells (madeCells #[.int .i64 0] n) 3)).alloc (.cells (madeCells #[.int .i64 0] n) 3)).heap.size = w.heap.size + 1 + 1 by simp] at this
    exact this
  have hb : Below w.heap.size w (madeW w n a b) := below_drew (below_alloc (below_alloc (below_alloc (Below.refl _ _) _) _) _)
  rcases hab with ⟨rfl, rfl⟩ | ⟨rfl, rfl⟩
  · exact ⟨⟨hB, by omega, o1, o2, by omega⟩, hb⟩
  · exact ⟨⟨hB, by omega, o2, o1, by omega⟩, hb⟩

set_option maxHeartbeats 4000000 in
theorem ufnew_any (w : World) (n : Nat) (hn : n ≤ 200) :
    Calls Try.prog 45 #[.int .i64 n] w fun e w' => ∃ g u s, e = .returned (.pointer (some ⟨g, 0, none⟩)) ∧ UfRep w.heap.size w' g u s n (Uf.start n) ∧ Below w.heap.size w w' := by
  have hmk := make_ints n hn
  have hA := made_at w n (w.heap.size + 1) w.heap.size hn (.inr ⟨rfl, rfl⟩)
  have hC := made_at w n w.heap.size (w.heap.size + 1) hn (.inl ⟨rfl, rfl⟩)
  go_enter Try.func45, Try.ntmps45
  go_wp2_with fail
  go_region
  · have hU := hC
    unfold madeW at hU
    generalize ((((w.alloc _).alloc _).alloc _).drew) = w0 at hU ⊢
    have HK := Lib.hid hU
    clear hU
    go_wp2_with fail
    go_loopw [12] (fun i wr => ∃ k : Nat, k ≤ n ∧ i = .int .i64 k ∧ UfAt w.heap.size wr (w.heap.size + 1 + 1) w.heap.size (w.heap.size + 1) n (part n (List.range n) k) (part n (List.replicate n 1) k) ∧ Below w.heap.size w wr) (fun i _ => n - (intOf i).toNat)
    case atStart => exact ⟨0, Nat.zero_le _, rfl, by simpa [part] using HK.out.1, HK.out.2⟩
    case round =>
      clear HK
      obtain ⟨k, hk, rfl, hu, hb⟩ := hrel
      by_cases hlt : k < n
      · have hux := hu
        have c0 := hu.blk.cell 0
        have c1 := hu.blk.cell 1
        simp only [List.getElem?_cons_succ, List.getElem?_cons_zero] at c0 c1
        have e1 := Lib.hid (part_set n (List.range n) k k hlt (by simp [hlt]))
        have e2 := Lib.hid (part_set n (List.replicate n 1) k 1 hlt (by simp [hlt]))
        obtain ⟨hB, hbase, hup, hsz, hap⟩ := hu
        have f0 := own_frozen2 hup k
        have f1 := own_frozen2 hsz k
        have g0 := nat_cell hup k hlt (by simp [part]; omega)
        have g1 := nat_cell hsz k hlt (by simp [part]; omega)
        go_wp2
        go_region
        obtain ⟨hu4, hk4⟩ := uf_fill hux k k 1
        rw [e1.out, e2.out] at hu4
        generalize ((wr.setCell _ _).setCell _ _).drew = w4 at hu4 hk4 ⊢
        go_wp2
        go_roundw
        case rel => exact ⟨k + 1, by omega, by go_num, hu4, hb.trans (hk4.below hb.size (fun i hi => by omega))⟩
        case measure => simp [intOf]; omega
      · have hk' : k = n := by omega
        rw [hk', part_all _ _ (by simp), part_all _ _ (by simp)] at hu
        go_wp2
        go_ret
        exact ⟨_, _, _, rfl, ⟨by simp [Uf.start], _, _, _, hu, Uf.Tree.fresh n⟩, hb⟩
  · have hU := hA
    unfold madeW at hU
    generalize ((((w.alloc _).alloc _).alloc _).drew) = w0 at hU ⊢
    have HK := Lib.hid hU
    clear hU
    go_wp2_with fail
    go_loopw [12] (fun i wr => ∃ k : Nat, k ≤ n ∧ i = .int .i64 k ∧ UfAt w.heap.size wr (w.heap.size + 1 + 1) (w.heap.size + 1) w.heap.size n (part n (List.range n) k) (part n (List.replicate n 1) k) ∧ Below w.heap.size w wr) (fun i _ => n - (intOf i).toNat)
    case atStart => exact ⟨0, Nat.zero_le _, rfl, by simpa [part] using HK.out.1, HK.out.2⟩
    case round =>
      clear HK
      obtain ⟨k, hk, rfl, hu, hb⟩ := hrel
      by_cases hlt : k < n
      · have hux := hu
        have c0 := hu.blk.cell 0
        have c1 := hu.blk.cell 1
        simp only [List.getElem?_cons_succ, List.getElem?_cons_zero] at c0 c1
        have e1 := Lib.hid (part_set n (List.range n) k k hlt (by simp [hlt]))
        have e2 := Lib.hid (part_set n (List.replicate n 1) k 1 hlt (by simp [hlt]))
        obtain ⟨hB, hbase, hup, hsz, hap⟩ := hu
        have f0 := own_frozen2 hup k
        have f1 := own_frozen2 hsz k
        have g0 := nat_cell hup k hlt (by simp [part]; omega)
        have g1 := nat_cell hsz k hlt (by simp [part]; omega)
        go_wp2
        go_region
        obtain ⟨hu4, hk4⟩ := uf_fill hux k k 1
        rw [e1.out, e2.out] at hu4
        generalize ((wr.setCell _ _).setCell _ _).drew = w4 at hu4 hk4 ⊢
        go_wp2
        go_roundw
        case rel => exact ⟨k + 1, by omega, by go_num, hu4, hb.trans (hk4.below hb.size (fun i hi => by omega))⟩
        case measure => simp [intOf]; omega
      · have hk' : k = n := by omega
        rw [hk', part_all _ _ (by simp), part_all _ _ (by simp)] at hu
        go_wp2
        go_ret
        exact ⟨_, _, _, rfl, ⟨by simp [Uf.start], _, _, _, hu, Uf.Tree.fresh n⟩, hb⟩

theorem num_any (b : Bool) (w : World) : Calls Try.prog 53 #[.bool b] w fun e w' => e = .returned (.int .i64 (Uf.num b)) ∧ w' = w := by
  rcases b with _ | _
  all_goals
    go_enter Try.func53, Try.ntmps53
    go_wp2
    go_ret
    exact ⟨rfl, rfl⟩
end Go.Proofs.Ytphbegadddamgaa
