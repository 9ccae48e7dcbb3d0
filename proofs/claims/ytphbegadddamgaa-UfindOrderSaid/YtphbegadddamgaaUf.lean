/-
  Package ufind, walked: Head.
-/
import Derived.Test.YtphbegadddamgaaChecked
import Derived.Test.YtphbegadddamgaaStill
import Derived.Test.YtphbegadddamgaaUfTree
namespace Go.Proofs.Ytphbegadddamgaa
set_option linter.unusedVariables false
set_option linter.unusedSimpArgs false
open Go.RowKit

def nats (l : List Nat) : List Value := l.map fun (n : Nat) => .int .i64 (n : Int)
theorem nats_length (l : List Nat) : (nats l).length = l.length := by simp [nats]
theorem nats_set (l : List Nat) (i x : Nat) : nats (l.set i x) = (nats l).set i (.int .i64 x) := by simp [nats, List.map_set]

/-- the sets in block g, their two rows in blocks u and s -/
structure UfAt (B : Nat) (w : World) (g u s n : Nat) (up sz : List Nat) : Prop where
  blk : Blk w g 91 [.slice (some ⟨u, 0, none⟩) n n, .slice (some ⟨s, 0, none⟩) n n]
  base : B ≤ g
  up : w.ownsRow B 3 1 (.slice (some ⟨u, 0, none⟩) n n) n (nats up)
  sz : w.ownsRow B 3 1 (.slice (some ⟨s, 0, none⟩) n n) n (nats sz)
  apart : u ≠ s

section
variable {B g u s n : Nat} {w w' : World} {up sz : List Nat}
theorem UfAt.ug (h : UfAt B w g u s n up sz) : u ≠ g := fun e => own_blk_ne h.up h.blk (by decide) (by rw [← e]; rfl)
theorem UfAt.sg (h : UfAt B w g u s n up sz) : s ≠ g := fun e => own_blk_ne h.sz h.blk (by decide) (by rw [← e]; rfl)
theorem UfAt.drewN (h : UfAt B w g u s n up sz) (k : Nat) : UfAt B (w.drewN k) g u s n up sz := ⟨h.blk, h.base, h.up, h.sz, h.apart⟩
theorem UfAt.keeps {S : Nat → Prop} (h : UfAt B w g u s n up sz) (k : Keeps S w w') (hg : ¬ S g) (hu : ¬ S u) (hs : ¬ S s) : UfAt B w' g u s n up sz :=
  ⟨h.blk.keeps k hg, h.base, own_keeps h.up k (fun b hb => by injection hb with hb; subst hb; exact hu), own_keeps h.sz k (fun b hb => by injection hb with hb; subst hb; exact hs), h.apart⟩
theorem nat_cell {base c : Nat} {xs : List Nat} {b : Nat} (h : w.ownsRow base 3 1 (.slice (some ⟨b, 0, none⟩) n c) n (nats xs)) (i : Nat) (hi : i < n) (hx : xs.length = n) : w.cell? ⟨b, i, none⟩ = some (.int .i64 (Uf.at_ xs i)) := by
  rw [h.cellAt i (by omega), nats, List.getElem?_map, Uf.at_get (by omega)]
  rfl
end

theorem head_any (B : Nat) (w : World) (g u s n : Nat) (up sz l : List Nat) (d : Nat → Nat) (h : UfAt B w g u s n up sz) (t : Uf.Tree up sz l d) (hn : l.length = n) (i : Nat) (hi : i < n) :
    Calls Try.prog 54 #[.pointer (some ⟨g, 0, none⟩), .int .i64 i] w fun e w' => ∃ r up', e = .returned (.int .i64 (r : Nat)) ∧ UfAt B w' g u s n up' sz ∧ Uf.Tree up' sz l d ∧ r < n ∧ Uf.at_ up' r = r ∧ Uf.at_ l r = Uf.at_ l i ∧ (∀ x, Uf.at_ up x = x → Uf.at_ up' x = x) ∧ Keeps (fun k => k = u) w w' := by
  have hug := h.ug
  have hap := h.apart
  obtain ⟨_, _, hv, _, hm⟩ := own_slice h.up
  cases hv
  unfold maxLen at hm
  have HN := Lib.hid hn
  go_enter Try.func54, Try.ntmps54
  go_wp2_with fail
  go_loopw [1] (fun iv wr => ∃ (j : Nat) (up' : List Nat), j < n ∧ iv = .int .i64 j ∧ UfAt B wr g u s n up' sz ∧ Uf.Tree up' sz l d ∧ Uf.at_ l j = Uf.at_ l i ∧ (∀ x, Uf.at_ up x = x → Uf.at_ up' x = x) ∧ Keeps (fun k => k = u) w wr) (fun iv _ => d (intOf iv).toNat)
  case atStart => exact ⟨i, up, hi, rfl, h, t, rfl, fun _ h => h, Keeps.refl _ _⟩
  case round =>
    clear h t
    obtain ⟨j, up', hj, rfl, hu, ht, hlj, hr, hk⟩ := hrel
    have HR := Lib.hid hr
    clear hr
    have hul : up'.length = n := by rw [ht.ul, hn]
    have hkn : Uf.at_ up' j < n := by have := ht.lt j (by omega); omega
    have hmn : Uf.at_ up' (Uf.at_ up' j) < n := by have := ht.lt _ (show Uf.at_ up' j < l.length by omega); omega
    have c0 := hu.blk.cell 0
    simp only [List.getElem?_cons_zero] at c0
    have cj := nat_cell hu.up j hj hul
    have ck := nat_cell hu.up _ hkn hul
    by_cases he : Uf.at_ up' j = j
    · rw [he] at cj
      have HE := Lib.hid he
      clear he ck hkn hmn
      have hq : ((j : Int) != (j : Int)) = false := by simp
      go_wp2
      go_ret
      exact ⟨j, up', rfl, hu, ht, hj, HE.out, hlj, HR.out, hk⟩
    · have hq : ((Uf.at_ up' j : Int) != (j : Int)) = true := by simp; omega
      have hhalf := ht.half j (by omega) he
      have hroot : ∀ x, Uf.at_ up x = x → Uf.at_ (up'.set j (Uf.at_ up' (Uf.at_ up' j))) x = x := fun x hx => by
        rw [Uf.at_set _ _ _ _ (by omega)]
        split
        · rename_i e; subst e; exact absurd (HR.out _ hx) he
        · exact HR.out x hx
      have hlm : Uf.at_ l (Uf.at_ up' (Uf.at_ up' j)) = Uf.at_ l i := by rw [ht.lab _ (by omega), ht.lab _ (by omega), hlj]
      have hdd : d (Uf.at_ up' (Uf.at_ up' j)) < d j := by
        have h1 := ht.deep j (by omega) he
        by_cases e : Uf.at_ up' (Uf.at_ up' j) = Uf.at_ up' j
        · rw [e]; exact h1
        · exact Nat.lt_trans (ht.deep _ (by omega) e) h1
      obtain ⟨k, hk0⟩ : ∃ k, k = Uf.at_ up' j := ⟨_, rfl⟩
      rw [← hk0] at cj ck hkn hmn hq hhalf hlm hdd he hroot
      obtain ⟨m, hm0⟩ : ∃ m, m = Uf.at_ up' k := ⟨_, rfl⟩
      rw [← hm0] at ck hmn hhalf hlm hdd hroot
      have HH := Lib.hid hhalf
      have HLM := Lib.hid hlm
      have HDD := Lib.hid hdd
      have HROOT := Lib.hid hroot
      clear hhalf hlm hdd hroot hk0 hm0 ht hlj
      go_wp2
      (refine still_last (by kernel_rfl) (by kernel_rfl) ?_; simp only [List.length_cons, List.length_nil, Nat.reduceAdd, Nat.reduceSub, List.take_succ_cons, List.take_zero, List.drop_succ_cons, List.drop_zero]; repeat still_step; try refine wpStill_nil ?_)
      refine wpl_set_own (w := wr.drewN 1) hu.up j (.int .i64 m) (by kernel_rfl) hj rfl rfl rfl rfl rfl rfl ?_
      intro w3 hown3 hg3
      rw [← nats_set] at hown3
      have hk3 : Keeps (fun k => k = u) wr w3 := ((Keeps.of_grown hg3).undrewN).mono (fun i hi => by injection hi)
      have hu3 : UfAt B w3 g u s n (up'.set j m) sz := ⟨hu.blk.keeps hk3 (fun e => hug e.symm), hu.base, hown3, own_keeps hu.sz hk3 (fun b hb e => by injection hb with hb; exact hap (e.symm.trans hb.symm)), hu.apart⟩
      have e0 := hu3.blk.cell 0
      simp only [List.getElem?_cons_zero] at e0
      have e1 := nat_cell hown3 j hj (by simpa using hul)
      rw [Uf.at_set _ _ _ _ (by omega), if_pos rfl] at e1
      clear c0 cj ck hu hown3 hg3
      go_wp2
      go_roundw
      case rel => exact ⟨m, _, hmn, rfl, hu3, HH.out, HLM.out, HROOT.out, hk.trans hk3⟩
      case measure => simpa [intOf] using HDD.out
end Go.Proofs.Ytphbegadddamgaa
