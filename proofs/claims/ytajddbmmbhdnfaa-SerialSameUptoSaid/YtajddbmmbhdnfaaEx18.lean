/-
  expr.Names, walked: its function.
-/
import Derived.Test.YtajddbmmbhdnfaaFacts
import Derived.Test.YtajddbmmbhdnfaaEx16
namespace Go.Proofs.Ytajddbmmbhdnfaa
set_option linter.unusedVariables false
set_option linter.unusedSimpArgs false
set_option maxRecDepth 100000
open Go.RowKit

/-- what gathers names -/
structure Nm (B : Nat) (w : World) (gf g : Nat) (v : Value) (xs : List ByteArray) : Prop where
  fn : Blk w gf 136 [.func (.func 61) #[] #[.pointer (some ⟨gf, 0, none⟩), .pointer (some ⟨g, 0, none⟩)]]
  blk : Blk w g 116 [v]
  row : w.ownsRow B 9 1 v xs.length (strs xs)
  base : B ≤ w.heap.size
  at_ : B ≤ g
  ne : v.ownBlock ≠ some g
  nef : v.ownBlock ≠ some gf
  gg : gf ≠ g

def NmEnd (B : Nat) (w : World) (gf g : Nat) (v : Value) (xs : List ByteArray) : Ending → World → Prop := fun e w' =>
  e = .returned (.tuple #[]) ∧ ∃ v', Nm B w' gf g v' xs ∧ Keeps (fun k => k = g ∨ v.ownBlock = some k) w w' ∧ (∀ i, v'.ownBlock = some i → v.ownBlock = some i ∨ w.heap.size ≤ i)

theorem Nm.keeps {B : Nat} {w w' : World} {gf g : Nat} {v : Value} {xs : List ByteArray} (h : Nm B w gf g v xs) (k : Keeps (fun _ => False) w w') : Nm B w' gf g v xs :=
  ⟨h.fn.keeps k id, h.blk.keeps k id, own_keeps h.row k (fun _ _ => id), Nat.le_trans h.base k.size, h.at_, h.ne, h.nef, h.gg⟩
theorem Nm.alloc {B : Nat} {w : World} {gf g : Nat} {v : Value} {xs : List ByteArray} (h : Nm B w gf g v xs) (o : Obj) : Nm B (w.alloc o) gf g v xs := h.keeps ((Keeps.refl _ w).alloc o)
theorem nm_back {B : Nat} {w w0 : World} {gf g : Nat} {v : Value} {xs : List ByteArray} (hk : Keeps (fun _ => False) w w0) {e : Ending} {w' : World} (h : NmEnd B w0 gf g v xs e w') : NmEnd B w gf g v xs e w' := by
  obtain ⟨h1, v', h2, h3, h4⟩ := h
  have := hk.size
  exact ⟨h1, v', h2, (hk.mono (fun _ h => h.elim)).trans h3, fun i hi => (h4 i hi).imp id (fun h => by omega)⟩

theorem nm_put {B : Nat} {w w0 w4 : World} {gf g : Nat} {v v' : Value} {xs xs' : List ByteArray} (hL : Nm B w0 gf g v xs) (hk0 : Keeps (fun _ => False) w w0) (hg4 : w0.grownBy w4 v.ownBlock) (hown : w4.ownsRow B 9 1 v' xs'.length (strs xs'))
    (hv4 : v'.ownBlock = v.ownBlock ∨ v'.ownBlock = some (w0.heap.size + 1)) : Blk w4 g 116 [v] ∧ ∀ w5, Blk w5 g 116 [v'] → w4.grownBy w5 (some g) → NmEnd B w gf g v xs' (.returned (.tuple #[])) w5 := by
  have kk : Keeps (fun k => v.ownBlock = some k) w0 w4 := (Keeps.of_grown hg4).mono (fun i hi => hi.symm)
  have far : ∀ i, i < w0.heap.size → v.ownBlock ≠ some i → v'.ownBlock ≠ some i := fun i hi hne e => by
    rcases hv4 with h | h
    · exact hne (h ▸ e)
    · rw [h] at e
      injection e with e
      omega
  have hne := far g hL.blk.lt hL.ne
  have hnf := far gf hL.fn.lt hL.nef
  refine ⟨hL.blk.keeps kk hL.ne, fun w5 hB5 hg5 => ?_⟩
  have ks : Keeps (fun k => k = g) w4 w5 := (Keeps.of_grown hg5).mono (fun i hi => by injection hi)
  refine ⟨rfl, v', ⟨(hL.fn.keeps kk hL.nef).keeps ks hL.gg, hB5, own_keeps hown ks (fun i hi e => hne (e ▸ hi)), by have := hL.base; have := kk.size; have := ks.size; omega, hL.at_, hne, hnf, hL.gg⟩, ((hk0.mono (fun _ h => h.elim)).trans (kk.mono (fun i hi => .inr hi))).trans (ks.mono (fun i hi => .inl hi)), fun i hi => ?_⟩
  rcases hv4 with h | h
  · exact .inl (h ▸ hi)
  · rw [h] at hi
    injection hi with hi
    have := hk0.size
    exact .inr (by omega)
theorem info_str : (Try.prog.info? 9).map (fun i => (i.zero, i.size, i.bytes)) = some (some (.string ⟨#[]⟩), 1, 16) := by kernel_rfl
end Go.Proofs.Ytajddbmmbhdnfaa
