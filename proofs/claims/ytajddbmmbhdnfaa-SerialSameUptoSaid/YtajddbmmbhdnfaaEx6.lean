/-
  expr.Eval: what it is worth.
-/
import Derived.Test.YtajddbmmbhdnfaaEx5
namespace Go.Proofs.Ytajddbmmbhdnfaa
set_option linter.unusedVariables false
set_option linter.unusedSimpArgs false
set_option maxRecDepth 100000
open Go.RowKit

namespace Ex
def bs (zs : List Bd) : List (Bs × Int) := zs.map fun z => (z.1.data.toList, z.2)
theorem look_none (s : Bs) : ∀ l : List (Bs × Int), (∀ b ∈ l, (b.1 == s) = false) → look s l = 0
  | [], _ => rfl
  | b :: l, h => by
    have ha : l.any (fun x => x.1 == s) = false := by simpa using fun x y hx => by simpa using h (x, y) (List.mem_cons_of_mem _ hx)
    unfold look
    rw [ha, h b List.mem_cons_self]
    rfl
theorem look_last (s : Bs) (b : Bs × Int) (r : List (Bs × Int)) (hb : (b.1 == s) = true) (hr : ∀ b ∈ r, (b.1 == s) = false) : ∀ p : List (Bs × Int), look s (p ++ b :: r) = b.2
  | [] => by
    have ha : r.any (fun x => x.1 == s) = false := by simpa using fun x y hx => by simpa using hr (x, y) hx
    rw [List.nil_append, look, ha, hb]
    rfl
  | c :: p => by
    have ha : (p ++ b :: r).any (fun x => x.1 == s) = true := by simp only [List.any_append, List.any_cons, hb, Bool.true_or, Bool.or_true]
    rw [List.cons_append, look, ha]
    exact look_last s b r hb hr p
theorem mem_down {zs : List Bd} {m : Nat} {z : Bd} (h : z ∈ zs.drop m) : ∃ p ∈ down zs m, p.2 = z := by
  have : z ∈ (down zs m).map Prod.snd := by rw [down_snd]; exact List.mem_reverse.2 h
  exact List.mem_map.1 this
theorem look_down_none (s : ByteArray) (zs : List Bd) (h : ∀ p ∈ down zs 0, (p.2.1.toList == s.toList) = false) : look s.data.toList (bs zs) = 0 := by
  refine look_none _ _ fun b hb => ?_
  obtain ⟨z, hz, rfl⟩ := List.mem_map.1 hb
  obtain ⟨p, hp, rfl⟩ := mem_down (zs := zs) (m := 0) (by simpa using hz)
  simpa [ByteArray.toList_eq] using h p hp
theorem look_down_some (s : ByteArray) (zs : List Bd) (m : Nat) (ini : List (Nat × Bd)) (x : Nat × Bd) (h : down zs m = ini ++ [x]) (hx : (x.2.1.toList == s.toList) = true) (hi : ∀ p ∈ ini, (p.2.1.toList == s.toList) = false) : look s.data.toList (bs zs) = x.2.2 := by
  have h1 := down_snd zs m
  rw [h, List.map_append] at h1
  have h2 : zs.drop m = x.2 :: (ini.map Prod.snd).reverse := by
    have := congrArg List.reverse h1
    simpa using this.symm
  have h3 : zs = zs.take m ++ x.2 :: (ini.map Prod.snd).reverse := by rw [← h2, List.take_append_drop]
  have h4 : bs zs = bs (zs.take m) ++ (x.2.1.data.toList, x.2.2) :: bs (ini.map Prod.snd).reverse := by
    conv => lhs; rw [h3]
    simp [bs]
  rw [h4]
  refine look_last _ _ _ (by simpa [ByteArray.toList_eq] using hx) (fun b hb => ?_) _
  obtain ⟨z, hz, rfl⟩ := List.mem_map.1 hb
  obtain ⟨p, hp, rfl⟩ := List.mem_map.1 (List.mem_reverse.1 hz)
  simpa [ByteArray.toList_eq] using hi p hp
end Ex

/-- **expr.Eval** -/
theorem eval_ok (v : Value) (zs : List Ex.Bd) (hr : zs.length ≤ 8796093022200) : ∀ e : Ex.X, EvalOK v zs (Ex.bs zs) e
  | .num n => fun w cs h hv => by
    cases h with
    | num n s A len cap h1 h2 h3 => exact eval_num n s A len cap v w h1 h2
  | .bad => fun w cs h hv => by
    cases h with
    | bad k n s A len cap h1 h2 h3 h4 h5 => exact eval_bad k n s A len cap v w h1 h2 h3 h4 h5
  | .two k a b => eval_two v zs _ k a b (eval_ok v zs hr a) (eval_ok v zs hr b)
  | .name s => fun w cs h hv => by
    cases h with
    | name n s A len cap h1 h2 =>
      obtain ⟨V, c, rfl, -, -, -, hc⟩ := hv
      refine (eval_name_in n s A len cap w h1 h2 zs V c hc hr).mono ?_
      rintro e w' ⟨⟨r, rfl, ⟨rfl, h⟩ | ⟨m, ini, x, hm, h, hx, hi, rfl⟩⟩, hb⟩
      · exact ⟨by rw [Ex.evl, Ex.look_down_none s zs h], hb⟩
      · exact ⟨by rw [Ex.evl, Ex.look_down_some s zs m ini x h hx hi], hb⟩
end Go.Proofs.Ytajddbmmbhdnfaa
