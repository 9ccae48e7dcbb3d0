/-
  Bindings end with their block: the law, walked.
-/
import Derived.Test.YtdhjfckckghicaaDoorScP4

namespace Go.Proofs.YtdhjfckckghicaaDoor
set_option linter.unusedVariables false
set_option linter.unusedSimpArgs false
set_option maxRecDepth 100000
open Go.RowKit

theorem info_stmt' : (Tryd.prog.info? 36).map (fun i => (i.zero, i.size, i.bytes)) = some (some (.agg #[.int .i64 0, .string ⟨#[]⟩, .int .i64 0, .int .i64 0, .string ⟨#[]⟩, .slice none 0 0, .int .i64 0, .int .i64 0, .string ⟨#[]⟩, .slice none 0 0, .slice none 0 0, .slice none 0 0]), 12, 184) := by kernel_rfl
/-- the cells of a let of each name -/
def lcs (l : List ByteArray) : List Value := l.flatMap fun s => stcells 1 s (xcells 1 0 ⟨#[]⟩ none 0 0) xzeros none 0 0 none 0 0
theorem lcs_snoc (l : List ByteArray) (s : ByteArray) : lcs (l ++ [s]) = lcs l ++ stcells 1 s (xcells 1 0 ⟨#[]⟩ none 0 0) xzeros none 0 0 none 0 0 := by simp [lcs]
theorem lcs_pc {B : Nat} {w : World} : ∀ l : List ByteArray, PC B w (lcs l) l.length (Sr.lets l)
  | [] => .nil
  | s :: l => by
    have h1 := PC.one (w := w) (B := B) (k := 1) (nm := s) (ca := xcells 1 0 ⟨#[]⟩ none 0 0) (cb := xzeros) (D := none) (dl := 0) (dc := 0) (E := none) (el := 0) (ec := 0) ⟨Nat.le_refl _, Nat.zero_le _, Nat.le_refl _, Nat.zero_le _⟩ (xnum w 0 (by unfold Ex.rng; omega)) (xbad w) (.nil _) (.nil _)
    have h2 := h1.append (lcs_pc l)
    have e : (St.P.cons 1 s.data.toList (.num 0) .bad .nil .nil .nil ++ Sr.lets l) = Sr.lets (s :: l) := rfl
    rw [e, Nat.add_comm] at h2
    exact h2
theorem Sr.lets_size : ∀ l : List ByteArray, (Sr.lets l).size = 3 * l.length
  | [] => rfl
  | s :: l => by
    unfold Sr.lets
    rw [St.P.size, Sr.lets_size l]
    simp only [Ex.X.leaves, St.P.size, List.length_cons]
    omega

set_option maxHeartbeats 4000000 in
theorem scopeClosed_walk (w : World) (p : St.P) (v : Value) (hp : IsP w v p) (hs : p.size ≤ 68719476736) (hP : Pow w.heap.size w) :
    Calls Tryd.prog 4 #[v] w fun e w' => e = .returned (.bool true) ∧ Below w.heap.size w w' := by
  have hal := alive12_any w w.heap.size (Nat.le_refl _) hP
  obtain ⟨D, dl, dc, rfl, hd1, hd2, hd3⟩ := id hp
  obtain ⟨csp, hpc, hcl⟩ := hd3.flat
  have hln : dl ≤ p.size := by rw [hd3.length]; exact p.length_le
  have HC := Lib.hid (And.intro hpc hcl)
  clear hP hd3 hpc hcl
  go_enter Tryd.func4, Tryd.ntmps4
  go_wp2_with fail
  refine hal.mono ?_
  rintro e w1 ⟨rfl, hb1⟩
  have hfr := isP_free (hp.step hb1) (by omega)
  clear hal hp
  go_wp2_with fail
  refine hfr.mono ?_
  rintro e w3 ⟨vf, rfl, hf, hb3⟩
  have hb3' := below_next hb3 hb1
  obtain ⟨fs, hfs⟩ : ∃ fs, fs = Sr.free p := ⟨_, rfl⟩
  rw [← hfs] at hf
  have hfl : fs.length ≤ p.size := by
    have := Sr.fr_length p [] []
    rw [hfs]
    unfold Sr.free
    simpa using this
  have HFS := Lib.hid hfs
  obtain ⟨Vf, cf, rfl, hcf1, hcf2⟩ := own_slice hf
  unfold maxLen at hcf2
  have hw13 := hb1.size
  clear hfr hfs hb3 hb1
  go_wp2_with fail
  go_loopw [3, 11] (fun out i wr => ∃ k : Nat, k ≤ fs.length ∧ i = .int .i64 (k : Int) ∧ Below w3.heap.size w3 wr ∧ wr.ownsRow w3.heap.size 36 12 out k (lcs (fs.take k))) (fun _ i _ => fs.length - (intOf i).toNat)
  case atStart => exact ⟨0, Nat.zero_le _, rfl, Below.refl _ _, World.ownsRow_nil _ _ _ _⟩
  case round =>
    obtain ⟨k, hk, rfl, hlow, hown⟩ := hrel
    by_cases hlk : k < fs.length
    · obtain ⟨x, hx⟩ : ∃ x, fs[k]? = some x := ⟨_, List.getElem?_eq_getElem hlk⟩
      obtain ⟨b, o, rfl, hbl, hcell⟩ := (SlV.of_own hf |>.below hlow |> fun h => (show Cells wr wr.heap.size Vf (strs fs) by obtain ⟨A, c, e, -, -, -, h⟩ := h; injection e with e1 _ _; rw [e1]; exact h)).str hx
      have htk : fs.take (k + 1) = fs.take k ++ [x] := by
        obtain ⟨h', rfl⟩ := List.getElem?_eq_some_iff.1 hx
        exact List.take_succ_eq_append_getElem h'
      have HX := Lib.hid htk
      clear htk hx
      go_wp2_with fail
      refine (num_any 0 _).mono ?_
      rintro e w5 ⟨rfl, hb5⟩
      have hown5 := own_keeps hown (Keeps.of_below hb5 (fun _ => False)) (fun _ _ h => h)
      have hlow5 := below_next hb5 hlow
      have hn63 : k + 1 ≤ maxLen := by unfold maxLen; omega
      have hn47 : (k + 1) * 184 ≤ 140737488355328 := by omega
      have hbs := hlow5.size
      clear hown hb5 hcell
      unfold xcells
      go_wp2_with (first | (at_builtin; refine wp_push w5 _ _ w3.heap.size _ _ _ _ _ Tryd.underlying22 info_stmt' rfl (by decide) hown5 [.int .i64 1, .string x, .int .i64 1, .int .i64 0, .string ⟨#[]⟩, .slice none 0 0, .int .i64 0, .int .i64 0, .string ⟨#[]⟩, .slice none 0 0, .slice none 0 0, .slice none 0 0] rfl (stone _ _ _ _ _ _ _ _ _ _ _ _ _ _ _ _ _ _ _ _) hn63 hn47 hbs rfl rfl rfl rfl ?_; intro v7 w7 hown7 hg7 hv7 hb7) | fail)
      have HE := Lib.hid (And.intro hown7 (hlow5.trans hb7))
      clear hown7 hg7 hv7 hb7 hown5 hlow5
      try go_wp2_with fail
      go_roundw
      case rel => exact ⟨k + 1, by omega, by go_num, HE.out.2, by rw [HX.out, lcs_snoc]; exact HE.out.1⟩
      case measure => simp [intOf]; omega
    · obtain rfl : k = fs.length := by omega
      rw [List.take_length] at hown
      have hbw := below_next hlow hb3'
      have hcl := HC.out.2.keep hbw.size (fun q hq => hbw.cell hq)
      have hn63 : fs.length + dl ≤ maxLen := by unfold maxLen; omega
      have hn47 : (fs.length + dl) * 184 ≤ 140737488355328 := by omega
      have hbs := hlow.size
      have hone := HC.out.1.one_cells
      have HF := Lib.hid hf
      clear hf
      go_wp2_with (first | (at_builtin; refine wp_append wr _ _ w3.heap.size _ _ _ _ _ Tryd.underlying22 info_stmt' rfl (by decide) hown hcl HC.out.1.length hone hn63 hn47 hbs rfl rfl rfl rfl ?_; intro v7 w7 hown7 hg7 hv7 hb7) | fail)
      have hb7' := hlow.trans hb7
      have hbw7 := below_next hb7' hb3'
      have hfin : IsP w7 v7 (Sr.lets fs ++ p) := by
        have h1 : PC w7.heap.size w7 (lcs fs) fs.length (Sr.lets fs) := lcs_pc fs
        have h2 : PC w7.heap.size w7 csp dl p := HC.out.1.keep hbw7.size (fun q hq => hbw7.cell hq)
        exact IsP.of_slv (h1.append h2) (SlV.of_own hown7)
      have hfr := isP_free hfin (by rw [St.P.size_append, Sr.lets_size]; omega)
      rw [HFS.out, Sr.closed_law] at hfr
      clear hown hown7 hg7 hv7 hb7 hone hcl hfin
      refine hfr.mono ?_
      rintro e w8 ⟨v8, rfl, hv8, hb8⟩
      obtain ⟨V8, c8, rfl, -, -⟩ := own_slice hv8
      have HE := Lib.hid (below_next hb8 hbw7)
      clear hv8 hfr hb8 hbw7 hb7' hbw hlow hb3'
      go_wp2_with fail
      go_ret
      exact ⟨rfl, HE.out⟩
end Go.Proofs.YtdhjfckckghicaaDoor


namespace Go.Proofs.YtdhjfckckghicaaDoor
set_option linter.unusedVariables false
set_option linter.unusedSimpArgs false
set_option maxRecDepth 100000
open Go.RowKit

theorem merge_take (a b : List ByteArray) (k : Nat) (x : ByteArray) (h : b[k]? = some x) : Sr.merge a (b.take (k + 1)) = if Ex.has x (Sr.merge a (b.take k)) then Sr.merge a (b.take k) else Sr.merge a (b.take k) ++ [x] := by
  obtain ⟨h', rfl⟩ := List.getElem?_eq_some_iff.1 h
  rw [List.take_succ_eq_append_getElem h', Sr.merge_snoc]
theorem merge_length (a b : List ByteArray) : (Sr.merge a b).length ≤ a.length + b.length := by
  unfold Sr.merge
  induction b generalizing a with
  | nil => exact Nat.le_refl _
  | cons x b ih =>
    have h1 := ih (if Ex.has x a then a else a ++ [x])
    have h2 : (if Ex.has x a then a else a ++ [x]).length ≤ a.length + 1 := by split <;> simp
    rw [List.foldl_cons, List.length_cons]
    omega
theorem has_take (s : ByteArray) (l : List ByteArray) (k : Nat) (x : ByteArray) (h : l[k]? = some x) : Ex.has s (l.take (k + 1)) = (Ex.has s (l.take k) || s.toList == x.toList) := by
  obtain ⟨h', rfl⟩ := List.getElem?_eq_some_iff.1 h
  rw [List.take_succ_eq_append_getElem h', Bool.eq_iff_iff, Sr.has_mem, Bool.or_eq_true, Sr.has_mem, List.mem_append, List.mem_singleton]
  refine or_congr Iff.rfl ⟨fun e => by rw [e]; simp, fun e => Ex.bytes_eq (by simpa using e)⟩

set_option maxHeartbeats 4000000 in
theorem merge_any (v v' : Value) (a b : List ByteArray) (w : World) (ha : SlV w 1 v a.length (strs a)) (hb : SlV w 1 v' b.length (strs b)) (hz : a.length + b.length ≤ 4398046511104) :
    Calls Tryd.prog 15 #[v, v'] w fun e w' => ∃ u, e = .returned u ∧ w'.ownsRow w.heap.size 9 1 u (Sr.merge a b).length (strs (Sr.merge a b)) ∧ Below w.heap.size w w' := by
  obtain ⟨A, ca, rfl, ha1, ha2, ha3, hac⟩ := ha
  obtain ⟨Ab, cb, rfl, hb1, hb2, hb3, hbc⟩ := hb
  unfold maxLen at ha2 hb2
  have hml := fun k => merge_length a (b.take k)
  go_enter Tryd.func15, Tryd.ntmps15
  have hmade : (w.alloc (.cells #[] 9)).ownsRow w.heap.size 9 1 (.slice (some ⟨w.heap.size, 0, none⟩) 0 0) 0 [] := World.ownsRow_made (e := 9) (size := 1) (base := w.heap.size) w #[] 0 (Nat.le_refl _) (Nat.zero_le _) rfl
  have hac' := hac.keep (w' := w.alloc (.cells #[] 9)) (Nat.le_refl _) (fun p hp => World.cell?_alloc_lt w _ p hp)
  have n63 : 0 + a.length ≤ maxLen := by unfold maxLen; omega
  have n47 : (0 + a.length) * 16 ≤ 140737488355328 := by omega
  have hone := strs_one a
  go_wp2_with (first | (at_builtin; refine wp_append _ _ _ _ _ _ _ _ _ Tryd.underlying25 info_str rfl (by decide) hmade hac' (by simp [strs]) hone n63 n47 (by simp) rfl rfl rfl rfl ?_; intro v1 w1 hown1 _ _ hbl1) | fail)
  go_loopw [5, 16] (fun out i wr => ∃ k : Nat, k ≤ b.length ∧ i = .int .i64 (k : Int) ∧ Below w.heap.size w wr ∧ wr.ownsRow w.heap.size 9 1 out (Sr.merge a (b.take k)).length (strs (Sr.merge a (b.take k)))) (fun _ i _ => b.length - (intOf i).toNat)
  case atStart =>
    refine ⟨0, Nat.zero_le _, rfl, (below_alloc (Below.refl _ _) _).trans hbl1, ?_⟩
    have e : Sr.merge a (b.take 0) = a := rfl
    rw [e]
    simpa using hown1
  case round =>
    obtain ⟨k, hk, rfl, hlow, hown⟩ := hrel
    clear hmade hac' hown1 hbl1
    by_cases hlk : k < b.length
    · obtain ⟨x, hx⟩ : ∃ x, b[k]? = some x := ⟨_, List.getElem?_eq_getElem hlk⟩
      obtain ⟨g, o, rfl, hbl, hcell⟩ := (hbc.keep hlow.size (fun p hp => hlow.cell hp)).str hx
      have htk := merge_take a b k x hx
      obtain ⟨m, hm⟩ : ∃ m, m = Sr.merge a (b.take k) := ⟨_, rfl⟩
      have hml2 : m.length + 1 ≤ 4398046511105 := by
        have h1 := hml k
        rw [← hm, List.length_take] at h1
        omega
      rw [← hm] at htk hown
      have HT := Lib.hid htk
      obtain ⟨V, cV, rfl, hv1, hv2⟩ := own_slice hown
      unfold maxLen at hv2
      clear hm htk hx hac
      go_wp2
      go_loopw [8, 22] (fun h i w2 => ∃ j : Nat, j ≤ m.length ∧ i = .int .i64 (j : Int) ∧ h = .bool (Ex.has x (m.take j)) ∧ w2 = wr) (fun _ i _ => m.length - (intOf i).toNat)
      case atStart => exact ⟨0, Nat.zero_le _, rfl, rfl, rfl⟩
      case round =>
        obtain ⟨j, hj, rfl, rfl, rfl⟩ := hrel
        by_cases hlj : j < m.length
        · obtain ⟨y, hy⟩ : ∃ y, m[j]? = some y := ⟨_, List.getElem?_eq_getElem hlj⟩
          have HS := Lib.hid (has_take x m j y hy)
          obtain ⟨g', o', rfl, hbl', hcell'⟩ := (Cells.of_own hown).str hy
          have HO := Lib.hid hown
          clear hy hown
          rcases h1 : Ex.has x (m.take j) with _ | _
          · rcases h2 : x.toList == y.toList with _ | _
            · go_wp2_with fail
              go_roundw
              case rel => exact ⟨j + 1, by omega, by go_num, by rw [HS.out, h1, h2]; rfl, trivial⟩
              case measure => simp [intOf]; omega
            · go_wp2_with fail
              go_roundw
              case rel => exact ⟨j + 1, by omega, by go_num, by rw [HS.out, h1, h2]; rfl, trivial⟩
              case measure => simp [intOf]; omega
          · go_wp2_with fail
            go_roundw
            case rel => exact ⟨j + 1, by omega, by go_num, by rw [HS.out, h1]; rfl, trivial⟩
            case measure => simp [intOf]; omega
        · obtain rfl : j = m.length := by omega
          rw [List.take_length]
          rcases h1 : Ex.has x m with _ | _
          · have hn63 : m.length + 1 ≤ maxLen := by unfold maxLen; omega
            have hn47 : (m.length + 1) * 16 ≤ 140737488355328 := by omega
            have hbs := hlow.size
            have HT2 := Lib.hid (show Sr.merge a (b.take (k + 1)) = m ++ [x] by rw [HT.out, h1]; rfl)
            clear HT
            go_wp2_with (first | (at_builtin; refine wp_push wr _ _ w.heap.size _ _ _ _ _ Tryd.underlying25 info_str rfl (by decide) hown [.string x] rfl (strs_one [x]) hn63 hn47 hbs rfl rfl rfl rfl ?_; intro v7 w7 hown7 hg7 hv7 hb7) | fail)
            have HE := Lib.hid (And.intro hown7 (hlow.trans hb7))
            clear hown7 hg7 hv7 hb7 hown
            try go_wp2_with fail
            go_roundw
            case rel => exact ⟨k + 1, by omega, by go_num, HE.out.2, by rw [HT2.out]; simpa [strs] using HE.out.1⟩
            case measure => simp [intOf]; omega
          · have HT2 := Lib.hid (show Sr.merge a (b.take (k + 1)) = m by rw [HT.out, h1]; rfl)
            clear HT
            go_wp2_with fail
            go_roundw
            case rel => exact ⟨k + 1, by omega, by go_num, hlow, by rw [HT2.out]; exact hown⟩
            case measure => simp [intOf]; omega
    · obtain rfl : k = b.length := by omega
      rw [List.take_length] at hown
      go_wp2_with fail
      go_ret
      exact ⟨_, rfl, hown, hlow⟩
end Go.Proofs.YtdhjfckckghicaaDoor


namespace Go.Proofs.YtdhjfckckghicaaDoor
set_option linter.unusedVariables false
set_option linter.unusedSimpArgs false
set_option maxRecDepth 100000
open Go.RowKit


set_option maxHeartbeats 4000000 in
theorem scopeBlock_walk (w : World) (pa pb : St.P) (va vb : Value) (fin : Bool) (hpa : IsP w va pa) (hpb : IsP w vb pb) (hs : pa.size + pb.size ≤ 68719476736) (hP : Pow w.heap.size w) :
    Calls Tryd.prog 5 #[va, vb, .bool fin] w fun e w' => e = .returned (.bool true) ∧ Below w.heap.size w w' := by
  have hal := alive12_any w w.heap.size (Nat.le_refl _) hP
  obtain ⟨D, dl, dc, rfl, hd1, hd2, hd3⟩ := id hpa
  obtain ⟨E, el, ec, rfl, he1, he2, he3⟩ := id hpb
  obtain ⟨csb, hpc, hcl⟩ := he3.flat
  have hln : el ≤ pb.size := by rw [he3.length]; exact pb.length_le
  have hfla : (Sr.free pa).length ≤ pa.size := by have := Sr.fr_length pa [] []; unfold Sr.free; simpa using this
  have hflb : (Sr.free pb).length ≤ pb.size := by have := Sr.fr_length pb [] []; unfold Sr.free; simpa using this
  have HC := Lib.hid (And.intro hd3 (And.intro hpc hcl))
  clear hP hd3 he3 hpc hcl
  have hn63 : 1 + el ≤ maxLen := by unfold maxLen; omega
  have hn47 : (1 + el) * 184 ≤ 140737488355328 := by omega
  go_enter Tryd.func5, Tryd.ntmps5
  go_wp2_with fail
  refine hal.mono ?_
  rintro e w1 ⟨rfl, hb1⟩
  clear hal
  have HL := Lib.hid (fun kd => (World.ownsRow_lit (e := 36) (size := 12) (base := w1.heap.size) w1 (stcells kd ⟨#[]⟩ xzeros xzeros D dl dc none 0 0).toArray 1 (Nat.le_refl _) (by unfold maxLen; omega) (by rfl) : (w1.alloc _).ownsRow _ _ _ _ _ (stcells kd ⟨#[]⟩ xzeros xzeros D dl dc none 0 0)))
  have hb8 : ∀ kd, Below w1.heap.size w1 (w1.alloc (.cells (stcells kd ⟨#[]⟩ xzeros xzeros D dl dc none 0 0).toArray 36)) := fun kd => below_alloc (Below.refl _ _) _
  have HBc := Lib.hid (fun kd => (And.intro (HC.out.2.2.keep (below_next (hb8 kd) hb1).size (fun q hq => (below_next (hb8 kd) hb1).cell hq)) (And.intro HC.out.2.1.length HC.out.2.1.one_cells) : Cells (w1.alloc (.cells (stcells kd ⟨#[]⟩ xzeros xzeros D dl dc none 0 0).toArray 36)) _ E csb ∧ csb.length = el * 12 ∧ ∀ u ∈ csb, u.oneCell' = true))
  rcases fin with _ | _
  · go_wp2_with (first | (at_builtin; refine wp_append _ _ _ w1.heap.size _ _ _ _ _ Tryd.underlying22 info_stmt' rfl (by decide) (HL.out 4) (HBc.out 4).1 (HBc.out 4).2.1 (HBc.out 4).2.2 hn63 hn47 (by simp) rfl rfl rfl rfl ?_; intro v7 w7 hown7 hg7 hv7 hb7) | fail)
    have hb7' := (hb8 4).trans hb7
    have hfin : IsP w7 v7 (.cons 4 [] .bad .bad pa .nil .nil ++ pb) := by
      have hbw7 := below_next hb7' hb1
      have h1 : PC w7.heap.size w7 _ 1 _ := PC.one (k := 4) (nm := ⟨#[]⟩) (ca := xzeros) (cb := xzeros) (D := D) (dl := dl) (dc := dc) (E := none) (el := 0) (ec := 0) ⟨hd1, hd2, Nat.le_refl _, Nat.zero_le _⟩ (xbad w7) (xbad w7) (HC.out.1.keep hbw7.size (fun q hq => hbw7.cell hq)) (.nil _)
      have h2 : PC w7.heap.size w7 csb el pb := HC.out.2.1.keep hbw7.size (fun q hq => hbw7.cell hq)
      exact IsP.of_slv (h1.append h2) (SlV.of_own hown7)
    have hfr := isP_free hfin (by rw [St.P.size_append]; simp only [St.P.size, Ex.X.leaves]; omega)
    rw [show St.P.cons 4 [] .bad .bad pa .nil .nil ++ pb = .cons 4 [] .bad .bad pa .nil pb from rfl, Sr.block_law 4 (by omega)] at hfr
    have hlb := fun w' (hb : Below w7.heap.size w7 w') => isP_labels (hfin.step hb) (by rw [St.P.size_append]; simp only [St.P.size, Ex.X.leaves]; omega)
    rw [show St.labels (St.P.cons 4 [] .bad .bad pa .nil .nil ++ pb) = St.labels pa + St.labels pb by show St.lab1 4 (St.labels pa) 0 + St.labels pb = _; simp [St.lab1]] at hlb
    have HFin := Lib.hid (And.intro hlb hb7')
    clear hown7 hg7 hv7 hb7 hb7' hfin hlb
    refine hfr.mono ?_
    rintro e w8 ⟨v8, rfl, hv8, hb8'⟩
    obtain ⟨V8, c8, rfl, -, -⟩ := own_slice hv8
    have hbw8 : Below w.heap.size w w8 := below_next hb8' (below_next HFin.out.2 hb1)
    have hfa := isP_free (hpa.step hbw8) (by omega)
    have HV8 := Lib.hid (And.intro (SlV.of_own hv8) hb8')
    clear hv8 hfr
    go_wp2_with fail
    refine hfa.mono ?_
    rintro e w9 ⟨v9, rfl, hv9, hb9⟩
    obtain ⟨V9, c9, rfl, -, -⟩ := own_slice hv9
    have hbw9 := below_next hb9 hbw8
    have hfb := isP_free (hpb.step hbw9) (by omega)
    have HV9 := Lib.hid (And.intro (SlV.of_own hv9) hb9)
    clear hv9 hfa
    go_wp2_with fail
    refine hfb.mono ?_
    rintro e wa ⟨va, rfl, hva, hba⟩
    obtain ⟨Va, ca, rfl, -, -⟩ := own_slice hva
    have hbwa := below_next hba hbw9
    have hmg := merge_any _ _ (Sr.free pa) (Sr.free pb) wa (HV9.out.1.below hba) (SlV.of_own hva) (by omega)
    clear hva hfb
    go_wp2_with fail
    refine hmg.mono ?_
    rintro e wb ⟨vb, rfl, hvb, hbb⟩
    obtain ⟨Vb, cb, rfl, -, -⟩ := own_slice hvb
    have hbwb := below_next hbb hbwa
    have heq := equal_b _ _ (Sr.merge (Sr.free pa) (Sr.free pb)) (Sr.merge (Sr.free pa) (Sr.free pb)) true (by simp) wb (((HV8.out.1.below HV9.out.2).below hba).below hbb) (SlV.of_own hvb)
    have h8b : Below w7.heap.size w7 wb := below_next hbb (below_next hba (below_next HV9.out.2 HV8.out.2))
    clear hvb hmg
    go_wp2_with fail
    refine heq.mono ?_
    rintro e wc ⟨rfl, m, hwc⟩
    have hbc : Below wb.heap.size wb wc := by rw [hwc]; exact below_drewN (Below.refl _ _) m
    have hl1 := HFin.out.1 wc (below_next hbc h8b)
    have hbwc := below_next hbc hbwb
    clear heq hwc
    go_wp2_with fail
    refine hl1.mono ?_
    rintro e wd ⟨rfl, hbd⟩
    have hbwd := below_next hbd hbwc
    have hl2 := isP_labels (hpa.step hbwd) (by omega)
    clear hl1
    go_wp2_with fail
    refine hl2.mono ?_
    rintro e we ⟨rfl, hbe⟩
    have hbwe := below_next hbe hbwd
    have hl3 := isP_labels (hpb.step hbwe) (by omega)
    clear hl2
    go_wp2_with fail
    refine hl3.mono ?_
    rintro e wf ⟨rfl, hbf⟩
    have HE := Lib.hid (below_next hbf hbwe)
    have hla := St.labels_le pa
    have hlb := St.labels_le pb
    clear hl3 hbf hbwe hbe hbwd hbd hbwc hbc hbwb hbb hba hbwa hb9 hbw9 hbw8 hb8' h8b
    go_wp2_with fail
    go_ret
    exact ⟨rfl, HE.out⟩
  · go_wp2_with (first | (at_builtin; refine wp_append _ _ _ w1.heap.size _ _ _ _ _ Tryd.underlying22 info_stmt' rfl (by decide) (HL.out 5) (HBc.out 5).1 (HBc.out 5).2.1 (HBc.out 5).2.2 hn63 hn47 (by simp) rfl rfl rfl rfl ?_; intro v7 w7 hown7 hg7 hv7 hb7) | fail)
    have hb7' := (hb8 5).trans hb7
    have hfin : IsP w7 v7 (.cons 5 [] .bad .bad pa .nil .nil ++ pb) := by
      have hbw7 := below_next hb7' hb1
      have h1 : PC w7.heap.size w7 _ 1 _ := PC.one (k := 5) (nm := ⟨#[]⟩) (ca := xzeros) (cb := xzeros) (D := D) (dl := dl) (dc := dc) (E := none) (el := 0) (ec := 0) ⟨hd1, hd2, Nat.le_refl _, Nat.zero_le _⟩ (xbad w7) (xbad w7) (HC.out.1.keep hbw7.size (fun q hq => hbw7.cell hq)) (.nil _)
      have h2 : PC w7.heap.size w7 csb el pb := HC.out.2.1.keep hbw7.size (fun q hq => hbw7.cell hq)
      exact IsP.of_slv (h1.append h2) (SlV.of_own hown7)
    have hfr := isP_free hfin (by rw [St.P.size_append]; simp only [St.P.size, Ex.X.leaves]; omega)
    rw [show St.P.cons 5 [] .bad .bad pa .nil .nil ++ pb = .cons 5 [] .bad .bad pa .nil pb from rfl, Sr.block_law 5 (by omega)] at hfr
    have hlb := fun w' (hb : Below w7.heap.size w7 w') => isP_labels (hfin.step hb) (by rw [St.P.size_append]; simp only [St.P.size, Ex.X.leaves]; omega)
    rw [show St.labels (St.P.cons 5 [] .bad .bad pa .nil .nil ++ pb) = St.labels pa + St.labels pb by show St.lab1 5 (St.labels pa) 0 + St.labels pb = _; simp [St.lab1]] at hlb
    have HFin := Lib.hid (And.intro hlb hb7')
    clear hown7 hg7 hv7 hb7 hb7' hfin hlb
    refine hfr.mono ?_
    rintro e w8 ⟨v8, rfl, hv8, hb8'⟩
    obtain ⟨V8, c8, rfl, -, -⟩ := own_slice hv8
    have hbw8 : Below w.heap.size w w8 := below_next hb8' (below_next HFin.out.2 hb1)
    have hfa := isP_free (hpa.step hbw8) (by omega)
    have HV8 := Lib.hid (And.intro (SlV.of_own hv8) hb8')
    clear hv8 hfr
    go_wp2_with fail
    refine hfa.mono ?_
    rintro e w9 ⟨v9, rfl, hv9, hb9⟩
    obtain ⟨V9, c9, rfl, -, -⟩ := own_slice hv9
    have hbw9 := below_next hb9 hbw8
    have hfb := isP_free (hpb.step hbw9) (by omega)
    have HV9 := Lib.hid (And.intro (SlV.of_own hv9) hb9)
    clear hv9 hfa
    go_wp2_with fail
    refine hfb.mono ?_
    rintro e wa ⟨va, rfl, hva, hba⟩
    obtain ⟨Va, ca, rfl, -, -⟩ := own_slice hva
    have hbwa := below_next hba hbw9
    have hmg := merge_any _ _ (Sr.free pa) (Sr.free pb) wa (HV9.out.1.below hba) (SlV.of_own hva) (by omega)
    clear hva hfb
    go_wp2_with fail
    refine hmg.mono ?_
    rintro e wb ⟨vb, rfl, hvb, hbb⟩
    obtain ⟨Vb, cb, rfl, -, -⟩ := own_slice hvb
    have hbwb := below_next hbb hbwa
    have heq := equal_b _ _ (Sr.merge (Sr.free pa) (Sr.free pb)) (Sr.merge (Sr.free pa) (Sr.free pb)) true (by simp) wb (((HV8.out.1.below HV9.out.2).below hba).below hbb) (SlV.of_own hvb)
    have h8b : Below w7.heap.size w7 wb := below_next hbb (below_next hba (below_next HV9.out.2 HV8.out.2))
    clear hvb hmg
    go_wp2_with fail
    refine heq.mono ?_
    rintro e wc ⟨rfl, m, hwc⟩
    have hbc : Below wb.heap.size wb wc := by rw [hwc]; exact below_drewN (Below.refl _ _) m
    have hl1 := HFin.out.1 wc (below_next hbc h8b)
    have hbwc := below_next hbc hbwb
    clear heq hwc
    go_wp2_with fail
    refine hl1.mono ?_
    rintro e wd ⟨rfl, hbd⟩
    have hbwd := below_next hbd hbwc
    have hl2 := isP_labels (hpa.step hbwd) (by omega)
    clear hl1
    go_wp2_with fail
    refine hl2.mono ?_
    rintro e we ⟨rfl, hbe⟩
    have hbwe := below_next hbe hbwd
    have hl3 := isP_labels (hpb.step hbwe) (by omega)
    clear hl2
    go_wp2_with fail
    refine hl3.mono ?_
    rintro e wf ⟨rfl, hbf⟩
    have HE := Lib.hid (below_next hbf hbwe)
    have hla := St.labels_le pa
    have hlb := St.labels_le pb
    clear hl3 hbf hbwe hbe hbwd hbd hbwc hbc hbwb hbb hba hbwa hb9 hbw9 hbw8 hb8' h8b
    go_wp2_with fail
    go_ret
    exact ⟨rfl, HE.out⟩
end Go.Proofs.YtdhjfckckghicaaDoor
