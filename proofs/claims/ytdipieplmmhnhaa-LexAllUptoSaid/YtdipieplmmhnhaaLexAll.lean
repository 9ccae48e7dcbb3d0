/-
  The tokens and the blanks between them make up the text: the law, walked.
-/
import Derived.Lib.ConvBytes
import Derived.Test.YtdipieplmmhnhaaLexBack
namespace Go.Proofs.Ytdipieplmmhnhaa
set_option linter.unusedVariables false
set_option linter.unusedSimpArgs false
open Go.RowKit

/-- '[]byte(s)' -/
theorem wpl_bytes {P : Program} {w : World} {ops : Array Oper} {rest : List Oper} {o : Oper} {a : Act} {Q : Exit → Act → World → Prop} (s : ByteArray) {src dst e : TypeId} {u : TypeDesc} {x : Operand}
    (hs : P.underlying src = some u) (hd : P.underlying dst = some (.slice e)) (he : P.underlying e = some (.int .u8)) (hg : o.guard = none) (ho : o.op = .convert src dst x) (hx : a.eval x = .string s)
    (hK : ∀ w' c, (∀ j, j < s.size → w'.cell? ⟨w.heap.size, j, none⟩ = some (.int .u8 (s.data.toList.getD j 0).toNat)) → Below w.heap.size w w' → w'.heap.size = w.heap.size + 1 → wpList P ops Q rest (a.put o.dst (.slice (some ⟨w.heap.size, 0, none⟩) s.size c)) w') :
    wpList P ops Q (o :: rest) a w := by
  refine wpList_plain hg fun K hK' => ?_
  have hr := Lib.run_convert_string_bytes (P := P) w src dst e s hs hd he
  unfold Oper.wp
  simp [execOp, ho, hx, hr, Result.andThen]
  refine hK' _ _ (hK _ _ (fun j hj => Lib.bytesWorld_cell w e s j hj) ⟨?_, ?_, ?_, ?_, fun i hi => Lib.bytesWorld_at_old w e s i hi⟩ (Lib.bytesWorld_size w e s))
  · simp [Lib.bytesWorld, World.freeze, World.alloc, World.drew, -World.alloc_eq, -World.drew_eq]
  · simp [Lib.bytesWorld, World.freeze, World.alloc, World.drew, -World.alloc_eq, -World.drew_eq]
  · simp [Lib.bytesWorld, World.freeze, World.alloc, World.drew, -World.alloc_eq, -World.drew_eq]
  · rw [Lib.bytesWorld_size]; omega

namespace Lx
theorem fits_step (ls : Bs) (l : List Tk) (a q : Nat) (ha : a ≤ ls.length) (hq : q ≤ l.length) (h : Fits a (ls.drop a) (l.drop q)) :
    ∃ (k : Int) (g t : Bs), (l ++ [(0, ls.length, [])])[q]? = some (k, a + g.length, t) ∧ (ls.drop a).take g.length = g ∧ (∀ c ∈ g, blank c = true) ∧ (ls.drop (a + g.length)).take t.length = t ∧ a + g.length + t.length ≤ ls.length ∧ (q + 1 ≤ l.length → Fits (a + g.length + t.length) (ls.drop (a + g.length + t.length)) (l.drop (q + 1))) := by
  by_cases hlt : q < l.length
  · rw [List.drop_eq_getElem_cons hlt] at h
    obtain ⟨g, y, hd, hg, hx, hl⟩ := h
    have hlen := congrArg List.length hd
    simp only [List.length_drop, List.length_append] at hlen
    have d1 : ls.drop (a + g.length) = l[q].2.2 ++ y := by rw [← List.drop_drop, hd, List.append_assoc, List.drop_left]
    have d2 : ls.drop (a + g.length + l[q].2.2.length) = y := by rw [← List.drop_drop, d1, List.drop_left]
    refine ⟨l[q].1, g, l[q].2.2, ?_, by rw [hd, List.append_assoc, List.take_left], hg, by rw [d1, List.take_left], by omega, fun _ => by rw [d2]; exact hl⟩
    rw [List.getElem?_append_left hlt, List.getElem?_eq_getElem hlt, ← hx]
  · have e : q = l.length := by omega
    have hd : l.drop q = [] := List.drop_of_length_le (by omega)
    rw [hd] at h
    refine ⟨0, ls.drop a, [], ?_, by rw [List.take_length], h, rfl, by rw [List.length_drop, List.length_nil]; omega, (fun h => by omega)⟩
    rw [e, List.getElem?_append_right (by omega), Nat.sub_self, List.getElem?_cons_zero, List.length_drop]
    congr 3
    omega
theorem extract_is (s : ByteArray) (a : Nat) (g : Bs) (h : (s.data.toList.drop a).take g.length = g) (hl : a + g.length ≤ s.size) : s.extract a (a + g.length) = ⟨g.toArray⟩ := by
  rw [extract_eq s a _ hl (by omega), Nat.add_sub_cancel_left, h]
end Lx

set_option maxRecDepth 100000 in
set_option maxHeartbeats 8000000 in
theorem lexAll_walk (s : ByteArray) (w : World) (hs : s.size ≤ 1048576) :
    Calls Try.prog 6 #[.string s] w fun e w' => e = .returned (.bool true) ∧ Below w.heap.size w w' := by
  have hl : s.data.toList.length = s.size := by simp
  have c1 := fun w => tokens_any s w (by omega)
  rcases p1 : Lx.toks Lx.number 0 s.data.toList with k | l
  · rw [p1] at c1
    have C1 := Lib.hid c1
    clear c1 p1 hl
    go_enter Try.func6, Try.ntmps6
    go_wp2_with fail
    refine (alive10_any _).mono ?_
    rintro e w1 ⟨rfl, hb1⟩
    go_wp2_with fail
    refine (C1.out _).mono ?_
    rintro e w2 ⟨rfl, hb2⟩
    have hbw := below_next hb2 hb1
    clear C1 hb1 hb2
    go_wp2
    go_ret
    exact ⟨rfl, hbw⟩
  · rw [p1] at c1
    obtain ⟨z1, -⟩ := Lx.toks_small p1
    rw [hl] at z1
    have hfit := Lx.toks_fits Lx.number _ _ 0 l (Nat.le_refl _) p1
    have HFT := Lib.hid hfit
    have C1 := Lib.hid c1
    have HLn := Lib.hid hl
    have hstep := Lx.fits_step s.data.toList l
    rw [hl] at hstep
    have HST := Lib.hid hstep
    clear c1 p1 hl hfit hstep
    go_enter Try.func6, Try.ntmps6
    go_wp2_with fail
    refine (alive10_any _).mono ?_
    rintro e w1 ⟨rfl, hb1⟩
    go_wp2_with fail
    refine (C1.out _).mono ?_
    rintro e w2 ⟨⟨v2, rfl, o2⟩, hb2⟩
    have hbw2 := below_next hb2 hb1
    have o3 := own_base o2 hb1.size
    have n63 : l.length + 1 ≤ maxLen := by unfold maxLen; omega
    have n47 : (l.length + 1) * 32 ≤ 140737488355328 := by omega
    have hwsz := hbw2.size
    clear hb1 hb2 o2 C1
    go_wp2_with (at_builtin; refine wp_push w2 _ _ w.heap.size _ _ _ _ _ Try.underlying31 Lx.info_tk rfl (by decide) o3 (Lx.tkc (0, s.size, [])) rfl (Lx.tkc_one _) n63 n47 hwsz rfl rfl rfl rfl ?_; intro v' w4 o4 _ _ hb4; obtain ⟨A4, d4, rfl, u4, u4'⟩ := own_slice o4)
    have hbw4 : Below w.heap.size w w4 := hbw2.trans hb4
    have e4 : Lx.tkcs l ++ Lx.tkc (0, s.size, []) = Lx.tkcs (l ++ [(0, s.size, [])]) := by simp [Lx.tkcs]
    rw [e4] at o4
    obtain ⟨_, _, he, _, _, _, hc4⟩ := SlV.of_own o4
    cases he
    unfold maxLen at u4'
    clear o3 o4 e4 hb4 hbw2 hwsz
    go_loopw [6, 28] (fun t i wr => ∃ a q : Nat, q ≤ l.length + 1 ∧ t = .int .i64 a ∧ i = .int .i64 q ∧ a ≤ s.size ∧ (q ≤ l.length → Lx.Fits a (s.data.toList.drop a) (l.drop q)) ∧ Below w4.heap.size w4 wr) (fun _ i _ => l.length + 1 - (intOf i).toNat)
    case atStart => exact ⟨0, 0, Nat.zero_le _, rfl, rfl, Nat.zero_le _, fun _ => HFT.out, Below.refl _ _⟩
    case round =>
      obtain ⟨a, q, hq, rfl, rfl, ha, hfit, hbr⟩ := hrel
      by_cases hlt : q < l.length + 1
      · obtain ⟨k, g, t, hx, hg, hgb, ht, hle, hnext⟩ := HST.out a q ha (by omega) (hfit (by omega))
        obtain ⟨g1, g2, g3⟩ := Lx.tkcs_get _ _ _ hx
        obtain ⟨b, o, rfl, hb, hcc⟩ := hc4.at_ (fun e => by rw [e] at g1; simp at g1)
        have a1 := (hbr.cell (p := ⟨b, o + q * 3, none⟩) hb).trans (hcc _ _ g1)
        have a2 := (hbr.cell (p := ⟨b, o + (q * 3 + 1), none⟩) hb).trans (hcc _ _ g2)
        have a3 := (hbr.cell (p := ⟨b, o + (q * 3 + 2), none⟩) hb).trans (hcc _ _ g3)
        rw [← Nat.add_assoc] at a2 a3
        simp only at a1 a2 a3
        have hX1 := Lx.extract_is s a g hg (by omega)
        have hX2 := Lx.extract_is s (a + g.length) t ht (by omega)
        obtain ⟨T, hT⟩ : ∃ T : ByteArray, T = ⟨t.toArray⟩ := ⟨_, rfl⟩
        obtain ⟨G, hG⟩ : ∃ G : ByteArray, G = ⟨g.toArray⟩ := ⟨_, rfl⟩
        have hTs : T.size = t.length := by rw [hT]; rfl
        have hGs : G.size = g.length := by rw [hG]; rfl
        have hGl : G.data.toList = g := by rw [hG]
        obtain ⟨p, hp⟩ : ∃ p, p = a + g.length := ⟨_, rfl⟩
        obtain ⟨f, hf⟩ : ∃ f, f = p + t.length := ⟨_, rfl⟩
        rw [← hp] at a2 hX1 hX2 hle hnext
        rw [← hf] at hX2 hle hnext
        rw [← hT] at a3 hX2
        rw [← hG] at hX1
        have r1 : IntKind.i64.wrap ((p : Int) + (T.size : Int)) = (f : Int) := by rw [IntWalk.i64_in _ (by omega)]; omega
        have r2 : decide (p < a) = false := by simp; omega
        have r3 : decide (s.size < f) = false := by simp; omega
        have r4 : (p : Int) ≤ (f : Int) := by omega
        have r5 : (f : Int) ≤ (s.size : Int) := by omega
        have r6 : (a : Int) ≤ (p : Int) := by omega
        have r7 : (p : Int) ≤ (s.size : Int) := by omega
        have hGb : G.size ≤ s.size := by omega
        have hqi : (q : Int) < (l.length : Int) + 1 := by omega
        have hqj : q < l.length + 1 := hlt
        have hB := Blk.new wr 39 [.int .i64 k, .int .i64 (p : Int), .string T]
        have hbr2 := below_alloc hbr (.cells [Value.int .i64 k, .int .i64 (p : Int), .string T].toArray 39)
        have HN := Lib.hid hnext
        have HGB := Lib.hid hgb
        have HGL := Lib.hid hGl
        clear hx hg hgb ht hnext g1 g2 g3 hcc hT hG hGs hGl hTs hp hf hfit
        go_wp2_with fail
        go_quiet (fail)
        have hB2 := hB.drewN nq
        have hbr3 := below_drewN hbr2 nq
        clear hB hbr2 a1 a2 a3 hX2 r2 r3 r4 r5
        go_wp2_with (refine wpl_bytes G Try.underlying9 Try.underlying40 Try.underlying5 rfl rfl rfl ?_; intro w5 c5 hcb hb5 hs5)
        have hB5 := hB2.below hb5
        have hbr5 := below_next hb5 hbr3
        have t1 := hB5.cell 1
        have t2 := hB5.cell 2
        simp only [List.getElem?_cons_zero, List.getElem?_cons_succ] at t1 t2
        have hsz : ((wr.alloc (.cells #[.int .i64 k, .int .i64 (p : Int), .string T] 39)).drewN nq).heap.size = wr.heap.size + 1 := by simp
        rw [hsz] at hcb
        have HCB := Lib.hid hcb
        obtain ⟨bq, hbq⟩ : ∃ bq, bq = wr.heap.size := ⟨_, rfl⟩
        clear hcb hsz hB2 hbr3 hb5 hB5 hs5 hX1 hbq bq
        go_loop [69] (fun i => ∃ j : Nat, j ≤ G.size ∧ i = .int .i64 j) (fun i => G.size - (intOf i).toNat)
        case atStart => exact ⟨0, Nat.zero_le _, rfl⟩
        case round =>
          obtain ⟨j, hj, rfl⟩ := hrel
          by_cases hjl : j < G.size
          · have cj := HCB.out j hjl
            have hmem : Lx.blank (G.data.toList.getD j 0) = true := by
              have hjg : j < g.length := by have := congrArg List.length HGL.out; simp at this; omega
              rw [HGL.out, List.getD, List.getElem?_eq_getElem hjg]
              exact HGB.out _ (List.getElem_mem hjg)
            have hji : (j : Int) < (G.size : Int) := by omega
            rcases Lx.blank_cases hmem with hc | hc | hc
            all_goals
              rw [hc] at cj
              clear hc hmem
              go_wp2
              go_round
              case rel => exact ⟨j + 1, by omega, by go_num⟩
              case measure => simp [intOf]; omega
          · have hge : ¬ (j : Int) < (G.size : Int) := by omega
            clear hjl
            go_wp2
            go_roundw
            case rel => exact ⟨f, q + 1, by omega, rfl, by go_num, by omega, HN.out, hbr5⟩
            case measure => simp [intOf]; omega
      · have hbe := below_self hbw4 hbr
        have hge : ¬ (q : Int) < (l.length : Int) + 1 := by omega
        clear hfit hc4
        go_wp2
        go_ret
        exact ⟨rfl, hbe⟩
end Go.Proofs.Ytdipieplmmhnhaa
