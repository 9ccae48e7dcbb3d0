/-
  scope.Labels, walked.
-/
import Derived.Test.YtajddbmmbhdnfaaChecked
import Derived.Test.YtajddbmmbhdnfaaStR
import Derived.Test.YtajddbmmbhdnfaaMhLaw
import Derived.Test.YtajddbmmbhdnfaaSettle3
import Derived.Test.YtajddbmmbhdnfaaBase2
import Derived.BigQuiet
namespace Go.Proofs.Ytajddbmmbhdnfaa
set_option linter.unusedVariables false
set_option linter.unusedSimpArgs false
set_option maxRecDepth 100000
open Go.RowKit

def LabOK (p : St.P) : Prop := ∀ (w : World) (B n c : Nat) (A : Option Addr), B ≤ w.heap.size → PR B w A n p → n ≤ c → c ≤ maxLen → p.size ≤ 1152921504606846976 →
  Calls Try.prog 49 #[.slice A n c] w fun e w' => e = .returned (.int .i64 (St.labels p : Nat)) ∧ Below w.heap.size w w'

/-- a copy of a statement, in a block of its own -/
theorem st_copy {w0 w : World} (hb : Below w0.heap.size w0 w) (cs : List Value) (t : TypeId) : Blk (w.alloc (.cells cs.toArray t)) w.heap.size t cs ∧ Below w0.heap.size w0 (w.alloc (.cells cs.toArray t)) ∧ Below w.heap.size w (w.alloc (.cells cs.toArray t)) :=
  ⟨Blk.new w t cs, below_alloc hb _, below_alloc (Below.refl _ _) _⟩

theorem i64_add (a b : Nat) (h : a + b ≤ 9223372036854775807) : wrap64 ((a : Int) + (b : Int)) = ((a + b : Nat) : Int) := by
  unfold wrap64
  omega
theorem i64_addk (a b : Nat) (h : a + b ≤ 9223372036854775807) : IntKind.i64.wrap ((a : Int) + (b : Int)) = ((a + b : Nat) : Int) := by
  rw [show IntKind.i64.wrap ((a : Int) + (b : Int)) = wrap64 ((a : Int) + (b : Int)) by
    simp [IntKind.wrap, IntKind.signed, IntKind.bits, wrap64]
    split <;> omega]
  exact i64_add a b h
theorem lab_kinds (k : Int) : k = 2 ∨ k = 3 ∨ k = 4 ∨ k = 5 ∨ k = 6 ∨ k = 7 ∨ ((k == 2) = false ∧ (k == 3) = false ∧ (k == 4) = false ∧ (k == 5) = false ∧ (k == 6) = false ∧ (k == 7) = false) := by
  by_cases h2 : k = 2; · exact .inl h2
  by_cases h3 : k = 3; · exact .inr (.inl h3)
  by_cases h4 : k = 4; · exact .inr (.inr (.inl h4))
  by_cases h5 : k = 5; · exact .inr (.inr (.inr (.inl h5)))
  by_cases h6 : k = 6; · exact .inr (.inr (.inr (.inr (.inl h6))))
  by_cases h7 : k = 7; · exact .inr (.inr (.inr (.inr (.inr (.inl h7)))))
  exact .inr (.inr (.inr (.inr (.inr (.inr (by simp [h2, h3, h4, h5, h6, h7]))))))

set_option maxHeartbeats 4000000 in
theorem labels_step (p : St.P) (ih : ∀ q : St.P, q.size < p.size → LabOK q) : LabOK p := by
  intro w B n c A hB hp hnc hcm hsz
  obtain ⟨g, o, hA, hpl⟩ := hp.place
  have hn63 : n ≤ 9223372036854775807 := by unfold maxLen at hcm; omega
  go_enter Try.func49, Try.ntmps49
  go_wp2
  go_loopw [3, 8] (fun s i wr => ∃ (k acc : Nat) (q : St.P), k ≤ n ∧ i = .int .i64 (k : Int) ∧ s = .int .i64 (acc : Int) ∧ acc + St.labels q = St.labels p ∧ acc ≤ 1152921504606846976 ∧ q.size ≤ p.size ∧ PR B wr (some ⟨g, o + k * 12, none⟩) (n - k) q ∧ Below w.heap.size w wr) (fun s i _ => n - (intOf i).toNat)
  case atStart => exact ⟨0, 0, p, Nat.zero_le _, rfl, rfl, Nat.zero_add _, by omega, Nat.le_refl _, hpl, Below.refl _ _⟩
  case round =>
    obtain ⟨k, acc, q, hk, rfl, rfl, hacc, haccb, hqs, hq, hb⟩ := hrel
    have hLp := St.labels_le p
    by_cases hlt : k < n
    · obtain ⟨kd, nm, ak, an, bk, bn, sa, sb, aA, bA, al, ac, bl, bc, ea, eb, D, dl, dc, E, el, ec, body, els, rest, rfl, hg, ⟨hd1, hd2, he1, he2⟩, hcell, xa, xb, pb, pe, pr⟩ := hq.next (by omega)
      have hAA := hA (by omega)
      subst hAA
      have c0 : wr.cell? ⟨g, o + k * 12, none⟩ = some (.int .i64 kd) := hcell 0 _ rfl
      have c1 := hcell 1 _ rfl
      have c2 := hcell 2 _ rfl
      have c3 := hcell 3 _ rfl
      have c4 := hcell 4 _ rfl
      have c5 := hcell 5 _ rfl
      have c6 := hcell 6 _ rfl
      have c7 := hcell 7 _ rfl
      have c8 := hcell 8 _ rfl
      have c9 := hcell 9 _ rfl
      have c10 := hcell 10 _ rfl
      have c11 := hcell 11 _ rfl
      have hBr : B ≤ wr.heap.size := Nat.le_trans hB hb.size
      have hs : body.size < p.size ∧ els.size < p.size ∧ rest.size ≤ p.size := by rw [St.P.size] at hqs; omega
      rw [St.labels] at hacc
      obtain ⟨p0, hb0, hbr⟩ := st_copy hb (stcells kd nm (xcells ak an sa aA al ac) (xcells bk bn sb bA bl bc) D dl dc E el ec) 66
      have HH := Lib.hid (And.intro hqs (And.intro hacc (And.intro hs (And.intro hsz hLp))))
      clear hcell xa xb hq hqs hacc hs hpl hp hLp hsz
      unfold stcells xcells at p0 hb0 hbr
      rcases lab_kinds kd with rfl | rfl | rfl | rfl | rfl | rfl | ⟨k2, k3, k4, k5, k6, k7⟩
      · have HL := Lib.hid (show acc + 1 + St.labels rest = St.labels p by have := HH.out.2.1; rw [show St.lab1 2 (St.labels body) (St.labels els) = 1 from rfl] at this; omega)
        go_wp2
        go_roundw
        case rel => exact ⟨k + 1, acc + 1, rest, by omega, by go_num, by have := HH.out; have := HL.out; go_num, HL.out, by have := HH.out; have := HL.out; omega, by have := HH.out; omega, by rw [show n - (k + 1) = n - k - 1 by omega]; exact pr.later (hbr.mono hBr), hb0⟩
        case measure => simp [intOf]; omega
      · have HL := Lib.hid (show acc + 1 + St.labels rest = St.labels p by have := HH.out.2.1; rw [show St.lab1 3 (St.labels body) (St.labels els) = 1 from rfl] at this; omega)
        go_wp2
        go_roundw
        case rel => exact ⟨k + 1, acc + 1, rest, by omega, by go_num, by have := HH.out; have := HL.out; go_num, HL.out, by have := HH.out; have := HL.out; omega, by have := HH.out; omega, by rw [show n - (k + 1) = n - k - 1 by omega]; exact pr.later (hbr.mono hBr), hb0⟩
        case measure => simp [intOf]; omega
      · have HL := Lib.hid (show acc + St.labels body + St.labels rest = St.labels p by have := HH.out.2.1; rw [show St.lab1 4 (St.labels body) (St.labels els) = St.labels body from rfl] at this; omega)
        go_wp2_with fail
        refine (ih body HH.out.2.2.1.1 _ B dl dc D (Nat.le_trans hBr hbr.size) (pb.later (hbr.mono hBr)) hd1 hd2 (by have := HH.out; omega)).mono ?_
        rintro e w2 ⟨rfl, hb2⟩
        have hb3 := below_next hb2 hb0
        have hbr3 := below_next hb2 hbr
        go_wp2
        go_roundw
        case rel => exact ⟨k + 1, acc + St.labels body, rest, by omega, by go_num, congrArg (Value.int .i64) (i64_add _ _ (by have := HH.out; have := HL.out; omega)), HL.out, by have := HH.out; have := HL.out; omega, by have := HH.out; omega, by rw [show n - (k + 1) = n - k - 1 by omega]; exact pr.later (hbr3.mono hBr), hb3⟩
        case measure => simp [intOf]; omega
      · have HL := Lib.hid (show acc + St.labels body + St.labels rest = St.labels p by have := HH.out.2.1; rw [show St.lab1 5 (St.labels body) (St.labels els) = St.labels body from rfl] at this; omega)
        go_wp2_with fail
        refine (ih body HH.out.2.2.1.1 _ B dl dc D (Nat.le_trans hBr hbr.size) (pb.later (hbr.mono hBr)) hd1 hd2 (by have := HH.out; omega)).mono ?_
        rintro e w2 ⟨rfl, hb2⟩
        have hb3 := below_next hb2 hb0
        have hbr3 := below_next hb2 hbr
        go_wp2
        go_roundw
        case rel => exact ⟨k + 1, acc + St.labels body, rest, by omega, by go_num, congrArg (Value.int .i64) (i64_add _ _ (by have := HH.out; have := HL.out; omega)), HL.out, by have := HH.out; have := HL.out; omega, by have := HH.out; omega, by rw [show n - (k + 1) = n - k - 1 by omega]; exact pr.later (hbr3.mono hBr), hb3⟩
        case measure => simp [intOf]; omega
      · have HL := Lib.hid (show acc + (St.labels body + St.labels els) + St.labels rest = St.labels p by have := HH.out.2.1; rw [show St.lab1 6 (St.labels body) (St.labels els) = St.labels body + St.labels els from rfl] at this; omega)
        go_wp2_with fail
        have hIB := ih body HH.out.2.2.1.1
        have hIE := ih els HH.out.2.2.1.2.1
        have hbd : body.size ≤ 1152921504606846976 ∧ els.size ≤ 1152921504606846976 := by have := HH.out; omega
        obtain ⟨W, hW⟩ : ∃ W, W = wr.alloc (.cells #[.int .i64 6, .string nm, .int .i64 ak, .int .i64 an, .string sa, .slice aA al ac, .int .i64 bk, .int .i64 bn, .string sb, .slice bA bl bc, .slice D dl dc, .slice E el ec] 66) := ⟨_, rfl⟩
        have p0' : Blk W wr.heap.size 66 [.int .i64 6, .string nm, .int .i64 ak, .int .i64 an, .string sa, .slice aA al ac, .int .i64 bk, .int .i64 bn, .string sb, .slice bA bl bc, .slice D dl dc, .slice E el ec] := by rw [hW]; exact p0
        have hb0' : Below w.heap.size w W := by rw [hW]; exact hb0
        have hbr' : Below wr.heap.size wr W := by rw [hW]; exact hbr
        rw [← hW]
        clear p0 hb0 hbr hW
        have key : ∀ w', Below W.heap.size W w' → w'.cell? ⟨wr.heap.size, 10, none⟩ = some (.slice D dl dc) ∧ w'.cell? ⟨wr.heap.size, 11, none⟩ = some (.slice E el ec) ∧ PR B w' D dl body ∧ PR B w' E el els ∧ B ≤ w'.heap.size := fun w' h =>
          ⟨((p0'.below h).cell 10).trans rfl, ((p0'.below h).cell 11).trans rfl, (pb.later (hbr'.mono hBr)).later (h.mono (Nat.le_trans hBr hbr'.size)), (pe.later (hbr'.mono hBr)).later (h.mono (Nat.le_trans hBr hbr'.size)), Nat.le_trans (Nat.le_trans hBr hbr'.size) h.size⟩
        clear pb pe p0'
        refine wp_walk (by kernel_rfl) (by kernel_rfl) (fun _ _ => True) (fun w' => (Below W.heap.size W w' ∧ w'.cell? ⟨wr.heap.size, 10, none⟩ = some (.slice D dl dc) ∧ w'.cell? ⟨wr.heap.size, 11, none⟩ = some (.slice E el ec))) ⟨below_drew (Below.refl _ _), (key _ (below_drew (Below.refl _ _))).1, (key _ (below_drew (Below.refl _ _))).2.1⟩ ?_
        repeat (first | (refine settle_skip (fun _ => by rfl) ?_; (simp only [Act.put, List.setIfInBounds_toArray, List.set_cons_zero, List.set_cons_succ])) | (refine' settle_run (fun _ _ => trivial) (fun _ => by rfl) ?_ ?_; rotate_left; (focus (intro ρ w hS hF; (try dsimp only at hS); go_split_ands; go_simp; try with_reducible rfl)); (simp only [Act.put, List.setIfInBounds_toArray, List.set_cons_zero, List.set_cons_succ])))
        (refine' settle_step (fun _ => by rfl) ?_ ?_; rotate_left; (focus (intro ρ w hS hF K hK; (simp only [Act.put, List.setIfInBounds_toArray, List.set_cons_zero, List.set_cons_succ] at hK); go_simp; (have hk := key _ hS.1; go_at_call 49; refine (hIB _ B dl dc D hk.2.2.2.2 hk.2.2.1 hd1 hd2 hbd.1).mono ?_; rintro e w6 ⟨rfl, hb6⟩; have hS0 := below_next hb6 hS.1; have hS' := (And.intro hS0 (And.intro (key _ hS0).1 (key _ hS0).2.1)); have hE' := True.intro); exact hK _ hS' hE')); (simp only [Act.put, List.setIfInBounds_toArray, List.set_cons_zero, List.set_cons_succ]))
        repeat (first | (refine settle_skip (fun _ => by rfl) ?_; (simp only [Act.put, List.setIfInBounds_toArray, List.set_cons_zero, List.set_cons_succ])) | (refine' settle_run (fun _ _ => trivial) (fun _ => by rfl) ?_ ?_; rotate_left; (focus (intro ρ w hS hF; (try dsimp only at hS); go_split_ands; go_simp; try with_reducible rfl)); (simp only [Act.put, List.setIfInBounds_toArray, List.set_cons_zero, List.set_cons_succ])))
        (refine' settle_step (fun _ => by rfl) ?_ ?_; rotate_left; (focus (intro ρ w hS hF K hK; (simp only [Act.put, List.setIfInBounds_toArray, List.set_cons_zero, List.set_cons_succ] at hK); go_simp; (have hk := key _ hS.1; go_at_call 49; refine (hIE _ B el ec E hk.2.2.2.2 hk.2.2.2.1 he1 he2 hbd.2).mono ?_; rintro e w6 ⟨rfl, hb6⟩; have hS0 := below_next hb6 hS.1; have hS' := (And.intro hS0 (And.intro (key _ hS0).1 (key _ hS0).2.1)); have hE' := True.intro); exact hK _ hS' hE')); (simp only [Act.put, List.setIfInBounds_toArray, List.set_cons_zero, List.set_cons_succ]))
        repeat (first | (refine settle_skip (fun _ => by rfl) ?_; (simp only [Act.put, List.setIfInBounds_toArray, List.set_cons_zero, List.set_cons_succ])) | (refine' settle_run (fun _ _ => trivial) (fun _ => by rfl) ?_ ?_; rotate_left; (focus (intro ρ w hS hF; (try dsimp only at hS); go_split_ands; go_simp; try with_reducible rfl)); (simp only [Act.put, List.setIfInBounds_toArray, List.set_cons_zero, List.set_cons_succ])))
        refine settle_nil ?_
        intro ρ w4 hS _
        have hb3 := below_next hS.1 hb0'
        have hbr3 := below_next hS.1 hbr'
        clear key
        go_wp2
        go_roundw
        case rel => exact ⟨k + 1, acc + (St.labels body + St.labels els), rest, by omega, by go_num, by
          have h1 : St.labels body + St.labels els ≤ 9223372036854775807 := by have := HH.out; have := HL.out; omega
          have h2 : acc + (St.labels body + St.labels els) ≤ 9223372036854775807 := by have := HH.out; have := HL.out; omega
          rw [i64_addk _ _ h1, i64_addk _ _ h2], HL.out, by have := HH.out; have := HL.out; omega, by have := HH.out; omega, by rw [show n - (k + 1) = n - k - 1 by omega]; exact pr.later (hbr3.mono hBr), hb3⟩
        case measure => simp [intOf]; omega
      · have HL := Lib.hid (show acc + St.labels body + St.labels rest = St.labels p by have := HH.out.2.1; rw [show St.lab1 7 (St.labels body) (St.labels els) = St.labels body from rfl] at this; omega)
        go_wp2_with fail
        refine (ih body HH.out.2.2.1.1 _ B dl dc D (Nat.le_trans hBr hbr.size) (pb.later (hbr.mono hBr)) hd1 hd2 (by have := HH.out; omega)).mono ?_
        rintro e w2 ⟨rfl, hb2⟩
        have hb3 := below_next hb2 hb0
        have hbr3 := below_next hb2 hbr
        go_wp2
        go_roundw
        case rel => exact ⟨k + 1, acc + St.labels body, rest, by omega, by go_num, congrArg (Value.int .i64) (i64_add _ _ (by have := HH.out; have := HL.out; omega)), HL.out, by have := HH.out; have := HL.out; omega, by have := HH.out; omega, by rw [show n - (k + 1) = n - k - 1 by omega]; exact pr.later (hbr3.mono hBr), hb3⟩
        case measure => simp [intOf]; omega
      · have HL := Lib.hid (show acc + St.labels rest = St.labels p by have := HH.out.2.1; rw [show St.lab1 kd (St.labels body) (St.labels els) = 0 by simp at k2 k3 k4 k5 k6 k7; simp [St.lab1, k2, k3, k4, k5, k6, k7]] at this; omega)
        go_wp2
        go_roundw
        case rel => exact ⟨k + 1, acc, rest, by omega, by go_num, rfl, HL.out, by have := HH.out; have := HL.out; omega, by have := HH.out; omega, by rw [show n - (k + 1) = n - k - 1 by omega]; exact pr.later (hbr.mono hBr), hb0⟩
        case measure => simp [intOf]; omega
    · have hkn : k = n := by omega
      have h0 : St.labels q = 0 := by
        rw [hkn, Nat.sub_self] at hq
        rw [hq.zero]
        rfl
      have HH := Lib.hid (And.intro hkn (And.intro hacc h0))
      clear hacc h0 hkn
      go_wp2
      go_ret
      exact ⟨by have := HH.out; rw [show acc = St.labels p by omega]; rfl, hb⟩
theorem labels_any (p : St.P) : LabOK p := by
  suffices h : ∀ m (p : St.P), p.size ≤ m → LabOK p from h _ p (Nat.le_refl _)
  intro m
  induction m with
  | zero =>
    intro p hp
    exact labels_step p fun q hq => by omega
  | succ m ih => exact fun p hp => labels_step p fun q hq => ih q (by omega)
end Go.Proofs.Ytajddbmmbhdnfaa
