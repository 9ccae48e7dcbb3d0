/-
  scope's walker: uses, walked.
-/
import Derived.Test.YtajddbmmbhdnfaaEx21
import Derived.Test.YtajddbmmbhdnfaaOwn
import Derived.Test.YtajddbmmbhdnfaaSrPl
namespace Go.Proofs.Ytajddbmmbhdnfaa
set_option linter.unusedVariables false
set_option linter.unusedSimpArgs false
set_option maxRecDepth 100000
open Go.RowKit

def strRw (v : Value) (xs : List ByteArray) : Rw := ⟨9, 1, v, xs.length, strs xs⟩
/-- a walker: what is bound, what is free -/
abbrev WkO (B : Nat) (w : World) (g : Nat) (vb : Value) (bd : List ByteArray) (vf : Value) (fs : List ByteArray) : Prop := Own B w g 127 [vb, vf] [strRw vb bd, strRw vf fs]
abbrev WkT (g : Nat) (vb : Value) (bd : List ByteArray) (vf : Value) (fs : List ByteArray) : Nat → Prop := Tw g [strRw vb bd, strRw vf fs]
abbrev WkTo (B : Nat) (w0 : World) (T : Nat → Prop) (w : World) (g : Nat) (vb : Value) (bd : List ByteArray) (vf : Value) (fs : List ByteArray) : Prop := OwnTo B w0 T w g 127 [vb, vf] [strRw vb bd, strRw vf fs]
def WkEnd (B : Nat) (w0 : World) (T : Nat → Prop) (g : Nat) (bd fs : List ByteArray) : Ending → World → Prop := fun e w' => e = .returned (.tuple #[]) ∧ ∃ vb vf, WkTo B w0 T w' g vb bd vf fs

theorem Sr.use1_length (bd acc : List ByteArray) (s : ByteArray) : (Sr.use1 bd acc s).length ≤ acc.length + 1 := by
  unfold Sr.use1
  split <;> simp
theorem Sr.fold_length (bd : List ByteArray) : ∀ (l acc : List ByteArray), (l.foldl (Sr.use1 bd) acc).length ≤ acc.length + l.length
  | [], acc => by simp
  | s :: l, acc => by
    have h1 := Sr.fold_length bd l (Sr.use1 bd acc s)
    have h2 := Sr.use1_length bd acc s
    rw [List.foldl_cons, List.length_cons]
    omega
theorem Sr.fold_snoc (bd acc ns : List ByteArray) (k : Nat) (x : ByteArray) (h : ns[k]? = some x) : (ns.take (k + 1)).foldl (Sr.use1 bd) acc = Sr.use1 bd ((ns.take k).foldl (Sr.use1 bd) acc) x := by
  obtain ⟨h', rfl⟩ := List.getElem?_eq_some_iff.1 h
  rw [List.take_succ_eq_append_getElem h', List.foldl_append]
  rfl

set_option maxHeartbeats 2000000 in
theorem uses_any (e : Ex.X) (B : Nat) (w : World) (g : Nat) (vb vf : Value) (bd fs : List ByteArray) (cs : List Value) (h : WkO B w g vb bd vf fs) (hx : XR B w cs e) (hn : e.leaves ≤ 1099511627776) (hf : fs.length ≤ 1099511627776) :
    Calls Try.prog 55 #[.pointer (some ⟨g, 0, none⟩), .agg cs.toArray] w (WkEnd B w (WkT g vb bd vf fs) g bd (Sr.use bd fs e)) := by
  obtain ⟨a0, a1, a2, A3, a4, a5, rfl, -, -⟩ := hx.form
  have hb0 : Below w.heap.size w (w.alloc (.cells (xcells a0 a1 a2 A3 a4 a5).toArray 64)) := below_alloc (Below.refl _ _) _
  have h0 := h.later hb0
  have hx0 := (hx.later (hb0.mono h.base)).up h0.base
  unfold xcells at hb0 h0 hx0 ⊢
  have HH := Lib.hid h
  clear h hx
  go_enter Try.func55, Try.ntmps55
  go_wp2_with fail
  refine (names_own e _ _ hx0 (by omega)).mono ?_
  rintro r w1 ⟨v, rfl, hrow, hb1⟩
  have hl := Ex.names_length [] e
  obtain ⟨ns, hns⟩ : ∃ ns, ns = Ex.names [] e := ⟨_, rfl⟩
  rw [← hns] at hrow hl
  have HN := Lib.hid hns
  clear hns
  obtain ⟨V, cV, rfl, hc1, hc2⟩ := own_slice hrow
  unfold maxLen at hc2
  have hbw := below_next hb1 hb0
  have h1 := h0.later hb1
  have hwz : w.heap.size < (w.alloc (.cells #[.int .i64 a0, .int .i64 a1, .string a2, .slice A3 a4 a5] 64)).heap.size := by simp
  have hlt : ∀ k, WkT g vb bd vf fs k → k < w.heap.size := fun k hk => HH.out.lt hk
  have HB := Lib.hid (And.intro hbw (And.intro hwz hlt))
  clear hb0 h0 hx0 hb1 hbw hwz hlt
  simp only [List.length_nil] at hl
  go_wp2_with fail
  go_loopw [9] (fun i wr => ∃ (k : Nat) (vf' : Value), k ≤ ns.length ∧ i = .int .i64 (k : Int) ∧ WkTo B w1 (WkT g vb bd vf fs) wr g vb bd vf' ((ns.take k).foldl (Sr.use1 bd) fs)) (fun i _ => ns.length - (intOf i).toNat)
  case atStart => exact ⟨0, vf, Nat.zero_le _, rfl, OwnTo.start h1⟩
  case round =>
    obtain ⟨k, vf', hk, rfl, hW⟩ := hrel
    by_cases hlk : k < ns.length
    · obtain ⟨x, hx⟩ : ∃ x, ns[k]? = some x := ⟨_, List.getElem?_eq_getElem hlk⟩
      have hfold := Sr.fold_snoc bd fs ns k x hx
      have hlen := Sr.fold_length bd (ns.take k) fs
      have hrw := own_keeps hrow hW.kp (fun i hi hT => by have := HB.out.2.2 i hT; have := (hrow.lt i hi).1; have := HB.out.2.1; omega)
      obtain ⟨b, o, rfl, hbl, hcell⟩ := (Cells.of_own hrw).str hx
      have rb : wr.ownsRow B 9 1 vb bd.length (strs bd) := hW.own.row 0 rfl
      obtain ⟨fk, hfk⟩ : ∃ fk, fk = (ns.take k).foldl (Sr.use1 bd) fs := ⟨_, rfl⟩
      rw [← hfk] at hfold hlen hW
      have rf : wr.ownsRow B 9 1 vf' fk.length (strs fk) := hW.own.row 1 rfl
      have gb := contains_str vb bd x wr (SlV.of_own rb)
      have gf := fun m => contains_str vf' fk x (wr.drewN m) ((SlV.of_own rf).drewN m)
      have b0 : wr.cell? ⟨g, 0, none⟩ = some vb := (hW.own.blk.cell 0).trans rfl
      have b1 : wr.cell? ⟨g, 1, none⟩ = some vf' := (hW.own.blk.cell 1).trans rfl
      have hwl := hW.own.base
      rw [List.length_take] at hlen
      rw [show Sr.use1 bd fk x = if Ex.has x bd = false ∧ Ex.has x fk = false then fk ++ [x] else fk from rfl] at hfold
      have HR := Lib.hid (And.intro hfold (And.intro hlen (And.intro hrw hW)))
      have HX := Lib.hid hx
      obtain ⟨VB, cb, rfl, -, -⟩ := own_slice rb
      clear hx hfold hlen hW hfk hrw rb hrow
      rcases h1' : Ex.has x bd with _ | _
      · rcases h2' : Ex.has x fk with _ | _
        · rw [h1'] at gb HR
          rw [h2'] at HR
          simp only [h2'] at gf
          obtain ⟨VF, cf, rfl, -, -⟩ := own_slice rf
          clear h1' h2'
          go_wp2_with fail
          refine gb.mono ?_
          rintro r w2 ⟨rfl, m, rfl⟩
          go_wp2_with fail
          refine (gf m).mono ?_
          rintro r w3 ⟨rfl, m', rfl⟩
          have hrf := rf
          have hn63 : fk.length + 1 ≤ maxLen := by have := HR.out.2.1; unfold maxLen; omega
          have hn47 : (fk.length + 1) * 16 ≤ 140737488355328 := by have := HR.out.2.1; omega
          have hO := HR.out.2.2.2
          clear gb gf h1 rf
          rw [World.drewN_drewN] at *
          have hO3 := hO.own.drewN (m + m')
          have r3 : (wr.drewN (m + m')).ownsRow B 9 1 (.slice VF fk.length cf) fk.length (strs fk) := hO3.row 1 rfl
          have hbl3 : B ≤ (wr.drewN (m + m')).heap.size := hO3.base
          have hkd : Below wr.heap.size wr (wr.drewN (m + m')) := below_drewN (Below.refl _ _) _
          have c1 : (wr.drewN (m + m')).cell? ⟨g, 1, none⟩ = some (.slice VF fk.length cf) := (hO3.blk.cell 1).trans rfl
          have hend : ∀ (w4 : World) (v' : Value) (w5 : World), w4.ownsRow B 9 1 v' (fk.length + 1) (strs fk ++ [.string x]) → (wr.drewN (m + m')).grownBy w4 (Value.slice VF fk.length cf).ownBlock → (v'.ownBlock = (Value.slice VF fk.length cf).ownBlock ∨ v'.ownBlock = some ((wr.drewN (m + m')).heap.size + 1)) → Blk w5 g 127 [.slice VB bd.length cb, v'] → w4.grownBy w5 (some g) →
              WkTo B w1 (WkT g (.slice VB bd.length cb) bd vf fs) w5 g (.slice VB bd.length cb) bd v' (fk ++ [x]) := fun w4 v' w5 o4 g4 e4 b5 g5 => by
            have := hO3.put_to (i := 1) (r := strRw (.slice VF fk.length cf) fk) rfl (n' := (fk ++ [x]).length) (xs' := strs (fk ++ [x])) (by simpa [strs, strRw] using o4) g4 (e4.imp id fun e => ⟨_, Nat.le_succ _, e⟩) b5 g5
            exact (hO.later hkd).step this
          have hmid : ∀ (w4 : World), (wr.drewN (m + m')).grownBy w4 (Value.slice VF fk.length cf).ownBlock → Blk w4 g 127 [.slice VB bd.length cb, .slice VF fk.length cf] := fun w4 g4 => hO3.blk.grown g4 (fun e => hO3.ng _ (List.mem_cons_of_mem _ (List.mem_singleton.2 rfl)) e.symm)
          have HE := Lib.hid (And.intro hend hmid)
          clear hend hmid hO hO3 hrf b0 b1 hkd
          generalize wr.drewN (m + m') = W at r3 hbl3 c1 HE ⊢
          go_wp2_with (first | (at_builtin; refine wp_push W _ _ B _ _ _ _ _ Try.underlying116 info_str rfl (by decide) r3 [.string x] rfl (strs_one [x]) hn63 hn47 hbl3 rfl rfl rfl rfl ?_; intro v' w4 hown4 hg4 hv4 _; have hB4 := HE.out.2 w4 hg4; obtain ⟨V', c', rfl, _, _⟩ := own_slice hown4) | (refine wpl_set_blk hB4 1 _ (by kernel_rfl) (by simp) rfl rfl rfl rfl rfl rfl ?_; intro w5 hB5 hg5) | fail)
          go_roundw
          case rel => exact ⟨k + 1, _, by omega, by go_num, by rw [HR.out.1]; simpa using HE.out.1 w4 _ w5 hown4 hg4 hv4 hB5 hg5⟩
          case measure => simp [intOf]; omega
        · rw [h1'] at gb HR
          rw [h2'] at HR
          simp only [h2'] at gf
          obtain ⟨VF, cf, rfl, -, -⟩ := own_slice rf
          clear h1' h2'
          go_wp2_with fail
          refine gb.mono ?_
          rintro r w2 ⟨rfl, m, rfl⟩
          go_wp2_with fail
          refine (gf m).mono ?_
          rintro r w3 ⟨rfl, m', rfl⟩
          clear gb gf
          go_wp2_with fail
          go_roundw
          case rel => exact ⟨k + 1, _, by omega, by go_num, by rw [HR.out.1]; exact HR.out.2.2.2.later (below_drewN (Below.refl _ _) (m + m'))⟩
          case measure => simp [intOf]; omega
      · rw [h1'] at gb HR
        obtain ⟨VF, cf, rfl, -, -⟩ := own_slice rf
        clear h1' gf
        go_wp2_with fail
        refine gb.mono ?_
        rintro r w2 ⟨rfl, m, rfl⟩
        clear gb
        go_wp2_with fail
        go_roundw
        case rel => exact ⟨k + 1, _, by omega, by go_num, by rw [HR.out.1]; exact HR.out.2.2.2.later (below_drewN (Below.refl _ _) m)⟩
        case measure => simp [intOf]; omega
    · obtain rfl : k = ns.length := by omega
      go_wp2_with fail
      go_end0
      refine ⟨rfl, vb, vf', ?_⟩
      unfold Sr.use
      rw [← HN.out]
      rw [List.take_length] at hW
      exact hW.since HB.out.1
end Go.Proofs.Ytajddbmmbhdnfaa
