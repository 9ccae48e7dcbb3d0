/-
  mhp.block, walked.
-/
import Derived.Test.YtniekhedpdkmiaaDoorMh3
namespace Go.Proofs.YtniekhedpdkmiaaDoor
set_option linter.unusedVariables false
set_option linter.unusedSimpArgs false
open Go.RowKit

/-- the looker, and Go's table -/
structure Lk (w : World) (kb g N : Nat) (R : Nat → Nat → Prop) : Prop where
  tab : Tab w
  blk : Blk w kb 68 [.slice (some ⟨g, 0, none⟩) N N]
  rws : Rws w g N R
section
variable {w w' : World} {kb g N : Nat} {R R' : Nat → Nat → Prop}
theorem Lk.ne (h : Lk w kb g N R) : kb ≠ g := by
  intro e
  subst e
  obtain ⟨vs, h1, h2, h3⟩ := h.rws
  have hK := h.blk
  unfold Blk at h2 hK
  rw [h2] at hK
  injection hK with hK
  injection hK with _ ht
  exact absurd ht (by decide)
theorem Lk.below (h : Lk w kb g N R) (hb : Below w.heap.size w w') : Lk w' kb g N R := ⟨h.tab.nums (Nums.of_below hb), h.blk.below hb, h.rws.below hb⟩
theorem Lk.nums (h : Lk w kb g N R) (hk : Keeps (fun k => k = g) w w') : Nums w w' := h.rws.nums_of hk
theorem Lk.step (h : Lk w kb g N R) (hr : Rws w' g N R') (hk : Keeps (fun k => k = g) w w') : Lk w' kb g N R' := ⟨h.tab.nums (h.nums hk), h.blk.keeps hk h.ne, hr⟩
theorem SetV.keeps {v : Value} {S : Nat → Prop} (hs : SetV w v S) (h : Lk w kb g N R) (hk : Keeps (fun k => k = g) w w') : SetV w' v S := hs.nums (h.nums hk)
theorem PR.keeps {B n : Nat} {A : Option Addr} {p : St.P} (hp : PR B w A n p) (hk : Keeps (fun k => k = g) w w') (hB : B ≤ g) (hBw : B ≤ w.heap.size) : PR B w' A n p :=
  hp.keep (Nat.le_refl _) fun a ha => World.cell?_of_block (hk.block _ (by omega) (fun e => by omega))
theorem Keeps.next_ {w1 w2 w3 : World} (h : Keeps (fun k => k = g) w1 w2) (k : Keeps (fun k => k = g) w2 w3) : Keeps (fun k => k = g) w1 w3 := h.step k fun _ _ h => h
theorem Keeps.of_b (h : Below w.heap.size w w') : Keeps (fun k => k = g) w w' := Keeps.of_below h _
end

def BlkOK (p : St.P) : Prop := ∀ (w : World) (B n c kb g N l : Nat) (A : Option Addr) (R : Nat → Nat → Prop) (vo : Value) (O : Nat → Prop), B ≤ w.heap.size → PR B w A n p → n ≤ c → c ≤ maxLen → p.size ≤ 1152921504606846976 →
  Lk w kb g N R → B ≤ g → SetV w vo O → (∀ x, O x → x < l) → l + St.labels p ≤ N → N ≤ 65535 →
  Calls Tryd.prog 40 #[.pointer (some ⟨kb, 0, none⟩), .slice A n c, .int .i64 (l : Int), vo] w fun e w' => ∃ u, e = .returned u ∧ SetV w' u (St.both O (St.news l p)) ∧ Rws w' g N (fun i j => R i j ∨ St.noted l O p i j) ∧ Keeps (fun k => k = g) w w'

/-- one statement, as a list of its own -/
theorem pr_one {B : Nat} {w : World} {k : Int} {nm : ByteArray} {ca cb : List Value} {ea eb : Ex.X} {D : Option Addr} {dl dc : Nat} {E : Option Addr} {el ec : Nat} {body els : St.P} {q : Nat} (hq : Blk w q 40 (stcells k nm ca cb D dl dc E el ec)) (hd : dl ≤ dc ∧ dc ≤ maxLen ∧ el ≤ ec ∧ ec ≤ maxLen) (hB : B ≤ w.heap.size)
    (xa : XR B w ca ea) (xb : XR B w cb eb) (pb : PR B w D dl body) (pe : PR B w E el els) : PR w.heap.size w (some ⟨q, 0, none⟩) 1 (.cons k nm.data.toList ea eb body els .nil) :=
  .cons q 0 0 k nm ca cb ea eb D dl dc E el ec body els .nil hq.lt hd.1 hd.2.1 hd.2.2.1 hd.2.2.2 (fun j u hu => by rw [Nat.zero_add, hq.cell]; exact hu) (xa.keep hB fun _ _ => rfl) (xb.keep hB fun _ _ => rfl) (pb.up hB) (pe.up hB) (.nil _)

set_option maxHeartbeats 8000000 in
set_option maxRecDepth 100000 in
theorem block_step (p : St.P) (ih : ∀ q : St.P, q.size < p.size → BlkOK q) : BlkOK p := by
  intro w B n c kb g N l A R vo O hB hp hnc hcm hsz hL hBg hO hOl hlN hN
  obtain ⟨g0, o, hA, hpl⟩ := hp.place
  have hn63 : n ≤ 9223372036854775807 := by unfold maxLen at hcm; omega
  go_enter Tryd.func40, Tryd.ntmps40
  go_wp2
  go_loopw [2, 3, 17] (fun lb op i wr => ∃ (k l' : Nat) (q : St.P) (O' : Nat → Prop) (R' : Nat → Nat → Prop), k ≤ n ∧ i = .int .i64 (k : Int) ∧ lb = .int .i64 (l' : Int) ∧ SetV wr op O' ∧ Lk wr kb g N R' ∧ PR B wr (some ⟨g0, o + k * 12, none⟩) (n - k) q ∧ Keeps (fun k => k = g) w wr ∧
    (q.size ≤ p.size ∧ (∀ x, O' x → x < l') ∧ l' + St.labels q = l + St.labels p ∧ (∀ x, St.both O' (St.news l' q) x ↔ St.both O (St.news l p) x) ∧ (∀ i j, (R' i j ∨ St.noted l' O' q i j) ↔ (R i j ∨ St.noted l O p i j)))) (fun lb op i _ => n - (intOf i).toNat)
  case atStart => exact ⟨0, l, p, O, R, Nat.zero_le _, rfl, rfl, hO, hL, hpl, Keeps.refl _ _, Nat.le_refl _, hOl, rfl, fun _ => Iff.rfl, fun _ _ => Iff.rfl⟩
  case round =>
    obtain ⟨k, l', q, O', R', hk, rfl, rfl, hO', hL', hq, hb, hfs⟩ := hrel
    by_cases hlt : k < n
    · obtain ⟨kd, nm, ak, an, bk, bn, sa, sb, aA, bA, al, ac, bl, bc, ea, eb, D, dl, dc, E, el, ec, body, els, rest, rfl, hg, hd, hcell, xa, xb, pb, pe, pr⟩ := hq.next (by omega)
      have hAA := hA (by omega)
      subst hAA
      have c0 : wr.cell? ⟨g0, o + k * 12, none⟩ = some (.int .i64 kd) := hcell 0 _ rfl
      have c1 := hcell 1 _ rfl
      have c2 := hcell 2 _ rfl
      have c3 := hcell 3 _ rfl
      have c4 := hcell 4 _ rfl
      have c5 := hcell 5 _ rfl
      have c6 := hcell 6 _ rfl
      have c7 := hcell 7 _ rfl
      have c8 := hcell 8 _ rfl
      have c9 := hcell 9 _ rfl
      have c10 := hcell 10 _ rfl
      have c11 := hcell 11 _ rfl
      have hBr : B ≤ wr.heap.size := Nat.le_trans hB hb.size
      have hs : body.size < p.size ∧ els.size < p.size ∧ rest.size ≤ p.size ∧ 1 + ea.leaves + eb.leaves + body.size + els.size + rest.size ≤ p.size := by rw [St.P.size] at hfs; omega
      obtain ⟨m, hm⟩ : ∃ m, m = St.lab1 kd (St.labels body) (St.labels els) := ⟨_, rfl⟩
      have hm1 : St.labels (.cons kd nm.data.toList ea eb body els .nil) = m := by rw [hm]; simp [St.labels]
      have hfs2 := hfs.2.2.1
      rw [St.labels, ← hm] at hfs2
      have hmN : l' + m ≤ N := by omega
      obtain ⟨cs, hcs⟩ : ∃ cs, cs = stcells kd nm (xcells ak an sa aA al ac) (xcells bk bn sb bA bl bc) D dl dc E el ec := ⟨_, rfl⟩
      obtain ⟨p0, -, hb0⟩ := st_copy (Below.refl _ wr) cs 40
      obtain ⟨p1, -, hb1⟩ := st_copy (Below.refl _ (wr.alloc (.cells cs.toArray 40))) cs 40
      have p0 := p0.below hb1
      have hb1 := below_next hb1 hb0
      have hsz1 : (wr.alloc (.cells cs.toArray 40)).heap.size = wr.heap.size + 1 := by simp
      rw [hsz1] at p1
      rw [hcs] at p0 p1 hb1
      have HH := Lib.hid (And.intro hfs (And.intro hs (And.intro hm (And.intro hm1 (And.intro hfs2 (And.intro hp hpl))))))
      clear hcell hfs hs hm hm1 hfs2 hp hpl hq hcs hb0 hsz1
      unfold stcells xcells at p0 p1 hb1
      go_wp2_with fail
      obtain ⟨W, hW⟩ : ∃ W, W = (wr.alloc (.cells #[.int .i64 kd, .string nm, .int .i64 ak, .int .i64 an, .string sa, .slice aA al ac, .int .i64 bk, .int .i64 bn, .string sb, .slice bA bl bc, .slice D dl dc, .slice E el ec] 40)).alloc (.cells #[.int .i64 kd, .string nm, .int .i64 ak, .int .i64 an, .string sa, .slice aA al ac, .int .i64 bk, .int .i64 bn, .string sb, .slice bA bl bc, .slice D dl dc, .slice E el ec] 40) := ⟨_, rfl⟩
      have p0 : Blk W wr.heap.size 40 [.int .i64 kd, .string nm, .int .i64 ak, .int .i64 an, .string sa, .slice aA al ac, .int .i64 bk, .int .i64 bn, .string sb, .slice bA bl bc, .slice D dl dc, .slice E el ec] := by rw [hW]; exact p0
      have p1 : Blk W (wr.heap.size + 1) 40 (stcells kd nm (xcells ak an sa aA al ac) (xcells bk bn sb bA bl bc) D dl dc E el ec) := by rw [hW]; exact p1
      have hb1 : Below wr.heap.size wr W := by rw [hW]; exact hb1
      rw [← hW]
      clear hW
      have hBW : B ≤ W.heap.size := Nat.le_trans hBr hb1.size
      have hbB := hb1.mono hBr
      have hone := pr_one p1 hd hBW (xa.later hbB) (xb.later hbB) (pb.later hbB) (pe.later hbB)
      refine (labels_any _ W W.heap.size 1 1 _ (Nat.le_refl _) hone (Nat.le_refl _) (by decide) (by have := HH.out; simp only [St.P.size]; omega)).mono ?_
      rintro e w2 ⟨rfl, hb2⟩
      rw [HH.out.2.2.2.1]
      clear p1 hone xa xb
      go_wp2_with fail
      refine (span_any w2 l' m (by omega)).mono ?_
      rintro e w3 ⟨v3, rfl, hv3, hb3⟩
      have hb13 : Below wr.heap.size wr w3 := below_next hb3 (below_next hb2 hb1)
      have p3 := (p0.below hb2).below hb3
      have hL3 := hL'.below hb13
      have hO3 := hO'.below hb13
      go_wp2_with fail
      refine (mix_any w3 kb g N R' _ v3 O' (St.span l' m) hL3.tab hL3.blk hL3.rws hO3 hv3 (fun x hx => by have := HH.out.1.2.1 x hx; omega) (fun x hx => by have := hx.2; omega) hN).mono ?_
      rintro e w4 ⟨⟨v4, rfl⟩, hR4, hk4⟩
      have hL4 := hL3.step hR4 hk4
      have hk14 : Keeps (fun k => k = g) wr w4 := (Keeps.of_b hb13).next_ hk4
      have hO4 := hO'.keeps hL' hk14
      have hgw : wr.heap.size ≠ g := by have := hL'.rws.lt; omega
      have p4 := p3.keeps hk4 hgw
      have d0 : w4.cell? ⟨wr.heap.size, 0, none⟩ = some (.int .i64 kd) := (p4.cell 0).trans rfl
      have d10 : w4.cell? ⟨wr.heap.size, 10, none⟩ = some (.slice D dl dc) := (p4.cell 10).trans rfl
      have pb4 := pb.keeps hk14 hBg hBr
      have pe4 := pe.keeps hk14 hBg hBr
      have pr4 := pr.keeps hk14 hBg hBr
      have hb4 := hb.next_ hk14
      have hB4 : B ≤ w4.heap.size := Nat.le_trans hBr hk14.size
      have hsz4 : body.size ≤ 1152921504606846976 ∧ els.size ≤ 1152921504606846976 := by have := HH.out; omega
      have hIB := ih body HH.out.2.1.1
      have hIE := ih els HH.out.2.1.2.1
      have hrnd := fun O5 R5 => St.round (O5 := O5) (R5 := R5) HH.out.2.2.1 HH.out.1.2.1 HH.out.1.2.2.1 HH.out.1.2.2.2.1 HH.out.1.2.2.2.2
      have hrs : rest.size ≤ p.size := HH.out.2.1.2.2.1
      have HM := Lib.hid HH.out.2.2.1
      clear HH hb1 hb2 hb3 hv3 p0 p3 hL3 hO3 hk4 hR4 pb pe pr hbB hL' hb hb13 hO' hk14 hBr
      rcases lab_kinds kd with rfl | rfl | rfl | rfl | rfl | rfl | ⟨k2, k3, k4, k5, k6, k7⟩
      · clear hIB hIE pb4 pe4 p4
        go_wp2
        go_roundw
        case rel => exact ⟨k + 1, l' + m, rest, _, _, by omega, by go_num, by go_num, hO4, hL4, by rw [show n - (k + 1) = n - k - 1 by omega]; exact pr4, hb4, hrs, hrnd _ _ (fun x => by simp [St.both, St.news1]) (fun i j => by simp [St.in1])⟩
        case measure => simp [intOf]; omega
      · clear hIB hIE pb4 pe4 p4
        go_wp2
        go_roundw
        case rel => exact ⟨k + 1, l' + m, rest, _, _, by omega, by go_num, by go_num, hO4, hL4, by rw [show n - (k + 1) = n - k - 1 by omega]; exact pr4, hb4, hrs, hrnd _ _ (fun x => by simp [St.both, St.news1]) (fun i j => by simp [St.in1])⟩
        case measure => simp [intOf]; omega
      · clear hIE
        go_wp2_with fail
        refine (hIB w4 B dl dc kb g N l' D _ (.slice none 0 0) St.none_ hB4 pb4 hd.1 hd.2.1 hsz4.1 hL4 hBg (SetV.nil _) (fun x h => h.elim) (by have hmN := hmN; rw [HM.out] at hmN; simp [St.lab1] at hmN; omega) hN).mono ?_
        rintro e w5 ⟨u5, rfl, hu5, hR5, hk5⟩
        have hL5 := hL4.step hR5 hk5
        have hO5 := hO4.keeps hL4 hk5
        have hb5 := hb4.next_ hk5
        have pr5 := pr4.keeps hk5 hBg hB4
        have p5 := p4.keeps hk5 hgw
        have d5 : w5.cell? ⟨wr.heap.size, 10, none⟩ = some (.slice D dl dc) := (p5.cell 10).trans rfl
        have d5' : w5.cell? ⟨wr.heap.size, 11, none⟩ = some (.slice E el ec) := (p5.cell 11).trans rfl
        have pb5 := pb4.keeps hk5 hBg hB4
        have pe5 := pe4.keeps hk5 hBg hB4
        have hB5 : B ≤ w5.heap.size := Nat.le_trans hB4 hk5.size
        have hu5 := hu5.iff (St.none_both _)
        clear hIB hL4 hO4 hb4 pr4 hR5 hk5 p4 pb4 pe4 hB4
        go_wp2_with fail
        refine (span_any w5 l' m (by omega)).mono ?_
        rintro e w6 ⟨u6, rfl, hu6, hb6⟩
        have hL6 := hL5.below hb6
        have hO6 := hO5.below hb6
        have hb6' := hb5.next_ (Keeps.of_b hb6)
        have pr6 := pr5.later (hb6.mono hB5)
        have hB6 : B ≤ w6.heap.size := Nat.le_trans hB5 hb6.size
        clear hL5 hO5 hb5 pr5 pb5 pe5 p5 hu5
        go_wp2_with fail
        refine (or_set w6 _ _ _ _ hO6 hu6).mono ?_
        rintro e w7 ⟨u7, rfl, hu7, hb7⟩
        have hL7 := hL6.below hb7
        have hb7' := hb6'.next_ (Keeps.of_b hb7)
        have pr7 := pr6.later (hb7.mono hB6)
        clear hL6 hb6' pr6
        go_wp2
        go_roundw
        case rel => exact ⟨k + 1, l' + m, rest, _, _, by omega, by go_num, by go_num, hu7, hL7, by rw [show n - (k + 1) = n - k - 1 by omega]; exact pr7, hb7', hrs, hrnd _ _ (fun x => by simp [St.both, St.news1]) (fun i j => by simp [St.in1])⟩
        case measure => simp [intOf]; omega
      · clear hIE
        go_wp2_with fail
        refine (hIB w4 B dl dc kb g N l' D _ (.slice none 0 0) St.none_ hB4 pb4 hd.1 hd.2.1 hsz4.1 hL4 hBg (SetV.nil _) (fun x h => h.elim) (by have hmN := hmN; rw [HM.out] at hmN; simp [St.lab1] at hmN; omega) hN).mono ?_
        rintro e w5 ⟨u5, rfl, hu5, hR5, hk5⟩
        have hL5 := hL4.step hR5 hk5
        have hO5 := hO4.keeps hL4 hk5
        have hb5 := hb4.next_ hk5
        have pr5 := pr4.keeps hk5 hBg hB4
        have p5 := p4.keeps hk5 hgw
        have d5 : w5.cell? ⟨wr.heap.size, 10, none⟩ = some (.slice D dl dc) := (p5.cell 10).trans rfl
        have d5' : w5.cell? ⟨wr.heap.size, 11, none⟩ = some (.slice E el ec) := (p5.cell 11).trans rfl
        have pb5 := pb4.keeps hk5 hBg hB4
        have pe5 := pe4.keeps hk5 hBg hB4
        have hB5 : B ≤ w5.heap.size := Nat.le_trans hB4 hk5.size
        have hu5 := hu5.iff (St.none_both _)
        clear hIB hL4 hO4 hb4 pr4 hR5 hk5 p4 pb4 pe4 hB4
        go_wp2
        go_roundw
        case rel => exact ⟨k + 1, l' + m, rest, _, _, by omega, by go_num, by go_num, hO5, hL5, by rw [show n - (k + 1) = n - k - 1 by omega]; exact pr5, hb5, hrs, hrnd _ _ (fun x => by simp [St.both, St.news1]) (fun i j => by simp [St.in1])⟩
        case measure => simp [intOf]; omega
      · go_wp2_with fail
        refine (hIB w4 B dl dc kb g N l' D _ (.slice none 0 0) St.none_ hB4 pb4 hd.1 hd.2.1 hsz4.1 hL4 hBg (SetV.nil _) (fun x h => h.elim) (by have hmN := hmN; rw [HM.out] at hmN; simp [St.lab1] at hmN; omega) hN).mono ?_
        rintro e w5 ⟨u5, rfl, hu5, hR5, hk5⟩
        have hL5 := hL4.step hR5 hk5
        have hO5 := hO4.keeps hL4 hk5
        have hb5 := hb4.next_ hk5
        have pr5 := pr4.keeps hk5 hBg hB4
        have p5 := p4.keeps hk5 hgw
        have d5 : w5.cell? ⟨wr.heap.size, 10, none⟩ = some (.slice D dl dc) := (p5.cell 10).trans rfl
        have d5' : w5.cell? ⟨wr.heap.size, 11, none⟩ = some (.slice E el ec) := (p5.cell 11).trans rfl
        have pb5 := pb4.keeps hk5 hBg hB4
        have pe5 := pe4.keeps hk5 hBg hB4
        have hB5 : B ≤ w5.heap.size := Nat.le_trans hB4 hk5.size
        have hu5 := hu5.iff (St.none_both _)
        clear hIB hL4 hO4 hb4 pr4 hR5 hk5 p4 pb4 pe4 hB4
        go_wp2_with fail
        have hw1 : IntKind.i64.wrap ((l' : Int) + (St.labels body : Nat)) = ((l' + St.labels body : Nat) : Int) := i64_addk _ _ (by have hmN := hmN; rw [HM.out] at hmN; simp [St.lab1] at hmN; omega)
        have key : ∀ w', Below w5.heap.size w5 w' → w'.cell? ⟨wr.heap.size, 10, none⟩ = some (.slice D dl dc) ∧ w'.cell? ⟨wr.heap.size, 11, none⟩ = some (.slice E el ec) ∧ PR B w' D dl body ∧ B ≤ w'.heap.size := fun w' h =>
          ⟨((p5.below h).cell 10).trans rfl, ((p5.below h).cell 11).trans rfl, pb5.later (h.mono hB5), Nat.le_trans hB5 h.size⟩
        refine wp_walk_tail 8 (by kernel_rfl) (by kernel_rfl) (fun _ _ => True) (fun w' => (Below w5.heap.size w5 w' ∧ w'.cell? ⟨wr.heap.size, 10, none⟩ = some (.slice D dl dc) ∧ w'.cell? ⟨wr.heap.size, 11, none⟩ = some (.slice E el ec))) ⟨below_drew (Below.refl _ _), (key _ (below_drew (Below.refl _ _))).1, (key _ (below_drew (Below.refl _ _))).2.1⟩ ?_
        simp only [List.length_cons, List.length_nil, Nat.reduceAdd, Nat.reduceSub, List.take_succ_cons, List.take_zero, List.drop_succ_cons, List.drop_zero]
        repeat (first | (refine settle_skip (fun _ => by rfl) ?_; (simp only [Act.put, List.setIfInBounds_toArray, List.set_cons_zero, List.set_cons_succ])) | (refine' settle_run (fun _ _ => trivial) (fun _ => by rfl) ?_ ?_; rotate_left; (focus (intro ρ w hS hF; (try dsimp only at hS); go_split_ands; go_simp; try with_reducible rfl)); (simp only [Act.put, List.setIfInBounds_toArray, List.set_cons_zero, List.set_cons_succ])))
        (refine' settle_step (fun _ => by rfl) ?_ ?_; rotate_left; (focus (intro ρ w hS hF K hK; (simp only [Act.put, List.setIfInBounds_toArray, List.set_cons_zero, List.set_cons_succ] at hK); go_simp; (have hk := key _ hS.1; go_at_call 39; refine (labels_any body _ B dl dc D hk.2.2.2 hk.2.2.1 hd.1 hd.2.1 hsz4.1).mono ?_; rintro e w6 ⟨rfl, hb6⟩; have hS0 := below_next hb6 hS.1; have hS' := (And.intro hS0 (And.intro (key _ hS0).1 (key _ hS0).2.1)); have hE' := True.intro); exact hK _ hS' hE')); (simp only [Act.put, List.setIfInBounds_toArray, List.set_cons_zero, List.set_cons_succ]))
        repeat (first | (refine settle_skip (fun _ => by rfl) ?_; (simp only [Act.put, List.setIfInBounds_toArray, List.set_cons_zero, List.set_cons_succ])) | (refine' settle_run (fun _ _ => trivial) (fun _ => by rfl) ?_ ?_; rotate_left; (focus (intro ρ w hS hF; (try dsimp only at hS); go_split_ands; go_simp; try with_reducible rfl)); (simp only [Act.put, List.setIfInBounds_toArray, List.set_cons_zero, List.set_cons_succ])))
        refine settle_nil ?_
        intro ρ w6 hS _
        have hb6 := hS.1
        have hL6 := hL5.below hb6
        have hO6 := hO5.below hb6
        have hA6 := hu5.below hb6
        have hb6' := hb5.next_ (Keeps.of_b hb6)
        have pr6 := pr5.later (hb6.mono hB5)
        have pe6 := pe5.later (hb6.mono hB5)
        have hB6 : B ≤ w6.heap.size := Nat.le_trans hB5 hb6.size
        clear hL5 hO5 hb5 pr5 pb5 pe5 p5 hu5 key hS hb6
        go_wp2_with fail
        refine (hIE w6 B el ec kb g N (l' + St.labels body) E _ (.slice none 0 0) St.none_ hB6 pe6 hd.2.2.1 hd.2.2.2 hsz4.2 hL6 hBg (SetV.nil _) (fun x h => h.elim) (by have hmN := hmN; rw [HM.out] at hmN; simp [St.lab1] at hmN; omega) hN).mono ?_
        rintro e w7 ⟨u7, rfl, hu7, hR7, hk7⟩
        have hL7 := hL6.step hR7 hk7
        have hO7 := hO6.keeps hL6 hk7
        have hA7 := hA6.keeps hL6 hk7
        have hb7 := hb6'.next_ hk7
        have pr7 := pr6.keeps hk7 hBg hB6
        have hB7 : B ≤ w7.heap.size := Nat.le_trans hB6 hk7.size
        have hu7 := hu7.iff (St.none_both _)
        clear hIE hL6 hO6 hA6 hb6' pr6 pe6 hR7 hk7
        go_wp2_with fail
        refine (or_set w7 _ _ _ _ hO7 hA7).mono ?_
        rintro e w8 ⟨u8, rfl, hu8, hb8⟩
        have hL8 := hL7.below hb8
        have hE8 := hu7.below hb8
        have hb8' := hb7.next_ (Keeps.of_b hb8)
        have pr8 := pr7.later (hb8.mono hB7)
        have hB8 : B ≤ w8.heap.size := Nat.le_trans hB7 hb8.size
        clear hL7 hb7 pr7
        go_wp2_with fail
        refine (or_set w8 _ _ _ _ hu8 hE8).mono ?_
        rintro e w9 ⟨u9, rfl, hu9, hb9⟩
        have hL9 := hL8.below hb9
        have hb9' := hb8'.next_ (Keeps.of_b hb9)
        have pr9 := pr8.later (hb9.mono hB8)
        clear hL8 hb8' pr8
        go_wp2
        go_roundw
        case rel => exact ⟨k + 1, l' + m, rest, _, _, by omega, by go_num, by go_num, hu9, hL9, by rw [show n - (k + 1) = n - k - 1 by omega]; exact pr9, hb9', hrs, hrnd _ _ (fun x => by simp [St.both, St.news1, or_assoc]) (fun i j => by simp [St.in1, or_assoc])⟩
        case measure => simp [intOf]; omega
      · clear hIE
        go_wp2_with fail
        refine (hIB w4 B dl dc kb g N l' D _ (.slice none 0 0) St.none_ hB4 pb4 hd.1 hd.2.1 hsz4.1 hL4 hBg (SetV.nil _) (fun x h => h.elim) (by have hmN := hmN; rw [HM.out] at hmN; simp [St.lab1] at hmN; omega) hN).mono ?_
        rintro e w5 ⟨u5, rfl, hu5, hR5, hk5⟩
        have hL5 := hL4.step hR5 hk5
        have hO5 := hO4.keeps hL4 hk5
        have hb5 := hb4.next_ hk5
        have pr5 := pr4.keeps hk5 hBg hB4
        have p5 := p4.keeps hk5 hgw
        have d5 : w5.cell? ⟨wr.heap.size, 10, none⟩ = some (.slice D dl dc) := (p5.cell 10).trans rfl
        have d5' : w5.cell? ⟨wr.heap.size, 11, none⟩ = some (.slice E el ec) := (p5.cell 11).trans rfl
        have pb5 := pb4.keeps hk5 hBg hB4
        have pe5 := pe4.keeps hk5 hBg hB4
        have hB5 : B ≤ w5.heap.size := Nat.le_trans hB4 hk5.size
        have hu5 := hu5.iff (St.none_both _)
        clear hIB hL4 hO4 hb4 pr4 hR5 hk5 p4 pb4 pe4 hB4
        go_wp2_with fail
        refine (span_any w5 l' m (by omega)).mono ?_
        rintro e w6 ⟨u6, rfl, hu6, hb6⟩
        have hL6 := hL5.below hb6
        have hO6 := hO5.below hb6
        have hA6 := hu5.below hb6
        have hb6' := hb5.next_ (Keeps.of_b hb6)
        have pr6 := pr5.later (hb6.mono hB5)
        have hB6 : B ≤ w6.heap.size := Nat.le_trans hB5 hb6.size
        clear hL5 hO5 hb5 pr5 pb5 pe5 p5 hu5
        go_wp2_with fail
        refine (mix_any w6 kb g N _ _ u6 (St.news l' body) (St.span l' m) hL6.tab hL6.blk hL6.rws hA6 hu6 (fun x hx => by have := St.news_span body l' x hx; unfold St.span at this; have hmN := hmN; rw [HM.out] at hmN; simp [St.lab1] at hmN; omega) (fun x hx => by have := hx.2; omega) hN).mono ?_
        rintro e w7 ⟨⟨u7, rfl⟩, hR7, hk7⟩
        have hL7 := hL6.step hR7 hk7
        have hO7 := hO6.keeps hL6 hk7
        have hA7 := hA6.keeps hL6 hk7
        have hb7 := hb6'.next_ hk7
        have pr7 := pr6.keeps hk7 hBg hB6
        have hB7 : B ≤ w7.heap.size := Nat.le_trans hB6 hk7.size
        clear hL6 hO6 hA6 hb6' pr6 hR7 hk7
        go_wp2_with fail
        refine (or_set w7 _ _ _ _ hO7 hA7).mono ?_
        rintro e w8 ⟨u8, rfl, hu8, hb8⟩
        have hL8 := hL7.below hb8
        have hb8' := hb7.next_ (Keeps.of_b hb8)
        have pr8 := pr7.later (hb8.mono hB7)
        clear hL7 hb7 pr7
        go_wp2
        go_roundw
        case rel => exact ⟨k + 1, l' + m, rest, _, _, by omega, by go_num, by go_num, hu8, hL8, by rw [show n - (k + 1) = n - k - 1 by omega]; exact pr8, hb8', hrs, hrnd _ _ (fun x => by simp [St.both, St.news1]) (fun i j => by simp [St.in1, or_assoc])⟩
        case measure => simp [intOf]; omega
      · clear hIB hIE pb4 pe4 p4
        have e4 : kd ≠ 4 := by simpa using k4
        have e5 : kd ≠ 5 := by simpa using k5
        have e6 : kd ≠ 6 := by simpa using k6
        have e7 : kd ≠ 7 := by simpa using k7
        have HO := Lib.hid (show ∀ x, O' x ↔ St.both O' (St.news1 kd l' m (St.news l' body) (St.news (l' + St.labels body) els)) x from fun x => by simp [St.both, St.news1, e4, e6, e7])
        have HR := Lib.hid (show ∀ i j, ¬ St.in1 kd l' m (St.news l' body) (St.noted l' St.none_ body) (St.noted (l' + St.labels body) St.none_ els) i j from fun i j => by simp [St.in1, e4, e5, e6, e7])
        clear e4 e5 e6 e7
        go_wp2
        go_roundw
        case rel => exact ⟨k + 1, l' + m, rest, _, _, by omega, by go_num, by go_num, hO4, hL4, by rw [show n - (k + 1) = n - k - 1 by omega]; exact pr4, hb4, hrs, hrnd _ _ (fun x => by exact HO.out x) (fun i j => by exact (or_iff_left (HR.out i j)).symm)⟩
        case measure => simp [intOf]; omega
    · have hkn : k = n := by omega
      have hq0 : q = .nil := by rw [hkn, Nat.sub_self] at hq; exact hq.zero
      subst hq0
      have HF := Lib.hid hfs
      clear hfs hkn
      go_wp2
      go_ret
      refine ⟨_, rfl, hO'.iff fun x => ?_, hL'.rws.iff fun i j => ?_, hb⟩
      · exact (St.both_none O' x).symm.trans (HF.out.2.2.2.1 x)
      · exact (or_iff_left (fun h => h)).symm.trans (HF.out.2.2.2.2 i j)
theorem block_any (p : St.P) : BlkOK p := by
  suffices h : ∀ m (p : St.P), p.size ≤ m → BlkOK p from h _ p (Nat.le_refl _)
  intro m
  induction m with
  | zero =>
    intro p hp
    exact block_step p fun q hq => by omega
  | succ m ih => exact fun p hp => block_step p fun q hq => ih q (by omega)
end Go.Proofs.YtniekhedpdkmiaaDoor
