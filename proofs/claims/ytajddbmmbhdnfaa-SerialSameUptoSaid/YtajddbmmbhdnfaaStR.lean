/-
  Statements in memory, read; an argument that is a list of statements, opened.
-/
import Derived.Test.YtajddbmmbhdnfaaRows
import Derived.Test.YtajddbmmbhdnfaaOpen
import Derived.Test.YtajddbmmbhdnfaaKeep
import Derived.Test.YtajddbmmbhdnfaaExR
import Derived.Test.YtajddbmmbhdnfaaStLaw
namespace Go.Proofs.Ytajddbmmbhdnfaa
set_option linter.unusedVariables false
set_option linter.unusedSimpArgs false
set_option maxRecDepth 100000
open Go.ChangeShapes Go.WideShapes Go.ChangeAt Go.RowKit

/-- a statement's twelve cells -/
def stcells (k : Int) (nm : ByteArray) (ca cb : List Value) (B : Option Addr) (bl bc : Nat) (E : Option Addr) (el ec : Nat) : List Value :=
  [.int .i64 k, .string nm] ++ ca ++ cb ++ [.slice B bl bc, .slice E el ec]

/-- what lies behind an address, read as n statements -/
inductive PR (B : Nat) (w : World) : Option Addr → Nat → St.P → Prop
  | nil (A : Option Addr) : PR B w A 0 .nil
  | cons (g o n : Nat) (k : Int) (nm : ByteArray) (ca cb : List Value) (ea eb : Ex.X) (D : Option Addr) (dl dc : Nat) (E : Option Addr) (el ec : Nat) (body els rest : St.P) : g < B → dl ≤ dc → dc ≤ maxLen → el ≤ ec → ec ≤ maxLen →
      (∀ j u, (stcells k nm ca cb D dl dc E el ec)[j]? = some u → w.cell? ⟨g, o + j, none⟩ = some u) → XR B w ca ea → XR B w cb eb → PR B w D dl body → PR B w E el els → PR B w (some ⟨g, o + 12, none⟩) n rest →
      PR B w (some ⟨g, o, none⟩) (n + 1) (.cons k nm.data.toList ea eb body els rest)

theorem PR.length {B : Nat} {w : World} {A : Option Addr} {n : Nat} {p : St.P} (h : PR B w A n p) : n = p.length := by
  induction h with
  | nil A => rfl
  | cons g o n k nm ca cb ea eb D dl dc E el ec body els rest h1 h2 h3 h4 h5 h6 h7 h8 _ _ _ i1 i2 i3 => rw [St.P.length, i3]
theorem PR.keep {B B' : Nat} {w w' : World} {A : Option Addr} {n : Nat} {p : St.P} (h : PR B w A n p) (hB : B ≤ B') (hk : ∀ p : Addr, p.block < B → w'.cell? p = w.cell? p) : PR B' w' A n p := by
  induction h with
  | nil A => exact .nil A
  | cons g o n k nm ca cb ea eb D dl dc E el ec body els rest h1 h2 h3 h4 h5 h6 h7 h8 _ _ _ i1 i2 i3 =>
    exact .cons g o n k nm ca cb ea eb D dl dc E el ec body els rest (Nat.lt_of_lt_of_le h1 hB) h2 h3 h4 h5 (fun j u hu => (hk ⟨g, o + j, none⟩ h1).trans (h6 j u hu)) (h7.keep hB hk) (h8.keep hB hk) i1 i2 i3
theorem PR.later {B : Nat} {w w' : World} {A : Option Addr} {n : Nat} {p : St.P} (h : PR B w A n p) (hb : Below B w w') : PR B w' A n p := h.keep (Nat.le_refl _) (fun _ hp => hb.cell hp)
theorem PR.up {B B' : Nat} {w : World} {A : Option Addr} {n : Nat} {p : St.P} (h : PR B w A n p) (hB : B ≤ B') : PR B' w A n p := h.keep hB (fun _ _ => rfl)
theorem PR.alloc {B : Nat} {w : World} {A : Option Addr} {n : Nat} {p : St.P} (h : PR B w A n p) (hB : B ≤ w.heap.size) (o : Obj) : PR B (w.alloc o) A n p := h.later ((Below.refl _ _).alloc hB o)

theorem PR.step {B n : Nat} {w : World} {A : Option Addr} {q : St.P} (h : PR B w A (n + 1) q) : ∃ (g o : Nat) (k : Int) (nm : ByteArray) (ca cb : List Value) (ea eb : Ex.X) (D : Option Addr) (dl dc : Nat) (E : Option Addr) (el ec : Nat) (body els rest : St.P),
    A = some ⟨g, o, none⟩ ∧ q = .cons k nm.data.toList ea eb body els rest ∧ g < B ∧ (dl ≤ dc ∧ dc ≤ maxLen ∧ el ≤ ec ∧ ec ≤ maxLen) ∧ (∀ j u, (stcells k nm ca cb D dl dc E el ec)[j]? = some u → w.cell? ⟨g, o + j, none⟩ = some u) ∧
      XR B w ca ea ∧ XR B w cb eb ∧ PR B w D dl body ∧ PR B w E el els ∧ PR B w (some ⟨g, o + 12, none⟩) n rest := by
  cases h with
  | cons g o n k nm ca cb ea eb D dl dc E el ec body els rest h1 h2 h3 h4 h5 h6 h7 h8 h9 h10 h11 => exact ⟨g, o, k, nm, ca, cb, ea, eb, D, dl, dc, E, el, ec, body, els, rest, rfl, rfl, h1, ⟨h2, h3, h4, h5⟩, h6, h7, h8, h9, h10, h11⟩
theorem PR.zero {B : Nat} {w : World} {A : Option Addr} {q : St.P} (h : PR B w A 0 q) : q = .nil := by cases h; rfl
/-- a place for what lies behind an address -/
theorem PR.place {B n : Nat} {w : World} {A : Option Addr} {q : St.P} (h : PR B w A n q) : ∃ g o, (0 < n → A = some ⟨g, o, none⟩) ∧ PR B w (some ⟨g, o + 0 * 12, none⟩) (n - 0) q := by
  cases h with
  | nil => exact ⟨0, 0, fun h => by omega, .nil _⟩
  | cons g o n k nm ca cb ea eb D dl dc E el ec body els rest h1 h2 h3 h4 h5 h6 h7 h8 h9 h10 h11 =>
    exact ⟨g, o, fun _ => rfl, .cons g (o + 0 * 12) n k nm ca cb ea eb D dl dc E el ec body els rest h1 h2 h3 h4 h5 (by simpa using h6) h7 h8 h9 h10 (by simpa using h11)⟩
/-- the next one's twelve cells, one by one -/
theorem PR.next {B n k : Nat} {g o : Nat} {w : World} {q : St.P} (h : PR B w (some ⟨g, o + k * 12, none⟩) n q) (hn : 0 < n) : ∃ (kd : Int) (nm : ByteArray) (ak an bk bn : Int) (sa sb : ByteArray) (aA bA : Option Addr) (al ac bl bc : Nat) (ea eb : Ex.X) (D : Option Addr) (dl dc : Nat) (E : Option Addr) (el ec : Nat) (body els rest : St.P),
    q = .cons kd nm.data.toList ea eb body els rest ∧ g < B ∧ (dl ≤ dc ∧ dc ≤ maxLen ∧ el ≤ ec ∧ ec ≤ maxLen) ∧
      (∀ j u, (stcells kd nm (xcells ak an sa aA al ac) (xcells bk bn sb bA bl bc) D dl dc E el ec)[j]? = some u → w.cell? ⟨g, o + k * 12 + j, none⟩ = some u) ∧
      XR B w (xcells ak an sa aA al ac) ea ∧ XR B w (xcells bk bn sb bA bl bc) eb ∧ PR B w D dl body ∧ PR B w E el els ∧ PR B w (some ⟨g, o + (k + 1) * 12, none⟩) (n - 1) rest := by
  obtain ⟨m, rfl⟩ : ∃ m, n = m + 1 := ⟨n - 1, by omega⟩
  obtain ⟨g', o', kd, nm, ca, cb, ea, eb, D, dl, dc, E, el, ec, body, els, rest, hA, hq, h1, h2, h3, h4, h5, h6, h7, h8⟩ := h.step
  injection hA with hA
  injection hA with e1 e2
  subst e1 e2
  obtain ⟨ak, an, sa, aA, al, ac, rfl, -, -⟩ := h4.form
  obtain ⟨bk, bn, sb, bA, bl, bc, rfl, -, -⟩ := h5.form
  refine ⟨kd, nm, ak, an, bk, bn, sa, sb, aA, bA, al, ac, bl, bc, ea, eb, D, dl, dc, E, el, ec, body, els, rest, hq, h1, h2, h3, h4, h5, h6, h7, ?_⟩
  rw [Nat.add_mul, ← Nat.add_assoc, Nat.one_mul]
  exact h8

/-! ### an argument -/
theorem St.bulk_all {H : Type} (a : DataW H) (l : List (DataW H)) : Rows.uptoBulkAll (a :: l) = Rows.uptoBulk a + Rows.uptoBulkAll l := by rw [Rows.uptoBulkAll]

/-- a statement, its lists of statements being opened -/
theorem open_stmt {H : Type} {enc : TypeId × Value → H} {w : World} (fuel : Nat)
    (ih : ∀ nn, nn < fuel → ∀ (v : Value) (x : DataW H × List MemPlace), DataW.trod enc Try.prog w 0 (fun _ => true) true nn 48 [v] = some x → (∀ p ∈ x.2, p.block < w.heap.size) →
      ∃ A n c p, v = .slice A n c ∧ n ≤ c ∧ c ≤ maxLen ∧ PR w.heap.size w A n p ∧ p.size ≤ Rows.uptoBulk x.1)
    (cs : List Value) (x : DataW H × List MemPlace) (h : DataW.trod enc Try.prog w 0 (fun _ => true) true fuel 66 cs = some x) (hlt : ∀ p ∈ x.2, p.block < w.heap.size) :
    ∃ (k : Int) (nm : ByteArray) (ca cb : List Value) (ea eb : Ex.X) (D : Option Addr) (dl dc : Nat) (E : Option Addr) (el ec : Nat) (body els : St.P), cs = stcells k nm ca cb D dl dc E el ec ∧ dl ≤ dc ∧ dc ≤ maxLen ∧ el ≤ ec ∧ ec ≤ maxLen ∧
      XR w.heap.size w ca ea ∧ XR w.heap.size w cb eb ∧ PR w.heap.size w D dl body ∧ PR w.heap.size w E el els ∧ 1 + ea.leaves + eb.leaves + body.size + els.size ≤ Rows.uptoBulk x.1 := by
  have hT : Try.prog.underlying 66 = some (.struct (fieldsOf Try.prog 66)) := by kernel_rfl
  obtain ⟨xs, m, rfl, rfl, hl, hxl, hfs⟩ := DataW.trod_struct hT h
  have q0 : (fieldsOf Try.prog 66)[0]?.map (fun f => (f.type, f.offset)) = some (3, 0) := by kernel_rfl
  have q1 : (fieldsOf Try.prog 66)[1]?.map (fun f => (f.type, f.offset)) = some (9, 1) := by kernel_rfl
  have q2 : (fieldsOf Try.prog 66)[2]?.map (fun f => (f.type, f.offset)) = some (64, 2) := by kernel_rfl
  have q3 : (fieldsOf Try.prog 66)[3]?.map (fun f => (f.type, f.offset)) = some (64, 6) := by kernel_rfl
  have q4 : (fieldsOf Try.prog 66)[4]?.map (fun f => (f.type, f.offset)) = some (48, 10) := by kernel_rfl
  have q5 : (fieldsOf Try.prog 66)[5]?.map (fun f => (f.type, f.offset)) = some (48, 11) := by kernel_rfl
  have hsz : (fieldsOf Try.prog 66).size = 6 := by kernel_rfl
  obtain ⟨f0, g0, p0⟩ := Option.map_eq_some_iff.1 q0
  obtain ⟨f1, g1, p1⟩ := Option.map_eq_some_iff.1 q1
  obtain ⟨f2, g2, p2⟩ := Option.map_eq_some_iff.1 q2
  obtain ⟨f3, g3, p3⟩ := Option.map_eq_some_iff.1 q3
  obtain ⟨f4, g4, p4⟩ := Option.map_eq_some_iff.1 q4
  obtain ⟨f5, g5, p5⟩ := Option.map_eq_some_iff.1 q5
  injection p0 with p0 p0'
  injection p1 with p1 p1'
  injection p2 with p2 p2'
  injection p3 with p3 p3'
  injection p4 with p4 p4'
  injection p5 with p5 p5'
  have h0 := hfs 0 f0 g0
  have h1 := hfs 1 f1 g1
  have h2 := hfs 2 f2 g2
  have h3 := hfs 3 f3 g3
  have h4 := hfs 4 f4 g4
  have h5 := hfs 5 f5 g5
  have c0 : Try.prog.cellsOf 3 = 1 := by kernel_rfl
  have c1 : Try.prog.cellsOf 9 = 1 := by kernel_rfl
  have c2 : Try.prog.cellsOf 64 = 4 := by kernel_rfl
  have c4 : Try.prog.cellsOf 48 = 1 := by kernel_rfl
  have cT : Try.prog.cellsOf 66 = 12 := by kernel_rfl
  rw [p0, p0', c0] at h0
  rw [p1, p1', c1] at h1
  rw [p2, p2', c2] at h2
  rw [p3, p3', c2] at h3
  rw [p4, p4', c4] at h4
  rw [p5, p5', c4] at h5
  rw [cT] at hl
  rw [hsz] at hxl
  match xs, hxl, cs, hl with
  | [x0, x1, x2, x3, x4, x5], _, [v0, v1, v2, v3, v4, v5, v6, v7, v8, v9, v10, v11], _ =>
    simp only [List.drop_succ_cons, List.drop_zero, List.take_succ_cons, List.take_zero, List.getElem?_cons_zero, List.getElem?_cons_succ] at h0 h1 h2 h3 h4 h5
    have hlt2 : ∀ p ∈ x2.2, p.block < w.heap.size := fun p hp => hlt p (by simp [hp])
    have hlt3 : ∀ p ∈ x3.2, p.block < w.heap.size := fun p hp => hlt p (by simp [hp])
    have hlt4 : ∀ p ∈ x4.2, p.block < w.heap.size := fun p hp => hlt p (by simp [hp])
    have hlt5 : ∀ p ∈ x5.2, p.block < w.heap.size := fun p hp => hlt p (by simp [hp])
    obtain ⟨k, hk, -, hwk⟩ := DataW.trod_int Try.underlying3 h0
    obtain ⟨s, hs, -, hws⟩ := DataW.trod_string Try.underlying9 h1
    simp only [List.cons.injEq, and_true] at hk hs
    subst hk hs
    obtain ⟨ea, ra, ba⟩ := open_expr _ _ _ h2 hlt2
    obtain ⟨eb, rb, bb⟩ := open_expr _ _ _ h3 hlt3
    obtain ⟨D, dl, dc, body, e4, hd1, hd2, hd3, hd4⟩ := ih _ (by omega) _ _ h4 hlt4
    obtain ⟨E, el, ec, els, e5, he1, he2, he3, he4⟩ := ih _ (by omega) _ _ h5 hlt5
    subst e4 e5
    refine ⟨k, s, _, _, ea, eb, D, dl, dc, E, el, ec, body, els, rfl, hd1, hd2, he1, he2, ra, rb, hd3, he3, ?_⟩
    have hb0 := Ex.bulk_pos x0.1
    simp only [List.map_cons, List.map_nil, Rows.uptoBulk, Rows.uptoBulkAll]
    omega

theorem open_stmts {H : Type} {enc : TypeId × Value → H} {w : World} : ∀ (fuel : Nat) (v : Value) (x : DataW H × List MemPlace), DataW.trod enc Try.prog w 0 (fun _ => true) true fuel 48 [v] = some x → (∀ p ∈ x.2, p.block < w.heap.size) →
    ∃ A n c p, v = .slice A n c ∧ n ≤ c ∧ c ≤ maxLen ∧ PR w.heap.size w A n p ∧ p.size ≤ Rows.uptoBulk x.1 := by
  intro fuel
  induction fuel using Nat.strongRecOn with
  | _ fuel ih =>
    intro v x h hlt
    have cT : Try.prog.cellsOf 66 = 12 := by kernel_rfl
    rcases DataW.trod_slice Try.underlying48 h with ⟨hcs, hx⟩ | ⟨a, len, cap, el, rest, nn, hnn, hcs, hx, -, hle, hm, hlen, hel, hsp, -⟩
    · simp only [List.cons.injEq, and_true] at hcs
      exact ⟨none, 0, 0, .nil, hcs, Nat.le_refl _, Nat.zero_le _, .nil _, Nat.zero_le _⟩
    · simp only [List.cons.injEq, and_true] at hcs
      obtain ⟨b, off, sp⟩ := a
      have kid : ∀ i, i < len → ∃ (y : DataW H × List MemPlace) (cs' : List Value), el[i]? = some y ∧ cs'.length = 12 ∧ (∀ j, j < 12 → w.cell? (((⟨b, off, sp⟩ : Addr).add (i * 12)).add j) = cs'[j]?) ∧ DataW.trod enc Try.prog w 0 (fun _ => true) true nn 66 cs' = some y ∧ (∀ p ∈ y.2, p.block < w.heap.size) := by
        intro i hi
        have h4 := hel i hi
        rw [cT, List.getElem?_eq_getElem (by omega)] at h4
        obtain ⟨cs', hc', htr⟩ := Option.bind_eq_some_iff.1 h4
        obtain ⟨hb0, hl5, hat⟩ := World.cells?_some hc'
        refine ⟨el[i], cs', List.getElem?_eq_getElem (by omega), hl5, hat, htr, fun p hp => hlt p ?_⟩
        rw [hx]
        exact List.mem_append_right _ (List.mem_flatMap.2 ⟨el[i], List.mem_append_left _ (List.getElem_mem _), hp⟩)
      by_cases h0 : len = 0
      · subst h0
        exact ⟨_, 0, cap, .nil, hcs, hle, hm, .nil _, Nat.zero_le _⟩
      have hsp0 : sp = none := by
        obtain ⟨y, cs', hy, hl5, hat, -, -⟩ := kid 0 (by omega)
        have := hat 0 (by decide)
        rw [List.getElem?_eq_getElem (by omega)] at this
        simpa [Addr.add] using World.cell?_spot this
      subst hsp0
      have hrd : ∀ m, m ≤ len → ∃ p, PR w.heap.size w (some ⟨b, off + (len - m) * 12, none⟩) m p ∧ p.size ≤ Rows.uptoBulkAll ((el.map (·.1)).drop (len - m)) := by
        intro m
        induction m with
        | zero => exact fun _ => ⟨.nil, .nil _, Nat.zero_le _⟩
        | succ m ihm =>
          intro hm'
          obtain ⟨p, hp1, hp2⟩ := ihm (by omega)
          obtain ⟨y, cs', hy, hl5, hat, htr, hlty⟩ := kid (len - (m + 1)) (by omega)
          obtain ⟨k, nm, ca, cb, ea, eb, D, dl, dc, E, el', ec, body, els, rfl, hd1, hd2, he1, he2, ra, rb, hd3, he3, hbk⟩ := open_stmt nn (fun n2 hn2 => ih n2 (by omega)) cs' y htr hlty
          have hat' : ∀ j u, (stcells k nm ca cb D dl dc E el' ec)[j]? = some u → w.cell? ⟨b, off + (len - (m + 1)) * 12 + j, none⟩ = some u := fun j u hu => by
            have hj : j < 12 := by
              have := (List.getElem?_eq_some_iff.1 hu).1
              omega
            have := hat j hj
            rw [Addr.add_lit, Addr.add_lit, hu] at this
            exact this
          refine ⟨.cons k nm.data.toList ea eb body els p, .cons b _ m k nm ca cb ea eb D dl dc E el' ec body els p (World.block_lt_of_cell? w _ (hat' 0 _ rfl)) hd1 hd2 he1 he2 hat' ra rb hd3 he3 ?_, ?_⟩
          · rw [show off + (len - (m + 1)) * 12 + 12 = off + (len - m) * 12 by
              rw [show len - m = (len - (m + 1)) + 1 by omega, Nat.add_mul]; omega]
            exact hp1
          · have hdr : (el.map (·.1)).drop (len - (m + 1)) = y.1 :: (el.map (·.1)).drop (len - m) := by
              have hlt' : len - (m + 1) < (el.map (·.1)).length := by rw [List.length_map]; omega
              rw [List.drop_eq_getElem_cons hlt', show len - (m + 1) + 1 = len - m by omega]
              congr 1
              rw [List.getElem_map]
              obtain ⟨h', e⟩ := List.getElem?_eq_some_iff.1 hy
              rw [e]
            rw [hdr, Rows.uptoBulkAll, St.P.size]
            omega
      obtain ⟨p, hp1, hp2⟩ := hrd len (Nat.le_refl _)
      rw [Nat.sub_self, Nat.zero_mul, Nat.add_zero] at hp1
      rw [Nat.sub_self, List.drop_zero] at hp2
      refine ⟨_, len, cap, p, hcs, hle, hm, hp1, ?_⟩
      rw [hx]
      simp only [Rows.uptoBulk]
      omega
end Go.Proofs.Ytajddbmmbhdnfaa
