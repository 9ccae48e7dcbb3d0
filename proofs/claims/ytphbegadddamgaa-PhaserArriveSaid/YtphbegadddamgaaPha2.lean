/-
  Package phaser, walked on: what do makes of an operation that is let; Play.
-/
import Derived.Test.YtphbegadddamgaaPha
import Derived.Test.YtphbegadddamgaaPhaPlain
namespace Go.Proofs.Ytphbegadddamgaa
set_option linter.unusedVariables false
set_option linter.unusedSimpArgs false
open Go.RowKit

theorem known_is (n : Int) (w : World) (b : Bool) (hb : Pha.known n = b) : Calls Try.prog 48 #[.int .i64 n] w fun e w' => e = .returned (.bool b) ∧ w' = w := by
  subst hb
  exact (known_any n w).mono fun e w' ⟨h1, h2⟩ => ⟨h1, h2.symm⟩

theorem Pha.turn_len {p : Pha.St} (h1 : p.inn.length = 16) (h2 : p.here.length = 16) : (Pha.turn p).inn.length = 16 ∧ (Pha.turn p).here.length = 16 := by
  unfold Pha.turn
  split
  · exact ⟨h1, rfl⟩
  · exact ⟨h1, h2⟩

/-- a store into a block of the call's own on top -/
theorem grown_own {a b c : World} {r : Option Nat} {k : Nat} (h : a.grownBy b r) (h' : b.grownBy c (some k)) (hk : a.heap.size ≤ k) : a.grownBy c r :=
  ⟨h'.os.trans h.os, h'.tape.trans h.tape, h'.output.trans h.output, Nat.le_trans h.size h'.size, fun i hi hne => (h'.block i (Nat.lt_of_lt_of_le hi h.size) (fun e => by injection e; omega)).trans (h.block i hi hne)⟩

theorem do_join_no (g : Nat) (p : Pha.St) (h1 : p.inn.length = 16) (h2 : p.here.length = 16) (who by_ : Int) (w : World) (h : Blk w g 74 (pcells p)) (hf : Pha.free p by_ = 0) (hn : (!Pha.known who || Pha.at_ p.inn who) = true) :
    Calls Try.prog 41 #[.pointer (some ⟨g, 0, none⟩), .agg #[.int .i64 1, .int .i64 who, .int .i64 by_]] w (DoP g w (2, 0) p) := by
  have hg := h.lt
  have hR := doRes w 1 who by_
  have hB : Blk _ g _ _ := (h.alloc (.cells #[.int .i64 1, .int .i64 who, .int .i64 by_] 33)).alloc (.cells #[.int .i64 0, .int .i64 0] 38)
  have F := Lib.hid hf
  rcases k : Pha.known who with _ | _
  · clear hf hn
    go_enter Try.func41, Try.ntmps41
    go_wp2_with fail
    refine (free_any g p h1 h2 _ _ hB).mono ?_
    rintro e w1 ⟨rfl, rfl⟩
    rw [F.out]
    go_wp2_with fail
    go_quiet ((go_at_call 48; exact Calls.quiet_of_same (known_is who _ false k)))
    go_wp2_with (refine wpl_put_blk (hR.drewN _) [.int .i64 2, .int .i64 0] (by kernel_rfl) rfl (ints_one' (l := [2, 0])) rfl rfl rfl rfl ?_; intro w3 hR3 hg3)
    have hg4 := grown_undrewN hg3
    refine ret_blk hR3 rfl rfl Try.underlying38 rfl (by kernel_rfl) rfl ⟨rfl, hB.grown hg4 (by simp; omega), ?_⟩
    exact doGrown w w3 g _ who by_ (.inr hg4)
  · obtain ⟨k0, k1⟩ := Pha.known_iff.1 k
    obtain ⟨who, rfl⟩ := Int.eq_ofNat_of_zero_le k0
    have hin : p.inn.getD who false = true := by simpa [k, Pha.at_] using hn
    have c1 := pcell_inn hB h1 who (by omega)
    rw [hin] at c1
    clear hf hn hin
    go_enter Try.func41, Try.ntmps41
    go_wp2_with fail
    refine (free_any g p h1 h2 _ _ hB).mono ?_
    rintro e w1 ⟨rfl, rfl⟩
    rw [F.out]
    go_wp2_with fail
    go_quiet ((go_at_call 48; exact Calls.quiet_of_same (known_is who _ true k)))
    go_wp2_with (refine wpl_put_blk (hR.drewN _) [.int .i64 2, .int .i64 0] (by kernel_rfl) rfl (ints_one' (l := [2, 0])) rfl rfl rfl rfl ?_; intro w3 hR3 hg3)
    have hg4 := grown_undrewN hg3
    refine ret_blk hR3 rfl rfl Try.underlying38 rfl (by kernel_rfl) rfl ⟨rfl, hB.grown hg4 (by simp; omega), ?_⟩
    exact doGrown w w3 g _ who by_ (.inr hg4)

theorem do_join (g : Nat) (p : Pha.St) (h1 : p.inn.length = 16) (h2 : p.here.length = 16) (who by_ : Int) (w : World) (h : Blk w g 74 (pcells p)) (hf : Pha.free p by_ = 0) (hn : (!Pha.known who || Pha.at_ p.inn who) = false) :
    Calls Try.prog 41 #[.pointer (some ⟨g, 0, none⟩), .agg #[.int .i64 1, .int .i64 who, .int .i64 by_]] w (DoP g w (0, p.phase) { p with inn := p.inn.set who.toNat true }) := by
  have hg := h.lt
  have hR := doRes w 1 who by_
  have hB : Blk _ g _ _ := (h.alloc (.cells #[.int .i64 1, .int .i64 who, .int .i64 by_] 33)).alloc (.cells #[.int .i64 0, .int .i64 0] 38)
  have F := Lib.hid hf
  simp only [Bool.or_eq_false_iff, Bool.not_eq_false'] at hn
  obtain ⟨k, hn⟩ := hn
  obtain ⟨k0, k1⟩ := Pha.known_iff.1 k
  obtain ⟨who, rfl⟩ := Int.eq_ofNat_of_zero_le k0
  have hin : p.inn.getD who false = false := by simpa [Pha.at_] using hn
  have c1 := pcell_inn hB h1 who (by omega)
  rw [hin] at c1
  have K := Lib.hid k
  clear hf hn hin k
  go_enter Try.func41, Try.ntmps41
  go_wp2_with fail
  refine (free_any g p h1 h2 _ _ hB).mono ?_
  rintro e w1 ⟨rfl, rfl⟩
  rw [F.out]
  go_wp2_with fail
  go_quiet ((go_at_call 48; exact Calls.quiet_of_same (known_is who _ true K.out)))
  go_wp2_with fail
  have f1 := hB.frozen who
  go_region
  generalize hW : World.setCell (World.drewN _ (nq + 1)) _ _ = w2
  have hB2 : Blk w2 g 74 (pcells ⟨p.inn.set who true, p.here, p.phase⟩) := by
    rw [← hW, ← pcells_set_inn h1 who (by omega)]
    exact (hB.drewN _).set_ who _
  have hR2 : Blk w2 (w.heap.size + 1) 38 [.int .i64 0, .int .i64 0] := by
    rw [← hW]
    exact (hR.drewN _).far (by simp; omega) _
  have hg2 : w.grownBy w2 (some g) := by
    rw [← hW]
    exact grown_trans (grown_alloc _ _ _) (grown_trans (grown_alloc _ _ _) (grown_trans (grown_drewN _ _ _) (grown_setCell _ _ _ _)))
  have hs2 : w.heap.size + 2 ≤ w2.heap.size := by
    rw [← hW]
    simp [World.setCell]
  clear hW c1 f1
  have cP := pcell_phase hB2 (by simpa using h1) h2
  go_wp2_with (refine wpl_put_blk hR2 [.int .i64 0, .int .i64 p.phase] (by kernel_rfl) rfl (ints_one' (l := [0, p.phase])) rfl rfl rfl rfl ?_; intro w3 hR3 hg3)
  refine ret_blk hR3 rfl rfl Try.underlying38 rfl (by kernel_rfl) rfl ⟨rfl, hB2.grown hg3 (by simp; omega), grown_own hg2 hg3 (by omega)⟩

theorem do_next (g : Nat) (p : Pha.St) (h1 : p.inn.length = 16) (h2 : p.here.length = 16) (h3 : 0 ≤ p.phase) (h4 : p.phase ≤ 4611686018427387904) (who by_ : Int) (w : World) (h : Blk w g 74 (pcells p)) (hf : Pha.free p who = 0) :
    Calls Try.prog 41 #[.pointer (some ⟨g, 0, none⟩), .agg #[.int .i64 2, .int .i64 who, .int .i64 by_]] w (DoP g w (0, (Pha.turn { p with here := p.here.set who.toNat true }).phase) (Pha.turn { p with here := p.here.set who.toNat true })) := by
  have hg := h.lt
  have hR := doRes w 2 who by_
  have hB : Blk _ g _ _ := (h.alloc (.cells #[.int .i64 2, .int .i64 who, .int .i64 by_] 33)).alloc (.cells #[.int .i64 0, .int .i64 0] 38)
  have F := Lib.hid hf
  obtain ⟨k0, k1⟩ := Pha.known_iff.1 (Pha.free_zero hf).1
  obtain ⟨who, rfl⟩ := Int.eq_ofNat_of_zero_le k0
  rw [Int.toNat_natCast]
  obtain ⟨q, hq⟩ : ∃ q : Pha.St, q = { p with here := p.here.set who true } := ⟨_, rfl⟩
  have q1 : q.inn.length = 16 := by rw [hq]; exact h1
  have q2 : q.here.length = 16 := by rw [hq]; simpa using h2
  have q3 : 0 ≤ q.phase := by rw [hq]; exact h3
  have q4 : q.phase ≤ 4611686018427387904 := by rw [hq]; exact h4
  have hset := pcells_set_here h1 h2 who (by omega) true
  rw [← hq] at hset ⊢
  have HS := Lib.hid hset
  have Q1 := Lib.hid q1
  have Q2 := Lib.hid q2
  have t1 := Pha.turn_len q1 q2
  have T1 := Lib.hid t1
  have hL := pcells_length h1 h2
  have HL := Lib.hid hL
  clear hf hq hset q1 q2 t1 hL
  go_enter Try.func41, Try.ntmps41
  go_wp2_with fail
  refine (free_any g p h1 h2 _ _ hB).mono ?_
  rintro e w1 ⟨rfl, rfl⟩
  rw [F.out]
  clear h1 h2
  go_wp2_with fail
  go_quiet (fail)
  go_wp2_with (refine wpl_set_blk (hB.drewN _) (16 + who) (.bool true) (by kernel_rfl) (by rw [HL.out]; omega) rfl rfl rfl rfl rfl rfl ?_; intro w2 hB2 hg2; rw [HS.out] at hB2)
  refine (turn_any g q Q1.out Q2.out q3 q4 _ hB2).mono ?_
  rintro e w3 ⟨rfl, hB3, hg3⟩
  have hR3 := ((hR.drewN _).grown hg2 (by simp; omega)).grown hg3 (by simp; omega)
  have cP := pcell_phase hB3 T1.out.1 T1.out.2
  go_wp2_with (refine wpl_put_blk hR3 [.int .i64 0, .int .i64 (Pha.turn q).phase] (by kernel_rfl) rfl (ints_one' (l := [0, (Pha.turn q).phase])) rfl rfl rfl rfl ?_; intro w4 hR4 hg4)
  have hg : w.grownBy w3 (some g) := grown_trans (grown_alloc _ _ _) (grown_trans (grown_alloc _ _ _) (grown_trans (grown_undrewN hg2) hg3))
  refine ret_blk hR4 rfl rfl Try.underlying38 rfl (by kernel_rfl) rfl ⟨rfl, hB3.grown hg4 (by simp; omega), grown_own hg hg4 (by omega)⟩

theorem do_drop (g : Nat) (p : Pha.St) (h1 : p.inn.length = 16) (h2 : p.here.length = 16) (h3 : 0 ≤ p.phase) (h4 : p.phase ≤ 4611686018427387904) (who by_ : Int) (w : World) (h : Blk w g 74 (pcells p)) (hf : Pha.free p who = 0) :
    Calls Try.prog 41 #[.pointer (some ⟨g, 0, none⟩), .agg #[.int .i64 3, .int .i64 who, .int .i64 by_]] w (DoP g w (0, (Pha.turn { p with inn := p.inn.set who.toNat false }).phase) (Pha.turn { p with inn := p.inn.set who.toNat false })) := by
  have hg := h.lt
  have hR := doRes w 3 who by_
  have hB : Blk _ g _ _ := (h.alloc (.cells #[.int .i64 3, .int .i64 who, .int .i64 by_] 33)).alloc (.cells #[.int .i64 0, .int .i64 0] 38)
  have F := Lib.hid hf
  obtain ⟨k0, k1⟩ := Pha.known_iff.1 (Pha.free_zero hf).1
  obtain ⟨who, rfl⟩ := Int.eq_ofNat_of_zero_le k0
  rw [Int.toNat_natCast]
  obtain ⟨q, hq⟩ : ∃ q : Pha.St, q = { p with inn := p.inn.set who false } := ⟨_, rfl⟩
  have q1 : q.inn.length = 16 := by rw [hq]; simpa using h1
  have q2 : q.here.length = 16 := by rw [hq]; exact h2
  have q3 : 0 ≤ q.phase := by rw [hq]; exact h3
  have q4 : q.phase ≤ 4611686018427387904 := by rw [hq]; exact h4
  have hset := pcells_set_inn h1 who (by omega) false
  rw [← hq] at hset ⊢
  have HS := Lib.hid hset
  have Q1 := Lib.hid q1
  have Q2 := Lib.hid q2
  have t1 := Pha.turn_len q1 q2
  have T1 := Lib.hid t1
  have hL := pcells_length h1 h2
  have HL := Lib.hid hL
  clear hf hq hset q1 q2 t1 hL
  go_enter Try.func41, Try.ntmps41
  go_wp2_with fail
  refine (free_any g p h1 h2 _ _ hB).mono ?_
  rintro e w1 ⟨rfl, rfl⟩
  rw [F.out]
  clear h1 h2
  go_wp2_with fail
  go_quiet (fail)
  go_wp2_with (refine wpl_set_blk (hB.drewN _) who (.bool false) (by kernel_rfl) (by rw [HL.out]; omega) rfl rfl rfl rfl rfl rfl ?_; intro w2 hB2 hg2; rw [HS.out] at hB2)
  refine (turn_any g q Q1.out Q2.out q3 q4 _ hB2).mono ?_
  rintro e w3 ⟨rfl, hB3, hg3⟩
  have hR3 := ((hR.drewN _).grown hg2 (by simp; omega)).grown hg3 (by simp; omega)
  have cP := pcell_phase hB3 T1.out.1 T1.out.2
  go_wp2_with (refine wpl_put_blk hR3 [.int .i64 0, .int .i64 (Pha.turn q).phase] (by kernel_rfl) rfl (ints_one' (l := [0, (Pha.turn q).phase])) rfl rfl rfl rfl ?_; intro w4 hR4 hg4)
  have hg : w.grownBy w3 (some g) := grown_trans (grown_alloc _ _ _) (grown_trans (grown_alloc _ _ _) (grown_trans (grown_undrewN hg2) hg3))
  refine ret_blk hR4 rfl rfl Try.underlying38 rfl (by kernel_rfl) rfl ⟨rfl, hB3.grown hg4 (by simp; omega), grown_own hg hg4 (by omega)⟩

theorem do_any (g : Nat) (p : Pha.St) (o : Pha.Op) (h1 : p.inn.length = 16) (h2 : p.here.length = 16) (h3 : 0 ≤ p.phase) (h4 : p.phase ≤ 4611686018427387904) (w : World) (h : Blk w g 74 (pcells p)) :
    Calls Try.prog 41 #[.pointer (some ⟨g, 0, none⟩), opv o] w (DoP g w (Pha.ans p o) (Pha.next p o)) := by
  obtain ⟨kind, who, by_⟩ := o
  show Calls _ _ #[_, .agg #[.int .i64 kind, .int .i64 who, .int .i64 by_]] _ _
  have hfv : ∀ n, Pha.free p n = 0 ∨ Pha.free p n = 7 ∨ Pha.free p n = 8 := fun n => by
    unfold Pha.free
    split
    · exact .inr (.inl rfl)
    · split
      · exact .inr (.inr rfl)
      · exact .inl rfl
  by_cases hk : kind < 1 ∨ 4 < kind
  · have e1 : Pha.ans p ⟨kind, who, by_⟩ = (9, 0) := by simp only [Pha.ans]; rw [if_pos hk]
    have e2 : Pha.next p ⟨kind, who, by_⟩ = p := Pha.next_bad (by
      rw [Bool.eq_false_iff, ne_eq, Pha.good_iff]
      simp only
      omega)
    rw [e1, e2]
    exact do_kind g p kind who by_ w h hk
  · rcases (show kind = 1 ∨ kind = 2 ∨ kind = 3 ∨ kind = 4 by omega) with rfl | rfl | rfl | rfl
    · -- a join
      rcases hfv by_ with hf | hf
      · cases hn : (!Pha.known who || Pha.at_ p.inn who)
        · have he : Pha.err p ⟨1, who, by_⟩ = 0 := by simp [Pha.err, Pha.who, hf, hn]
          have hg : Pha.good p ⟨1, who, by_⟩ = true := (Pha.good_iff _ _).2 ⟨by simp, by simp, he⟩
          rw [Pha.ans_of_good hg, show Pha.next p ⟨1, who, by_⟩ = { p with inn := p.inn.set who.toNat true } by simp [Pha.next, hg, Pha.act]]
          exact do_join g p h1 h2 who by_ w h hf hn
        · have he : Pha.err p ⟨1, who, by_⟩ = 2 := by simp [Pha.err, Pha.who, hf, hn]
          rw [show Pha.ans p ⟨1, who, by_⟩ = (2, 0) by simp [Pha.ans, he], Pha.next_bad (by rw [Bool.eq_false_iff, ne_eq, Pha.good_iff, he]; simp)]
          exact do_join_no g p h1 h2 who by_ w h hf hn
      · have he : Pha.err p ⟨1, who, by_⟩ = Pha.free p by_ := by
          simp only [Pha.err, Pha.who, if_true]
          rw [if_neg (by rcases hf with hf | hf <;> rw [hf] <;> simp)]
        have hne : Pha.free p by_ ≠ 0 := by rcases hf with hf | hf <;> rw [hf] <;> simp
        rw [show Pha.ans p ⟨1, who, by_⟩ = (Pha.free p by_, 0) by simp [Pha.ans, he, hne], Pha.next_bad (by rw [Bool.eq_false_iff, ne_eq, Pha.good_iff, he]; simp [hne])]
        exact do_err g p h1 h2 1 who by_ _ w h (.inl rfl) (by simp) (by simpa using hne) (by simpa using hne)
    · -- one arrives
      have he : Pha.err p ⟨2, who, by_⟩ = Pha.free p who := by simp [Pha.err, Pha.who]
      rcases hfv who with hf | hf
      · have hg : Pha.good p ⟨2, who, by_⟩ = true := (Pha.good_iff _ _).2 ⟨by simp, by simp, by rw [he, hf]⟩
        rw [Pha.ans_of_good hg, show Pha.next p ⟨2, who, by_⟩ = Pha.turn { p with here := p.here.set who.toNat true } by simp [Pha.next, hg, Pha.act]]
        exact do_next g p h1 h2 h3 h4 who by_ w h hf
      · have hne : Pha.free p who ≠ 0 := by rcases hf with hf | hf <;> rw [hf] <;> simp
        rw [show Pha.ans p ⟨2, who, by_⟩ = (Pha.free p who, 0) by simp [Pha.ans, he, hne], Pha.next_bad (by rw [Bool.eq_false_iff, ne_eq, Pha.good_iff, he]; simp [hne])]
        exact do_err g p h1 h2 2 who by_ _ w h (.inr (.inl rfl)) (by simp) (by simpa using hne) (by simpa using hne)
    · -- one leaves
      have he : Pha.err p ⟨3, who, by_⟩ = Pha.free p who := by simp [Pha.err, Pha.who]
      rcases hfv who with hf | hf
      · have hg : Pha.good p ⟨3, who, by_⟩ = true := (Pha.good_iff _ _).2 ⟨by simp, by simp, by rw [he, hf]⟩
        rw [Pha.ans_of_good hg, show Pha.next p ⟨3, who, by_⟩ = Pha.turn { p with inn := p.inn.set who.toNat false } by simp [Pha.next, hg, Pha.act]]
        exact do_drop g p h1 h2 h3 h4 who by_ w h hf
      · have hne : Pha.free p who ≠ 0 := by rcases hf with hf | hf <;> rw [hf] <;> simp
        rw [show Pha.ans p ⟨3, who, by_⟩ = (Pha.free p who, 0) by simp [Pha.ans, he, hne], Pha.next_bad (by rw [Bool.eq_false_iff, ne_eq, Pha.good_iff, he]; simp [hne])]
        exact do_err g p h1 h2 3 who by_ _ w h (.inr (.inr rfl)) (by simp) (by simpa using hne) (by simpa using hne)
    · -- one asks
      have he : Pha.err p ⟨4, who, by_⟩ = Pha.free p who := by simp [Pha.err, Pha.who]
      have e2 : Pha.next p ⟨4, who, by_⟩ = p := by
        unfold Pha.next
        split
        · simp [Pha.act]
        · rfl
      have e1 : Pha.ans p ⟨4, who, by_⟩ = (Pha.free p who, if Pha.free p who = 7 then 0 else p.phase) := by
        rcases hfv who with hf | hf | hf <;> simp [Pha.ans, he, hf, Pha.act]
      rw [e1, e2]
      exact do_ask g p h1 h2 who by_ w h _ rfl (hfv who)
end Go.Proofs.Ytphbegadddamgaa
