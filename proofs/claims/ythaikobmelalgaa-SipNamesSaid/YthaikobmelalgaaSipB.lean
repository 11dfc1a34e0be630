/- The walks of package sip: a round. -/
import Derived.Test.YthaikobmelalgaaSipA
import Derived.RegionTactic
import Derived.BigRegion
import Derived.StillTailTactics
import Derived.Deep.RegionHeld3
import Derived.Deep.Cut
namespace Go.Proofs.Ythaikobmelalgaa
open Go.RowKit

def stV (s : St) : Array Value := #[.int .u64 s.a, .int .u64 s.b, .int .u64 s.c, .int .u64 s.d]

theorem add_nat (x y : Nat) : IntKind.u64.wrap ((x : Int) + (y : Int)) = (((x + y) % 18446744073709551616 : Nat) : Int) := by
  rw [IntKind.wrap_u64]; omega
theorem xor_nat (x y : Nat) (hx : x < 18446744073709551616) (hy : y < 18446744073709551616) : bits .xor .u64 (x : Int) (y : Int) = ((x ^^^ y : Nat) : Int) := bits_xor_u64_nat x y hx hy

/-- A region that draws, reads and calls quietly, and ends in a forced tail; its world under a name. -/
theorem region_tail {P : Program} {id : Nat} {Q : Exit → Act → World → Prop} {a : Act} {w : World} {l : List Oper} (n : Nat) (hm : P.follows .mixedOrders = true) (hB : Region.lexTailB .any l.toArray n = true)
    (h : ∀ w2, w2 = w.drew → wpStill P l.toArray w2 (fun a' => wpList P l.toArray Q (l.drop n) a' w2) (l.take n) a) : (Code.region id l.toArray true).wp P Q a w :=
  wp_region_still_tail n hm hB (h _ rfl)

/-- The block q holds the state s. -/
def StAt (w : World) (q t a b c d : Nat) : Prop := w.heap[q]? = some (.cells #[.int .u64 a, .int .u64 b, .int .u64 c, .int .u64 d] t (0, 0))

theorem StAt.c0 {w : World} {q t a b c d : Nat} (h : StAt w q t a b c d) : w.cell? ⟨q, 0, none⟩ = some (.int .u64 a) := (cell_of h).trans rfl
theorem StAt.c1 {w : World} {q t a b c d : Nat} (h : StAt w q t a b c d) : w.cell? ⟨q, 1, none⟩ = some (.int .u64 b) := (cell_of h).trans rfl
theorem StAt.c2 {w : World} {q t a b c d : Nat} (h : StAt w q t a b c d) : w.cell? ⟨q, 2, none⟩ = some (.int .u64 c) := (cell_of h).trans rfl
theorem StAt.c3 {w : World} {q t a b c d : Nat} (h : StAt w q t a b c d) : w.cell? ⟨q, 3, none⟩ = some (.int .u64 d) := (cell_of h).trans rfl
theorem StAt.fr {w : World} {q t a b c d : Nat} (h : StAt w q t a b c d) (i : Nat) : w.frozen? ⟨q, i, none⟩ = false := free_of h
theorem StAt.s0 {w : World} {q t a b c d : Nat} (h : StAt w q t a b c d) (x : Nat) : StAt (w.setCell ⟨q, 0, none⟩ (.int .u64 x)) q t x b c d := heap_set h _
theorem StAt.s1 {w : World} {q t a b c d : Nat} (h : StAt w q t a b c d) (x : Nat) : StAt (w.setCell ⟨q, 1, none⟩ (.int .u64 x)) q t a x c d := heap_set h _
theorem StAt.s2 {w : World} {q t a b c d : Nat} (h : StAt w q t a b c d) (x : Nat) : StAt (w.setCell ⟨q, 2, none⟩ (.int .u64 x)) q t a b x d := heap_set h _
theorem StAt.s3 {w : World} {q t a b c d : Nat} (h : StAt w q t a b c d) (x : Nat) : StAt (w.setCell ⟨q, 3, none⟩ (.int .u64 x)) q t a b c x := heap_set h _

theorem add_at' (x y z : Nat) (h : z = (x + y) % 18446744073709551616) : ((x : Int) + (y : Int)) % 18446744073709551616 = (z : Int) := by omega
theorem xor_at (x y z : Nat) (hx : x < 18446744073709551616) (hy : y < 18446744073709551616) (h : z = x ^^^ y) : bits .xor .u64 (x : Int) (y : Int) = (z : Int) := by rw [h]; exact bits_xor_u64_nat x y hx hy

theorem rot13' (x r : Nat) (hr : Hid (r = rotN x 13)) (hx : x < 18446744073709551616) (w : World) :
    Calls Try.prog 24 #[.int .u64 x, .int .i64 13] w fun e w' => e = .returned (.int .u64 r) ∧ w' = w :=
  (rot13 x hx w).mono fun e w' h => ⟨by rw [hr.out]; exact h.1, h.2.symm⟩
theorem turn13' (x r : Nat) (hr : Hid (r = rotN x 13)) (hx : x < 18446744073709551616) (w : World) :
    Calls Try.prog 22 #[.int .u64 x, .int .u64 13] w fun e w' => e = .returned (.int .u64 r) ∧ w' = w :=
  (turn13 x hx w).mono fun e w' h => ⟨by rw [hr.out]; exact h.1, h.2.symm⟩
theorem rot16' (x r : Nat) (hr : Hid (r = rotN x 16)) (hx : x < 18446744073709551616) (w : World) :
    Calls Try.prog 24 #[.int .u64 x, .int .i64 16] w fun e w' => e = .returned (.int .u64 r) ∧ w' = w :=
  (rot16 x hx w).mono fun e w' h => ⟨by rw [hr.out]; exact h.1, h.2.symm⟩
theorem turn16' (x r : Nat) (hr : Hid (r = rotN x 16)) (hx : x < 18446744073709551616) (w : World) :
    Calls Try.prog 22 #[.int .u64 x, .int .u64 16] w fun e w' => e = .returned (.int .u64 r) ∧ w' = w :=
  (turn16 x hx w).mono fun e w' h => ⟨by rw [hr.out]; exact h.1, h.2.symm⟩
theorem rot17' (x r : Nat) (hr : Hid (r = rotN x 17)) (hx : x < 18446744073709551616) (w : World) :
    Calls Try.prog 24 #[.int .u64 x, .int .i64 17] w fun e w' => e = .returned (.int .u64 r) ∧ w' = w :=
  (rot17 x hx w).mono fun e w' h => ⟨by rw [hr.out]; exact h.1, h.2.symm⟩
theorem turn17' (x r : Nat) (hr : Hid (r = rotN x 17)) (hx : x < 18446744073709551616) (w : World) :
    Calls Try.prog 22 #[.int .u64 x, .int .u64 17] w fun e w' => e = .returned (.int .u64 r) ∧ w' = w :=
  (turn17 x hx w).mono fun e w' h => ⟨by rw [hr.out]; exact h.1, h.2.symm⟩
theorem rot21' (x r : Nat) (hr : Hid (r = rotN x 21)) (hx : x < 18446744073709551616) (w : World) :
    Calls Try.prog 24 #[.int .u64 x, .int .i64 21] w fun e w' => e = .returned (.int .u64 r) ∧ w' = w :=
  (rot21 x hx w).mono fun e w' h => ⟨by rw [hr.out]; exact h.1, h.2.symm⟩
theorem turn21' (x r : Nat) (hr : Hid (r = rotN x 21)) (hx : x < 18446744073709551616) (w : World) :
    Calls Try.prog 22 #[.int .u64 x, .int .u64 21] w fun e w' => e = .returned (.int .u64 r) ∧ w' = w :=
  (turn21 x hx w).mono fun e w' h => ⟨by rw [hr.out]; exact h.1, h.2.symm⟩
theorem rot32' (x r : Nat) (hr : Hid (r = rotN x 32)) (hx : x < 18446744073709551616) (w : World) :
    Calls Try.prog 24 #[.int .u64 x, .int .i64 32] w fun e w' => e = .returned (.int .u64 r) ∧ w' = w :=
  (rot32 x hx w).mono fun e w' h => ⟨by rw [hr.out]; exact h.1, h.2.symm⟩
theorem turn32' (x r : Nat) (hr : Hid (r = rotN x 32)) (hx : x < 18446744073709551616) (w : World) :
    Calls Try.prog 22 #[.int .u64 x, .int .u64 32] w fun e w' => e = .returned (.int .u64 r) ∧ w' = w :=
  (turn32 x hx w).mono fun e w' h => ⟨by rw [hr.out]; exact h.1, h.2.symm⟩

set_option maxHeartbeats 1000000 in
theorem round_any (a b c d : Nat) (la : a < 18446744073709551616) (lb : b < 18446744073709551616) (lc : c < 18446744073709551616) (ld : d < 18446744073709551616) (w : World) :
    Calls Try.prog 21 #[.agg #[.int .u64 a, .int .u64 b, .int .u64 c, .int .u64 d]] w fun e w' => e = .returned (.agg (stV (roundN ⟨a, b, c, d⟩))) ∧ Chg [] w w' := by
  obtain ⟨a1, ha1⟩ : ∃ x, x = (a + b) % 18446744073709551616 := ⟨_, rfl⟩
  have la1 : a1 < 18446744073709551616 := by rw [ha1]; exact mod_lt' _
  have ea1 : IntKind.u64.wrap ((a : Int) + (b : Int)) = (a1 : Int) := by rw [add_nat, ← ha1]
  obtain ⟨r1, hr1⟩ : ∃ x, x = rotN b 13 := ⟨_, rfl⟩
  have lr1 : r1 < 18446744073709551616 := by rw [hr1]; exact rotN_lt _ _ lb
  have Rr1 := Lib.hid hr1
  obtain ⟨b1, hb1⟩ : ∃ x, x = r1 ^^^ a1 := ⟨_, rfl⟩
  have lb1 : b1 < 18446744073709551616 := by rw [hb1]; exact xor_lt' lr1 la1
  have eb1 := xor_at r1 a1 b1 lr1 la1 hb1
  obtain ⟨a2, ha2⟩ : ∃ x, x = rotN a1 32 := ⟨_, rfl⟩
  have la2 : a2 < 18446744073709551616 := by rw [ha2]; exact rotN_lt _ _ la1
  have Ra2 := Lib.hid ha2
  obtain ⟨c1, hc1⟩ : ∃ x, x = (c + d) % 18446744073709551616 := ⟨_, rfl⟩
  have lc1 : c1 < 18446744073709551616 := by rw [hc1]; exact mod_lt' _
  have ec1 : IntKind.u64.wrap ((c : Int) + (d : Int)) = (c1 : Int) := by rw [add_nat, ← hc1]
  obtain ⟨r2, hr2⟩ : ∃ x, x = rotN d 16 := ⟨_, rfl⟩
  have lr2 : r2 < 18446744073709551616 := by rw [hr2]; exact rotN_lt _ _ ld
  have Rr2 := Lib.hid hr2
  obtain ⟨d1, hd1⟩ : ∃ x, x = r2 ^^^ c1 := ⟨_, rfl⟩
  have ld1 : d1 < 18446744073709551616 := by rw [hd1]; exact xor_lt' lr2 lc1
  have ed1 := xor_at r2 c1 d1 lr2 lc1 hd1
  obtain ⟨a3, ha3⟩ : ∃ x, x = (a2 + d1) % 18446744073709551616 := ⟨_, rfl⟩
  have la3 : a3 < 18446744073709551616 := by rw [ha3]; exact mod_lt' _
  have ea3 : IntKind.u64.wrap ((a2 : Int) + (d1 : Int)) = (a3 : Int) := by rw [add_nat, ← ha3]
  obtain ⟨r3, hr3⟩ : ∃ x, x = rotN d1 21 := ⟨_, rfl⟩
  have lr3 : r3 < 18446744073709551616 := by rw [hr3]; exact rotN_lt _ _ ld1
  have Rr3 := Lib.hid hr3
  obtain ⟨d2, hd2⟩ : ∃ x, x = r3 ^^^ a3 := ⟨_, rfl⟩
  have ld2 : d2 < 18446744073709551616 := by rw [hd2]; exact xor_lt' lr3 la3
  have ed2 := xor_at r3 a3 d2 lr3 la3 hd2
  obtain ⟨c2, hc2⟩ : ∃ x, x = (c1 + b1) % 18446744073709551616 := ⟨_, rfl⟩
  have lc2 : c2 < 18446744073709551616 := by rw [hc2]; exact mod_lt' _
  have ec2 : IntKind.u64.wrap ((c1 : Int) + (b1 : Int)) = (c2 : Int) := by rw [add_nat, ← hc2]
  obtain ⟨r4, hr4⟩ : ∃ x, x = rotN b1 17 := ⟨_, rfl⟩
  have lr4 : r4 < 18446744073709551616 := by rw [hr4]; exact rotN_lt _ _ lb1
  have Rr4 := Lib.hid hr4
  obtain ⟨b2, hb2⟩ : ∃ x, x = r4 ^^^ c2 := ⟨_, rfl⟩
  have lb2 : b2 < 18446744073709551616 := by rw [hb2]; exact xor_lt' lr4 lc2
  have eb2 := xor_at r4 c2 b2 lr4 lc2 hb2
  obtain ⟨c3, hc3⟩ : ∃ x, x = rotN c2 32 := ⟨_, rfl⟩
  have lc3 : c3 < 18446744073709551616 := by rw [hc3]; exact rotN_lt _ _ lc2
  have Rc3 := Lib.hid hc3
  have FIN : Hid (stV (roundN ⟨a, b, c, d⟩) = #[.int .u64 a3, .int .u64 b2, .int .u64 c3, .int .u64 d2]) := by
    refine Lib.hid ?_
    unfold stV roundN
    simp only []
    rw [← ha1, ← hr1, ← hb1, ← ha2, ← hc1, ← hr2, ← hd1, ← ha3, ← hr3, ← hd2, ← hc2, ← hr4, ← hb2, ← hc3]
  clear ha1 hr1 hb1 ha2 hc1 hr2 hd1 ha3 hr3 hd2 hc2 hr4 hb2 hc3
  go_enter Try.func21, Try.ntmps21
  go_wp2_with fail
  obtain ⟨q, hq⟩ : ∃ q, q = w.heap.size := ⟨_, rfl⟩
  refine wp_abs ?_
  intro w0 hw0
  have h0 : StAt w0 q 37 a1 b c d := by
    subst hw0; subst hq; unfold StAt; exact heap_old (heap_new _ _)
  have hc0 : Chg [] w w0 := by rw [hw0]; exact ((Chg.refl _ _).alloc _).alloc _
  have g0 : StAt w0 (q + 1) 37 0 0 0 0 := by
    subst hw0; subst hq; unfold StAt; exact heap_new' _ _ _ (by simp)
  rw [← hq]
  have hq' : w.heap.size ≤ q := by omega
  clear hw0 hq
  refine region_tail 7 (by kernel_rfl) (by kernel_rfl) ?_
  intro v0 hv0
  have j0 : StAt v0 q 37 a1 b c d := by rw [hv0]; exact h0
  have i0 : StAt v0 (q + 1) 37 0 0 0 0 := by rw [hv0]; exact g0
  have d0' : Chg [] w v0 := by rw [hv0]; exact hc0.drew
  clear hv0 h0 g0 hc0
  have k0 := j0.c0
  have k1 := j0.c1
  have k2 := j0.c2
  have k3 := j0.c3
  have f0 := j0.fr 0
  have f1 := j0.fr 1
  have f2 := j0.fr 2
  have f3 := j0.fr 3
  simp only [List.take_succ_cons, List.take_zero, List.drop_succ_cons, List.drop_zero]
  still_step
  still_step
  still_call (rot13' b r1 Rr1 lb _)
  repeat still_step
  refine wpStill_nil ?_
  go_wp2_with (go_at_call 24; refine (rot32' a1 a2 Ra2 la1 _).mono ?_; rintro e w' ⟨rfl, rfl⟩)
  refine wp_abs ?_
  intro w1 hw1
  have h1 : StAt w1 q 37 a2 b1 c1 d := by rw [hw1]; exact (((j0.s1 b1).s0 a2).s2 c1)
  have hc1 : Chg [] w w1 := by rw [hw1]; exact (((d0'.setCell (.inr hq') _).setCell (.inr hq') _).setCell (.inr hq') _)
  have g1 : StAt w1 (q + 1) 37 0 0 0 0 := by rw [hw1]; exact (heap_set_other _ (by omega)).trans ((heap_set_other _ (by omega)).trans ((heap_set_other _ (by omega)).trans (i0)))
  clear hw1 j0 i0 d0' k0 k1 k2 k3 f0 f1 f2 f3
  refine region_tail 7 (by kernel_rfl) (by kernel_rfl) ?_
  intro v1 hv1
  have j1 : StAt v1 q 37 a2 b1 c1 d := by rw [hv1]; exact h1
  have i1 : StAt v1 (q + 1) 37 0 0 0 0 := by rw [hv1]; exact g1
  have d1' : Chg [] w v1 := by rw [hv1]; exact hc1.drew
  clear hv1 h1 g1 hc1
  have k0 := j1.c0
  have k1 := j1.c1
  have k2 := j1.c2
  have k3 := j1.c3
  have f0 := j1.fr 0
  have f1 := j1.fr 1
  have f2 := j1.fr 2
  have f3 := j1.fr 3
  simp only [List.take_succ_cons, List.take_zero, List.drop_succ_cons, List.drop_zero]
  still_step
  still_step
  still_call (rot16' d r2 Rr2 ld _)
  repeat still_step
  refine wpStill_nil ?_
  go_wp2_with fail
  refine wp_abs ?_
  intro w2 hw2
  have h2 : StAt w2 q 37 a3 b1 c1 d1 := by rw [hw2]; exact ((j1.s3 d1).s0 a3)
  have hc2 : Chg [] w w2 := by rw [hw2]; exact ((d1'.setCell (.inr hq') _).setCell (.inr hq') _)
  have g2 : StAt w2 (q + 1) 37 0 0 0 0 := by rw [hw2]; exact (heap_set_other _ (by omega)).trans ((heap_set_other _ (by omega)).trans (i1))
  clear hw2 j1 i1 d1' k0 k1 k2 k3 f0 f1 f2 f3
  refine region_tail 7 (by kernel_rfl) (by kernel_rfl) ?_
  intro v2 hv2
  have j2 : StAt v2 q 37 a3 b1 c1 d1 := by rw [hv2]; exact h2
  have i2 : StAt v2 (q + 1) 37 0 0 0 0 := by rw [hv2]; exact g2
  have d2' : Chg [] w v2 := by rw [hv2]; exact hc2.drew
  clear hv2 h2 g2 hc2
  have k0 := j2.c0
  have k1 := j2.c1
  have k2 := j2.c2
  have k3 := j2.c3
  have f0 := j2.fr 0
  have f1 := j2.fr 1
  have f2 := j2.fr 2
  have f3 := j2.fr 3
  simp only [List.take_succ_cons, List.take_zero, List.drop_succ_cons, List.drop_zero]
  still_step
  still_step
  still_call (rot21' d1 r3 Rr3 ld1 _)
  repeat still_step
  refine wpStill_nil ?_
  go_wp2_with fail
  refine wp_abs ?_
  intro w3 hw3
  have h3 : StAt w3 q 37 a3 b1 c2 d2 := by rw [hw3]; exact ((j2.s3 d2).s2 c2)
  have hc3 : Chg [] w w3 := by rw [hw3]; exact ((d2'.setCell (.inr hq') _).setCell (.inr hq') _)
  have g3 : StAt w3 (q + 1) 37 0 0 0 0 := by rw [hw3]; exact (heap_set_other _ (by omega)).trans ((heap_set_other _ (by omega)).trans (i2))
  clear hw3 j2 i2 d2' k0 k1 k2 k3 f0 f1 f2 f3
  refine region_tail 7 (by kernel_rfl) (by kernel_rfl) ?_
  intro v3 hv3
  have j3 : StAt v3 q 37 a3 b1 c2 d2 := by rw [hv3]; exact h3
  have i3 : StAt v3 (q + 1) 37 0 0 0 0 := by rw [hv3]; exact g3
  have d3' : Chg [] w v3 := by rw [hv3]; exact hc3.drew
  clear hv3 h3 g3 hc3
  have k0 := j3.c0
  have k1 := j3.c1
  have k2 := j3.c2
  have k3 := j3.c3
  have f0 := j3.fr 0
  have f1 := j3.fr 1
  have f2 := j3.fr 2
  have f3 := j3.fr 3
  simp only [List.take_succ_cons, List.take_zero, List.drop_succ_cons, List.drop_zero]
  still_step
  still_step
  still_call (rot17' b1 r4 Rr4 lb1 _)
  repeat still_step
  refine wpStill_nil ?_
  go_upto_region 11 with (go_at_call 24; refine (rot32' c2 c3 Rc3 lc2 _).mono ?_; rintro e w' ⟨rfl, rfl⟩)
  refine wp_abs ?_
  intro w4 hw4
  have h4 : StAt w4 q 37 a3 b2 c3 d2 := by rw [hw4]; exact ((j3.s1 b2).s2 c3)
  have hc4 : Chg [] w w4 := by rw [hw4]; exact ((d3'.setCell (.inr hq') _).setCell (.inr hq') _)
  have g4 : StAt w4 (q + 1) 37 0 0 0 0 := by rw [hw4]; exact (heap_set_other _ (by omega)).trans ((heap_set_other _ (by omega)).trans (i3))
  clear hw4 j3 i3 d3' k0 k1 k2 k3 f0 f1 f2 f3
  have k0 := h4.c0
  have k1 := h4.c1
  have k2 := h4.c2
  have k3 := h4.c3
  have m0 := g4.c0
  have m1 := g4.c1
  have m2 := g4.c2
  have m3 := g4.c3
  have f0 := g4.fr 0
  have f1 := g4.fr 1
  have f2 := g4.fr 2
  have f3 := g4.fr 3
  go_wp2_with fail
  refine bodyPost_ret (v := .agg #[.int .u64 a3, .int .u64 b2, .int .u64 c3, .int .u64 d2]) (by simp [results, Try.results21, go_sem, m0, m1, m2, m3]) rfl ⟨by rw [FIN.out], ?_⟩
  exact ((((hc4.setCell (.inr (by simp; omega)) _).setCell (.inr (by simp; omega)) _).setCell (.inr (by simp; omega)) _).setCell (.inr (by simp; omega)) _)

set_option maxHeartbeats 1000000 in
theorem rround_any (a b c d : Nat) (la : a < 18446744073709551616) (lb : b < 18446744073709551616) (lc : c < 18446744073709551616) (ld : d < 18446744073709551616) (w : World) :
    Calls Try.prog 18 #[.agg #[.int .u64 a, .int .u64 b, .int .u64 c, .int .u64 d]] w fun e w' => e = .returned (.agg (stV (roundN ⟨a, b, c, d⟩))) ∧ Chg [] w w' := by
  obtain ⟨a1, ha1⟩ : ∃ x, x = (a + b) % 18446744073709551616 := ⟨_, rfl⟩
  have la1 : a1 < 18446744073709551616 := by rw [ha1]; exact mod_lt' _
  have ea1 : IntKind.u64.wrap ((a : Int) + (b : Int)) = (a1 : Int) := by rw [add_nat, ← ha1]
  obtain ⟨r1, hr1⟩ : ∃ x, x = rotN b 13 := ⟨_, rfl⟩
  have lr1 : r1 < 18446744073709551616 := by rw [hr1]; exact rotN_lt _ _ lb
  have Rr1 := Lib.hid hr1
  obtain ⟨b1, hb1⟩ : ∃ x, x = r1 ^^^ a1 := ⟨_, rfl⟩
  have lb1 : b1 < 18446744073709551616 := by rw [hb1]; exact xor_lt' lr1 la1
  have eb1 := xor_at r1 a1 b1 lr1 la1 hb1
  obtain ⟨a2, ha2⟩ : ∃ x, x = rotN a1 32 := ⟨_, rfl⟩
  have la2 : a2 < 18446744073709551616 := by rw [ha2]; exact rotN_lt _ _ la1
  have Ra2 := Lib.hid ha2
  obtain ⟨c1, hc1⟩ : ∃ x, x = (c + d) % 18446744073709551616 := ⟨_, rfl⟩
  have lc1 : c1 < 18446744073709551616 := by rw [hc1]; exact mod_lt' _
  have ec1 : IntKind.u64.wrap ((c : Int) + (d : Int)) = (c1 : Int) := by rw [add_nat, ← hc1]
  obtain ⟨r2, hr2⟩ : ∃ x, x = rotN d 16 := ⟨_, rfl⟩
  have lr2 : r2 < 18446744073709551616 := by rw [hr2]; exact rotN_lt _ _ ld
  have Rr2 := Lib.hid hr2
  obtain ⟨d1, hd1⟩ : ∃ x, x = r2 ^^^ c1 := ⟨_, rfl⟩
  have ld1 : d1 < 18446744073709551616 := by rw [hd1]; exact xor_lt' lr2 lc1
  have ed1 := xor_at r2 c1 d1 lr2 lc1 hd1
  obtain ⟨a3, ha3⟩ : ∃ x, x = (a2 + d1) % 18446744073709551616 := ⟨_, rfl⟩
  have la3 : a3 < 18446744073709551616 := by rw [ha3]; exact mod_lt' _
  have ea3 : IntKind.u64.wrap ((a2 : Int) + (d1 : Int)) = (a3 : Int) := by rw [add_nat, ← ha3]
  obtain ⟨r3, hr3⟩ : ∃ x, x = rotN d1 21 := ⟨_, rfl⟩
  have lr3 : r3 < 18446744073709551616 := by rw [hr3]; exact rotN_lt _ _ ld1
  have Rr3 := Lib.hid hr3
  obtain ⟨d2, hd2⟩ : ∃ x, x = r3 ^^^ a3 := ⟨_, rfl⟩
  have ld2 : d2 < 18446744073709551616 := by rw [hd2]; exact xor_lt' lr3 la3
  have ed2 := xor_at r3 a3 d2 lr3 la3 hd2
  obtain ⟨c2, hc2⟩ : ∃ x, x = (c1 + b1) % 18446744073709551616 := ⟨_, rfl⟩
  have lc2 : c2 < 18446744073709551616 := by rw [hc2]; exact mod_lt' _
  have ec2 : IntKind.u64.wrap ((c1 : Int) + (b1 : Int)) = (c2 : Int) := by rw [add_nat, ← hc2]
  obtain ⟨r4, hr4⟩ : ∃ x, x = rotN b1 17 := ⟨_, rfl⟩
  have lr4 : r4 < 18446744073709551616 := by rw [hr4]; exact rotN_lt _ _ lb1
  have Rr4 := Lib.hid hr4
  obtain ⟨b2, hb2⟩ : ∃ x, x = r4 ^^^ c2 := ⟨_, rfl⟩
  have lb2 : b2 < 18446744073709551616 := by rw [hb2]; exact xor_lt' lr4 lc2
  have eb2 := xor_at r4 c2 b2 lr4 lc2 hb2
  obtain ⟨c3, hc3⟩ : ∃ x, x = rotN c2 32 := ⟨_, rfl⟩
  have lc3 : c3 < 18446744073709551616 := by rw [hc3]; exact rotN_lt _ _ lc2
  have Rc3 := Lib.hid hc3
  have FIN : Hid (stV (roundN ⟨a, b, c, d⟩) = #[.int .u64 a3, .int .u64 b2, .int .u64 c3, .int .u64 d2]) := by
    refine Lib.hid ?_
    unfold stV roundN
    simp only []
    rw [← ha1, ← hr1, ← hb1, ← ha2, ← hc1, ← hr2, ← hd1, ← ha3, ← hr3, ← hd2, ← hc2, ← hr4, ← hb2, ← hc3]
  clear ha1 hr1 hb1 ha2 hc1 hr2 hd1 ha3 hr3 hd2 hc2 hr4 hb2 hc3
  go_enter Try.func18, Try.ntmps18
  go_wp2_with fail
  obtain ⟨q, hq⟩ : ∃ q, q = w.heap.size := ⟨_, rfl⟩
  refine wp_abs ?_
  intro w0 hw0
  have h0 : StAt w0 q 36 a1 b c d := by
    subst hw0; subst hq; unfold StAt; exact heap_old (heap_new _ _)
  have hc0 : Chg [] w w0 := by rw [hw0]; exact ((Chg.refl _ _).alloc _).alloc _
  have g0 : StAt w0 (q + 1) 36 0 0 0 0 := by
    subst hw0; subst hq; unfold StAt; exact heap_new' _ _ _ (by simp)
  rw [← hq]
  have hq' : w.heap.size ≤ q := by omega
  clear hw0 hq
  refine region_tail 7 (by kernel_rfl) (by kernel_rfl) ?_
  intro v0 hv0
  have j0 : StAt v0 q 36 a1 b c d := by rw [hv0]; exact h0
  have i0 : StAt v0 (q + 1) 36 0 0 0 0 := by rw [hv0]; exact g0
  have d0' : Chg [] w v0 := by rw [hv0]; exact hc0.drew
  clear hv0 h0 g0 hc0
  have k0 := j0.c0
  have k1 := j0.c1
  have k2 := j0.c2
  have k3 := j0.c3
  have f0 := j0.fr 0
  have f1 := j0.fr 1
  have f2 := j0.fr 2
  have f3 := j0.fr 3
  simp only [List.take_succ_cons, List.take_zero, List.drop_succ_cons, List.drop_zero]
  still_step
  still_step
  still_call (turn13' b r1 Rr1 lb _)
  repeat still_step
  refine wpStill_nil ?_
  go_wp2_with (go_at_call 22; refine (turn32' a1 a2 Ra2 la1 _).mono ?_; rintro e w' ⟨rfl, rfl⟩)
  refine wp_abs ?_
  intro w1 hw1
  have h1 : StAt w1 q 36 a2 b1 c1 d := by rw [hw1]; exact (((j0.s1 b1).s0 a2).s2 c1)
  have hc1 : Chg [] w w1 := by rw [hw1]; exact (((d0'.setCell (.inr hq') _).setCell (.inr hq') _).setCell (.inr hq') _)
  have g1 : StAt w1 (q + 1) 36 0 0 0 0 := by rw [hw1]; exact (heap_set_other _ (by omega)).trans ((heap_set_other _ (by omega)).trans ((heap_set_other _ (by omega)).trans (i0)))
  clear hw1 j0 i0 d0' k0 k1 k2 k3 f0 f1 f2 f3
  refine region_tail 7 (by kernel_rfl) (by kernel_rfl) ?_
  intro v1 hv1
  have j1 : StAt v1 q 36 a2 b1 c1 d := by rw [hv1]; exact h1
  have i1 : StAt v1 (q + 1) 36 0 0 0 0 := by rw [hv1]; exact g1
  have d1' : Chg [] w v1 := by rw [hv1]; exact hc1.drew
  clear hv1 h1 g1 hc1
  have k0 := j1.c0
  have k1 := j1.c1
  have k2 := j1.c2
  have k3 := j1.c3
  have f0 := j1.fr 0
  have f1 := j1.fr 1
  have f2 := j1.fr 2
  have f3 := j1.fr 3
  simp only [List.take_succ_cons, List.take_zero, List.drop_succ_cons, List.drop_zero]
  still_step
  still_step
  still_call (turn16' d r2 Rr2 ld _)
  repeat still_step
  refine wpStill_nil ?_
  go_wp2_with fail
  refine wp_abs ?_
  intro w2 hw2
  have h2 : StAt w2 q 36 a3 b1 c1 d1 := by rw [hw2]; exact ((j1.s3 d1).s0 a3)
  have hc2 : Chg [] w w2 := by rw [hw2]; exact ((d1'.setCell (.inr hq') _).setCell (.inr hq') _)
  have g2 : StAt w2 (q + 1) 36 0 0 0 0 := by rw [hw2]; exact (heap_set_other _ (by omega)).trans ((heap_set_other _ (by omega)).trans (i1))
  clear hw2 j1 i1 d1' k0 k1 k2 k3 f0 f1 f2 f3
  refine region_tail 7 (by kernel_rfl) (by kernel_rfl) ?_
  intro v2 hv2
  have j2 : StAt v2 q 36 a3 b1 c1 d1 := by rw [hv2]; exact h2
  have i2 : StAt v2 (q + 1) 36 0 0 0 0 := by rw [hv2]; exact g2
  have d2' : Chg [] w v2 := by rw [hv2]; exact hc2.drew
  clear hv2 h2 g2 hc2
  have k0 := j2.c0
  have k1 := j2.c1
  have k2 := j2.c2
  have k3 := j2.c3
  have f0 := j2.fr 0
  have f1 := j2.fr 1
  have f2 := j2.fr 2
  have f3 := j2.fr 3
  simp only [List.take_succ_cons, List.take_zero, List.drop_succ_cons, List.drop_zero]
  still_step
  still_step
  still_call (turn21' d1 r3 Rr3 ld1 _)
  repeat still_step
  refine wpStill_nil ?_
  go_wp2_with fail
  refine wp_abs ?_
  intro w3 hw3
  have h3 : StAt w3 q 36 a3 b1 c2 d2 := by rw [hw3]; exact ((j2.s3 d2).s2 c2)
  have hc3 : Chg [] w w3 := by rw [hw3]; exact ((d2'.setCell (.inr hq') _).setCell (.inr hq') _)
  have g3 : StAt w3 (q + 1) 36 0 0 0 0 := by rw [hw3]; exact (heap_set_other _ (by omega)).trans ((heap_set_other _ (by omega)).trans (i2))
  clear hw3 j2 i2 d2' k0 k1 k2 k3 f0 f1 f2 f3
  refine region_tail 7 (by kernel_rfl) (by kernel_rfl) ?_
  intro v3 hv3
  have j3 : StAt v3 q 36 a3 b1 c2 d2 := by rw [hv3]; exact h3
  have i3 : StAt v3 (q + 1) 36 0 0 0 0 := by rw [hv3]; exact g3
  have d3' : Chg [] w v3 := by rw [hv3]; exact hc3.drew
  clear hv3 h3 g3 hc3
  have k0 := j3.c0
  have k1 := j3.c1
  have k2 := j3.c2
  have k3 := j3.c3
  have f0 := j3.fr 0
  have f1 := j3.fr 1
  have f2 := j3.fr 2
  have f3 := j3.fr 3
  simp only [List.take_succ_cons, List.take_zero, List.drop_succ_cons, List.drop_zero]
  still_step
  still_step
  still_call (turn17' b1 r4 Rr4 lb1 _)
  repeat still_step
  refine wpStill_nil ?_
  go_upto_region 11 with (go_at_call 22; refine (turn32' c2 c3 Rc3 lc2 _).mono ?_; rintro e w' ⟨rfl, rfl⟩)
  refine wp_abs ?_
  intro w4 hw4
  have h4 : StAt w4 q 36 a3 b2 c3 d2 := by rw [hw4]; exact ((j3.s1 b2).s2 c3)
  have hc4 : Chg [] w w4 := by rw [hw4]; exact ((d3'.setCell (.inr hq') _).setCell (.inr hq') _)
  have g4 : StAt w4 (q + 1) 36 0 0 0 0 := by rw [hw4]; exact (heap_set_other _ (by omega)).trans ((heap_set_other _ (by omega)).trans (i3))
  clear hw4 j3 i3 d3' k0 k1 k2 k3 f0 f1 f2 f3
  have k0 := h4.c0
  have k1 := h4.c1
  have k2 := h4.c2
  have k3 := h4.c3
  have m0 := g4.c0
  have m1 := g4.c1
  have m2 := g4.c2
  have m3 := g4.c3
  have f0 := g4.fr 0
  have f1 := g4.fr 1
  have f2 := g4.fr 2
  have f3 := g4.fr 3
  go_wp2_with fail
  refine bodyPost_ret (v := .agg #[.int .u64 a3, .int .u64 b2, .int .u64 c3, .int .u64 d2]) (by simp [results, Try.results18, go_sem, m0, m1, m2, m3]) rfl ⟨by rw [FIN.out], ?_⟩
  exact ((((hc4.setCell (.inr (by simp; omega)) _).setCell (.inr (by simp; omega)) _).setCell (.inr (by simp; omega)) _).setCell (.inr (by simp; omega)) _)

end Go.Proofs.Ythaikobmelalgaa
