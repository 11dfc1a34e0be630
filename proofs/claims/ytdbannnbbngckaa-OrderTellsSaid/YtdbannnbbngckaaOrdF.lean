/- Order at any book; the walks of awake, long, book. -/
import Derived.Test.YtdbannnbbngckaaOrdE
import Derived.Test.YtdbannnbbngckaaBoth20
import Derived.Test.YtdbannnbbngckaaCase20
namespace Go.Proofs.Ytdbannnbbngckaa
open Go.RowKit

theorem order_any (b r L R t seed used : Nat) (l : List Nat) (us : List Up) (ord : List Nat) (w : World) (h : Book w b r L R us) (ht : D.TapeAt w t seed l used) (hu : used < 4000000000000000000) (hO : Hid (ordN us (D.drawN seed l) used = ord)) :
    Calls Try.prog 12 #[.pointer (some ⟨b, 0, none⟩), .pointer (some ⟨t, 0, none⟩)] w (OrderPost b r L R t seed used l us ord w) := by
  rw [← hO.out]
  by_cases hml : mayN us = []
  · exact order_none b r L R t seed used l us w h ht hml
  · exact order_some b r L R t seed used l us w h ht hu (List.length_pos_iff.2 hml)

theorem ex20a : ordN (newB 3) (D.drawN 0 [0, 0]) 0 = [1, 2, 0] := by decide +kernel
theorem ex20b : ordN (disI 50 10 (newB 3) 1 5) (D.drawN 0 [0, 0]) 0 = [2, 0, 1] := by decide +kernel

set_option maxRecDepth 100000 in
set_option maxHeartbeats 2000000 in
theorem awake_any (w : World) : Calls Try.prog 8 #[] w fun e w' => e = .returned (.bool true) ∧ Chg [] w w' := by
  have H1 : Hid (ordN (newB 3) (D.drawN 0 [0, 0]) 0 = [1, 2, 0]) := Lib.hid ex20a
  have H2 : Hid (ordN (disI 50 10 (newB 3) 1 5) (D.drawN 0 [0, 0]) 0 = [2, 0, 1]) := Lib.hid ex20b
  have H3 : Hid (errB (hasB (newB 3) 1 && nowB 5) = 0) := Lib.hid (by decide)
  go_enter Try.func8, Try.ntmps8
  go_wp2_with fail
  refine (new_any 3 50 10 _ (by decide) (by decide) (by decide) (by decide) (by decide)).mono ?_
  rintro e w1 ⟨b, r, rfl, hwb, hwr, h1, hC1⟩
  go_wp2_with fail
  refine (D.new_any 0 _ [0, 0] _ (by decide) (by decide) (D.reads_heap (heap_new' _ _ _ rfl))).mono ?_
  rintro e w2 ⟨t, rfl, hwt, t2, hc2⟩
  have hcx : Chg [] w1 w2 := ((Chg.refl [] _).alloc _).trans hc2
  have h2 := h1.chg hcx (by simp) (by simp)
  have hC2 := hC1.trans hcx
  have hwt2 : w.heap.size ≤ t := by have := hC1.size; simp at hwt; omega
  clear h1 hC1 hcx hc2 hwt
  go_wp2_with fail
  refine (order_any b r 50 10 t 0 0 [0, 0] (newB 3) [1, 2, 0] _ h2 t2 (by decide) H1).mono ?_
  rintro e w3 ⟨a3, c3, rfl, own3, h3, t3, hc3⟩
  have hC3 : Chg [] w w3 := hC2.trans_new hc3 (by simpa using hwt2)
  have OWN3 := Lib.hid own3
  clear h2 t2 hC2 hc3 own3 t3 hwt2
  go_wp2_with fail
  refine (ints_c _ _ [1, 2, 0] [1, 2, 0] true (Lib.hid rfl) _ (row_chg (row_of_own OWN3.out) ((Chg.refl [] _).alloc _)) (Row.of_heap (heap_new' _ _ _ rfl)) (by decide) (by decide)).mono ?_
  rintro e w4 ⟨rfl, hc4⟩
  have hcx : Chg [] w3 w4 := ((Chg.refl [] _).alloc _).trans hc4
  have h4 := h3.chg hcx (by simp) (by simp)
  have hC4 := hC3.trans hcx
  clear h3 hC3 hcx hc4 OWN3
  go_wp2_with fail
  refine (dissent_v b r 50 10 _ 1 5 _ 0 _ h4 H3 (Lib.hid rfl)).mono ?_
  rintro e w5 ⟨rfl, h5, hc5⟩
  have hC5 : Chg [] w w5 := hC4.trans_new hc5 (by simpa using hwr)
  clear h4 hC4 hc5
  go_wp2_with fail
  refine (D.new_any 0 _ [0, 0] _ (by decide) (by decide) (D.reads_heap (heap_new' _ _ _ rfl))).mono ?_
  rintro e w6 ⟨t', rfl, hwt, t6, hc6⟩
  have hcx : Chg [] w5 w6 := ((Chg.refl [] _).alloc _).trans hc6
  have h6 := h5.chg hcx (by simp) (by simp)
  have hC6 := hC5.trans hcx
  have hwt2 : w.heap.size ≤ t' := by have := hC5.size; simp at hwt; omega
  clear h5 hC5 hcx hc6 hwt
  go_wp2_with fail
  refine (order_any b r 50 10 t' 0 0 [0, 0] _ [2, 0, 1] _ h6 t6 (by decide) H2).mono ?_
  rintro e w7 ⟨a7, c7, rfl, own7, h7, t7, hc7⟩
  have hC7 : Chg [] w w7 := hC6.trans_new hc7 (by simpa using hwt2)
  have OWN7 := Lib.hid own7
  clear h6 t6 hC6 hc7 own7 t7 hwt2 h7
  go_wp2_with fail
  refine (ints_c _ _ [2, 0, 1] [2, 0, 1] true (Lib.hid rfl) _ (row_chg (row_of_own OWN7.out) ((Chg.refl [] _).alloc _)) (Row.of_heap (heap_new' _ _ _ rfl)) (by decide) (by decide)).mono ?_
  rintro e w8 ⟨rfl, hc8⟩
  have hC8 : Chg [] w w8 := (hC7.alloc _).trans hc8
  go_wp2
  go_ret
  exact ⟨rfl, hC8⟩

/-- A case in a box. -/
def CaseAt (w : World) (p : Nat) (C : CaseT) : Prop := w.heap[p]? = some (.cells (caseA C) 44 (0, 0))
structure CaseCells (w : World) (p : Nat) (C : CaseT) : Prop where
  c0 : w.cell? ⟨p, 0, none⟩ = some (.int .i64 C.x)
  c1 : w.cell? ⟨p, 1, none⟩ = some (.int .i64 C.y)
  c2 : w.cell? ⟨p, 2, none⟩ = some (.int .i64 C.z)
  c3 : w.cell? ⟨p, 3, none⟩ = some (.slice C.a C.acts.length C.ac)
  c4 : w.cell? ⟨p, 4, none⟩ = some (.int .u64 C.seed)
  c5 : w.cell? ⟨p, 5, none⟩ = some (.slice C.f C.fl C.fc)
theorem CaseAt.cells {w : World} {p : Nat} {C : CaseT} (h : CaseAt w p C) : CaseCells w p C :=
  ⟨(cell_of h).trans rfl, (cell_of h).trans rfl, (cell_of h).trans rfl, (cell_of h).trans rfl, (cell_of h).trans rfl, (cell_of h).trans rfl⟩

theorem long_any (C : CaseT) (B : Bool) (hB : Hid (B = (decide (500 < C.acts.length) || decide (500 < C.fl)))) (w : World) :
    Calls Try.prog 19 #[.agg (caseA C)] w fun e w' => e = .returned (.bool B) ∧ Chg [] w w' := by
  unfold caseA
  by_cases h1 : 500 < C.acts.length
  · have e : B = true := by rw [hB.out]; simp [h1]
    subst e
    have i1 : (500 : Int) < (C.acts.length : Int) := by omega
    clear hB
    go_enter Try.func19, Try.ntmps19
    go_wp2
    go_ret
    exact ⟨rfl, (Chg.refl _ _).alloc _⟩
  · have d1 : decide (500 < C.acts.length) = false := by simpa using h1
    have i1 : decide ((500 : Int) < (C.acts.length : Int)) = false := by simp; omega
    by_cases h2 : 500 < C.fl
    · have e : B = true := by rw [hB.out]; simp [h2]
      subst e
      have i2 : (500 : Int) < (C.fl : Int) := by omega
      clear hB h1
      go_enter Try.func19, Try.ntmps19
      go_wp2
      go_ret
      exact ⟨rfl, (Chg.refl _ _).alloc _⟩
    · have d2 : decide (500 < C.fl) = false := by simpa using h2
      have e : B = false := by rw [hB.out, d1, d2]; rfl
      subst e
      have i2 : decide ((500 : Int) < (C.fl : Int)) = false := by simp; omega
      clear hB h1 h2
      go_enter Try.func19, Try.ntmps19
      go_wp2
      go_ret
      exact ⟨rfl, (Chg.refl _ _).alloc _⟩

theorem book_out (C : CaseT) (w : World) (h : C.x < 1 ∨ 9 < C.x ∨ C.x % 2 = 0 ∨ C.y < 1 ∨ 100 < C.y ∨ C.z < 1 ∨ 100000 < C.z) :
    Calls Try.prog 20 #[.agg (caseA C)] w fun e w' => e = .returned (.tuple #[.pointer none, .pointer none]) ∧ Chg [] w w' := by
  have HNR := Lib.hid h
  clear h
  unfold caseA
  go_enter Try.func20, Try.ntmps20
  go_wp2_with fail
  refine (newOut_any C.x C.y C.z _ HNR.out).mono ?_
  rintro e w1 ⟨rfl, rfl⟩
  go_wp2_with fail
  refine (rnewOut_any C.x C.y C.z _ HNR.out).mono ?_
  rintro e w1 ⟨rfl, rfl⟩
  go_wp2
  go_ret2
  exact ⟨rfl, (Chg.refl _ _).alloc _⟩

/-- What 'book' leaves. -/
def BookPost (L R : Nat) (us : List Up) (w : World) (e : Ending) (w' : World) : Prop :=
  ∃ b r q s, e = .returned (.tuple #[.pointer (some ⟨b, 0, none⟩), .pointer (some ⟨q, 0, none⟩)]) ∧ Both w' b r q s L R us ∧ Lie w.heap.size b r q s ∧ w.heap.size ≤ b ∧ Chg [] w w'
/-- A case of numbers that may be. -/
structure CaseIn (C : CaseT) (n L R : Nat) : Prop where
  x : C.x = n
  y : C.y = L
  z : C.z = R
  n5 : n = 1 ∨ n = 3 ∨ n = 5 ∨ n = 7 ∨ n = 9
  L1 : 1 ≤ L
  L2 : L ≤ 100
  R1 : 1 ≤ R
  R2 : R ≤ 100000

def BookR (p b r q s L R : Nat) (C : CaseT) (us : List Up) (w : World) (i : Value) (wr : World) : Prop :=
  ∃ j : Nat, j ≤ C.acts.length ∧ i = .int .i64 j ∧ CaseAt wr p C ∧ Both wr b r q s L R (foldB L R us (C.acts.take j)) ∧ Chg [] w wr
theorem CaseAt.chg {w w' : World} {S : List Nat} {p : Nat} {C : CaseT} (h : CaseAt w p C) (hc : Chg S w w') (hp : p ∉ S) : CaseAt w' p C := hc.keep h hp

end Go.Proofs.Ytdbannnbbngckaa
