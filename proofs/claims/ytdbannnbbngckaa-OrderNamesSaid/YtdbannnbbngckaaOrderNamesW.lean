/- The walk of OrderNames. -/
import Derived.Test.YtdbannnbbngckaaOrdF
namespace Go.Proofs.Ytdbannnbbngckaa
open Go.RowKit

/-- The block holds a book that nobody made. -/
def FreshAt (w : World) (b : Nat) : Prop := w.heap[b]? = some (.cells #[.int .i64 0, .int .i64 0, .slice none 0 0] 37 (0, 0))
theorem may_fresh (b : Nat) (w : World) (h : FreshAt w b) :
    Calls Try.prog 21 #[.pointer (some ⟨b, 0, none⟩)] w fun e w' => e = .returned (.slice none 0 0) ∧ w = w' := by
  have c2 : w.cell? ⟨b, 2, none⟩ = some (.slice none 0 0) := (cell_of h).trans rfl
  go_enter Try.func21, Try.ntmps21
  go_wp2
  go_loop [3, 13] (fun v i => v = .slice none 0 0 ∧ i = .int .i64 0) (fun _ _ => 0)
  case atStart => exact ⟨rfl, rfl⟩
  case round =>
    obtain ⟨rfl, rfl⟩ := hrel
    go_wp2
    go_ret
    exact ⟨rfl, rfl⟩
theorem order_nil1 (t : Option Addr) (w : World) :
    Calls Try.prog 12 #[.pointer none, .pointer t] w fun e w' => e = .returned (.slice none 0 0) ∧ w = w' := by
  go_enter Try.func12, Try.ntmps12
  go_wp2
  go_ret
  exact ⟨rfl, rfl⟩
theorem order_nil2 (b : Nat) (w : World) :
    Calls Try.prog 12 #[.pointer (some ⟨b, 0, none⟩), .pointer none] w fun e w' => e = .returned (.slice none 0 0) ∧ w = w' := by
  go_enter Try.func12, Try.ntmps12
  go_wp2
  go_ret
  exact ⟨rfl, rfl⟩
set_option maxHeartbeats 1000000 in
theorem order_fresh (b t : Nat) (w : World) (h : FreshAt w b) :
    Calls Try.prog 12 #[.pointer (some ⟨b, 0, none⟩), .pointer (some ⟨t, 0, none⟩)] w fun e w' => e = .returned (.slice none 0 0) ∧ Chg [] w w' := by
  obtain ⟨i0, hi0, hz0, hz1, hz2⟩ := info_parts Try.elemEnt
  go_enter Try.func12, Try.ntmps12
  go_wp2_with fail
  refine (may_fresh b _ h).mono ?_
  rintro e w1 ⟨rfl, rfl⟩
  go_wp2_with (at_make; refine wpList_make_own _ rfl _ _ 69 rfl w.heap.size 71 i0 _ 3 Try.underlying69 hi0 hz0 hz1 .i64 .i64 _ 0 rfl rfl rfl (by omega) (by unfold maxLen; omega) (Nat.le_refl _) ?_; intro w2 own2 hg2)
  have hc2 : Chg [] w w2 := (Chg.refl _ _).grown hg2 (by simp)
  clear own2 hg2
  refine (D.shuffle_out (some ⟨t, 0, none⟩) 0 _ (by omega)).mono ?_
  rintro e w3 ⟨rfl, rfl⟩
  go_wp2_with fail
  go_loop [6, 29] (fun v i => v = .slice (some ⟨w.heap.size, 0, none⟩) 0 0 ∧ i = .int .i64 0) (fun _ _ => 0)
  case atStart => exact ⟨rfl, rfl⟩
  case round =>
    obtain ⟨rfl, rfl⟩ := hrel
    have hcf : cmpF = .func (.func 33) #[] #[] := rfl
    go_wp2_with fail
    rw [← hcf]
    refine (sort_none _ _ _).mono ?_
    rintro e w4 ⟨rfl, rfl⟩
    go_wp2_with fail
    go_loop [10, 53] (fun v i => v = .slice none 0 0 ∧ i = .int .i64 0) (fun _ _ => 0)
    case atStart => exact ⟨rfl, rfl⟩
    case round =>
      obtain ⟨rfl, rfl⟩ := hrel
      go_wp2
      go_ret
      exact ⟨rfl, hc2⟩

def u1 : List Up := disI 95 10 (newB 3) 0 100
def u2 : List Up := backB 95 110 u1
def u3 : List Up := disI 95 10 u2 2 110
def u4 : List Up := disI 95 10 u3 2 110

set_option maxRecDepth 100000 in
set_option maxHeartbeats 4000000 in
theorem orderNames_walk (w : World) :
    Calls Try.prog 3 #[] w fun e w' => e = .returned (.bool true) ∧ Below w.heap.size w w' := by
  have E1 : Hid (ordN (newB 1) (D.drawN 0 [5]) 0 = [0]) := Lib.hid (by decide +kernel)
  have E2 : Hid (ordN u1 (D.drawN 0 [1]) 0 = [1, 2]) := Lib.hid (by decide +kernel)
  have E3 : Hid (ordN u1 (D.drawN 0 [0]) 0 = [2, 1]) := Lib.hid (by decide +kernel)
  have E4 : Hid (ordN u4 (D.drawN 0 [1, 1]) 0 = [1, 0]) := Lib.hid (by decide +kernel)
  have E5 : Hid (0 + ((mayN (newB 1)).length - 1) = 0) := Lib.hid (by decide +kernel)
  have F1 : Hid ((getB u1 0).rests = true) := Lib.hid (by decide +kernel)
  have F2 : Hid ((getB u4 0).trial = true) := Lib.hid (by decide +kernel)
  have F3 : Hid ((getB u4 0).score = 95) := Lib.hid (by decide +kernel)
  have F4 : Hid ((getB u4 2).rests = true) := Lib.hid (by decide +kernel)
  go_enter Try.func3, Try.ntmps3
  go_wp2_with fail
  refine (awake_any _).mono ?_
  rintro e w1 ⟨rfl, hC1⟩
  go_wp2_with fail
  refine (new_any 1 1 1 _ (by decide) (by decide) (by decide) (by decide) (by decide)).mono ?_
  rintro e w2 ⟨b, r, rfl, hwb, hwr, b2, hc2⟩
  have hC2 := hC1.trans hc2
  have hwr' : w.heap.size ≤ r := by have := hC1.size; omega
  clear hC1 hc2 hwb hwr
  go_wp2_with fail
  refine (D.new_any 0 _ [5] _ (by decide) (by decide) (D.reads_heap (heap_new' _ _ _ rfl))).mono ?_
  rintro e w3 ⟨t, rfl, hwt, t3, hc3⟩
  have hcx : Chg [] w2 w3 := ((Chg.refl [] _).alloc _).trans hc3
  have b3 := b2.chg hcx (by simp) (by simp)
  have hC3 := hC2.trans hcx
  have hwt' : w.heap.size ≤ t := by have := hC2.size; simp at hwt; omega
  clear b2 hC2 hcx hc3 hwt
  go_wp2_with fail
  refine (order_any b r 1 1 t 0 0 [5] _ [0] _ b3 t3 (by decide) E1).mono ?_
  rintro e w4 ⟨a4, c4, rfl, own4, b4, t4, hc4⟩
  rw [E5.out] at t4
  have hC4 : Chg [] w w4 := hC3.trans_new hc4 (by simpa using hwt')
  have OWN4 := Lib.hid own4
  clear b3 t3 hC3 hc4 own4
  go_wp2_with fail
  refine (ints_c _ _ [0] [0] true (Lib.hid rfl) _ (row_chg (row_of_own OWN4.out) ((Chg.refl [] _).alloc _)) (Row.of_heap (heap_new' _ _ _ rfl)) (by decide) (by decide)).mono ?_
  rintro e w5 ⟨rfl, hc5⟩
  have hcx : Chg [] w4 w5 := ((Chg.refl [] _).alloc _).trans hc5
  have t5 := t4.chg hcx (by simp) (by simp)
  have b5 := b4.chg hcx (by simp) (by simp)
  have hC5 := hC4.trans hcx
  clear b4 t4 hC4 hcx hc5 OWN4
  go_wp2_with fail
  refine (D.used_any t 0 [5] 0 _ t5).mono ?_
  rintro e w6 ⟨rfl, rfl⟩
  go_wp2_with fail
  refine (order_nil1 _ _).mono ?_
  rintro e w6 ⟨rfl, rfl⟩
  go_wp2_with fail
  refine (order_nil2 b _).mono ?_
  rintro e w6 ⟨rfl, rfl⟩
  go_wp2_with fail
  refine (order_fresh _ t _ (heap_new' _ _ _ rfl)).mono ?_
  rintro e w6 ⟨rfl, hc6⟩
  have hcx : Chg [] w5 w6 := ((Chg.refl [] _).alloc _).trans hc6
  have t6 := t5.chg hcx (by simp) (by simp)
  have hC6 := hC5.trans hcx
  clear t5 b5 hC5 hcx hc6
  go_wp2_with fail
  refine (D.used_any t 0 [5] 0 _ t6).mono ?_
  rintro e w7 ⟨rfl, rfl⟩
  clear t6
  go_wp2_with fail
  refine (new_any 3 95 10 _ (by decide) (by decide) (by decide) (by decide) (by decide)).mono ?_
  rintro e w7 ⟨b, r, rfl, hwb, hwr, b7, hc7⟩
  have hC7 := hC6.trans hc7
  have hwr' : w.heap.size ≤ r := by have := hC6.size; omega
  clear hC6 hc7 hwb hwr
  go_wp2_with fail
  refine (dissent_v b r 95 10 _ 0 100 _ _ u1 b7 (Lib.hid rfl) (Lib.hid rfl)).mono ?_
  rintro e w8 ⟨rfl, b8, hc8⟩
  have hC8 : Chg [] w w8 := hC7.trans_new hc8 (by simpa using hwr')
  clear b7 hC7 hc8
  go_wp2_with fail
  refine (rests_v b r 95 10 _ 0 _ true b8 F1).mono ?_
  rintro e w9 ⟨rfl, rfl⟩
  go_wp2_with fail
  refine (D.new_any 0 _ [1] _ (by decide) (by decide) (D.reads_heap (heap_new' _ _ _ rfl))).mono ?_
  rintro e w9 ⟨t, rfl, hwt, t9, hc9⟩
  have hcx : Chg [] w8 w9 := ((Chg.refl [] _).alloc _).trans hc9
  have b9 := b8.chg hcx (by simp) (by simp)
  have hC9 := hC8.trans hcx
  have hwt' : w.heap.size ≤ t := by have := hC8.size; simp at hwt; omega
  clear b8 hC8 hcx hc9 hwt
  go_wp2_with fail
  refine (order_any b r 95 10 t 0 0 [1] _ [1, 2] _ b9 t9 (by decide) E2).mono ?_
  rintro e w10 ⟨a10, c10, rfl, own10, b10, t10, hc10⟩
  have hC10 : Chg [] w w10 := hC9.trans_new hc10 (by simpa using hwt')
  have OWN10 := Lib.hid own10
  clear b9 t9 hC9 hc10 own10 t10
  go_wp2_with fail
  refine (ints_c _ _ [1, 2] [1, 2] true (Lib.hid rfl) _ (row_chg (row_of_own OWN10.out) ((Chg.refl [] _).alloc _)) (Row.of_heap (heap_new' _ _ _ rfl)) (by decide) (by decide)).mono ?_
  rintro e w8 ⟨rfl, hc8⟩
  have hcx : Chg [] w10 w8 := ((Chg.refl [] _).alloc _).trans hc8
  have b8 := b10.chg hcx (by simp) (by simp)
  have hC8 := hC10.trans hcx
  clear b10 hC10 hcx hc8 OWN10
  go_wp2_with fail
  refine (D.new_any 0 _ [0] _ (by decide) (by decide) (D.reads_heap (heap_new' _ _ _ rfl))).mono ?_
  rintro e w9 ⟨t, rfl, hwt, t9, hc9⟩
  have hcx : Chg [] w8 w9 := ((Chg.refl [] _).alloc _).trans hc9
  have b9 := b8.chg hcx (by simp) (by simp)
  have hC9 := hC8.trans hcx
  have hwt' : w.heap.size ≤ t := by have := hC8.size; simp at hwt; omega
  clear b8 hC8 hcx hc9 hwt
  go_wp2_with fail
  refine (order_any b r 95 10 t 0 0 [0] _ [2, 1] _ b9 t9 (by decide) E3).mono ?_
  rintro e w10 ⟨a10, c10, rfl, own10, b10, t10, hc10⟩
  have hC10 : Chg [] w w10 := hC9.trans_new hc10 (by simpa using hwt')
  have OWN10 := Lib.hid own10
  clear b9 t9 hC9 hc10 own10 t10
  go_wp2_with fail
  refine (ints_c _ _ [2, 1] [2, 1] true (Lib.hid rfl) _ (row_chg (row_of_own OWN10.out) ((Chg.refl [] _).alloc _)) (Row.of_heap (heap_new' _ _ _ rfl)) (by decide) (by decide)).mono ?_
  rintro e w8 ⟨rfl, hc8⟩
  have hcx : Chg [] w10 w8 := ((Chg.refl [] _).alloc _).trans hc8
  have b8 := b10.chg hcx (by simp) (by simp)
  have hC8 := hC10.trans hcx
  clear b10 hC10 hcx hc8 OWN10
  go_wp2_with fail
  refine (back_v b r 95 10 _ 110 _ _ u2 b8 (Lib.hid rfl) (Lib.hid rfl)).mono ?_
  rintro e w9 ⟨a9, c9, rfl, own9, b9, hc9⟩
  have hC9 : Chg [] w w9 := hC8.trans_new hc9 (by simpa using hwr')
  clear b8 hC8 hc9 own9
  go_wp2_with fail
  refine (dissent_v b r 95 10 _ 2 110 _ _ u3 b9 (Lib.hid rfl) (Lib.hid rfl)).mono ?_
  rintro e w10 ⟨rfl, b10, hc10⟩
  have hC10 : Chg [] w w10 := hC9.trans_new hc10 (by simpa using hwr')
  clear b9 hC9 hc10
  go_wp2_with fail
  refine (dissent_v b r 95 10 _ 2 110 _ _ u4 b10 (Lib.hid rfl) (Lib.hid rfl)).mono ?_
  rintro e w8 ⟨rfl, b8, hc8⟩
  have hC8 : Chg [] w w8 := hC10.trans_new hc8 (by simpa using hwr')
  clear b10 hC10 hc8
  go_wp2_with fail
  refine (trial_v b r 95 10 _ 0 _ true b8 F2).mono ?_
  rintro e w9 ⟨rfl, rfl⟩
  go_wp2_with fail
  refine (score_v b r 95 10 _ 0 _ 95 b8 F3).mono ?_
  rintro e w9 ⟨rfl, rfl⟩
  go_wp2_with fail
  refine (D.new_any 0 _ [1, 1] _ (by decide) (by decide) (D.reads_heap (heap_new' _ _ _ rfl))).mono ?_
  rintro e w9 ⟨t, rfl, hwt, t9, hc9⟩
  have hcx : Chg [] w8 w9 := ((Chg.refl [] _).alloc _).trans hc9
  have b9 := b8.chg hcx (by simp) (by simp)
  have hC9 := hC8.trans hcx
  have hwt' : w.heap.size ≤ t := by have := hC8.size; simp at hwt; omega
  clear b8 hC8 hcx hc9 hwt
  go_wp2_with fail
  refine (order_any b r 95 10 t 0 0 [1, 1] _ [1, 0] _ b9 t9 (by decide) E4).mono ?_
  rintro e w10 ⟨a10, c10, rfl, own10, b10, t10, hc10⟩
  have hC10 : Chg [] w w10 := hC9.trans_new hc10 (by simpa using hwt')
  have OWN10 := Lib.hid own10
  clear b9 t9 hC9 hc10 own10 t10
  go_wp2_with fail
  refine (rests_v b r 95 10 _ 2 _ true b10 F4).mono ?_
  rintro e w11 ⟨rfl, rfl⟩
  go_wp2_with fail
  refine (ints_c _ _ [1, 0] [1, 0] true (Lib.hid rfl) _ (row_chg (row_of_own OWN10.out) ((Chg.refl [] _).alloc _)) (Row.of_heap (heap_new' _ _ _ rfl)) (by decide) (by decide)).mono ?_
  rintro e w8 ⟨rfl, hc8⟩
  have hcx : Chg [] w10 w8 := ((Chg.refl [] _).alloc _).trans hc8
  have b8 := b10.chg hcx (by simp) (by simp)
  have hC8 := hC10.trans hcx
  clear b10 hC10 hcx hc8 OWN10
  go_wp2
  go_ret
  exact ⟨rfl, hC8.below (Nat.le_refl _) (by simp)⟩

end Go.Proofs.Ytdbannnbbngckaa
