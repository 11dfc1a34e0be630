/- The walk of OrderAgain. -/
import Derived.Test.YtdbannnbbngckaaOrdG
namespace Go.Proofs.Ytdbannnbbngckaa
open Go.RowKit

set_option maxRecDepth 100000 in
set_option maxHeartbeats 8000000 in
theorem orderAgain_walk (C : CaseT) (w : World) (h : IsCase w C) :
    Calls Try.prog 6 #[.agg (caseA C)] w fun e w' => e = .returned (.bool true) ∧ Below w.heap.size w w' := by
  obtain ⟨wx, wy, wz, hacts, hseed, hfirst⟩ := h
  obtain ⟨fl, hfl, hfb, hreads, _, _⟩ := D.arg_u64 hfirst
  have HA := Lib.hid hacts
  have HR := Lib.hid hreads
  have HFB := Lib.hid hfb
  have HFL := Lib.hid hfl
  clear hacts hfirst hreads hfb hfl wx wy wz
  obtain ⟨B, hB⟩ : ∃ B, B = (decide (500 < C.acts.length) || decide (500 < C.fl)) := ⟨_, rfl⟩
  have HB := Lib.hid hB
  clear hB
  have hcA : caseA C = #[.int .i64 C.x, .int .i64 C.y, .int .i64 C.z, .slice C.a C.acts.length C.ac, .int .u64 C.seed, .slice C.f C.fl C.fc] := rfl
  rw [hcA]
  have HCA := Lib.hid hcA
  clear hcA
  cases B with
  | true =>
    go_enter Try.func6, Try.ntmps6
    go_wp2_with fail
    rw [← HCA.out]
    refine (long_any C true HB _).mono ?_
    rintro e w1 ⟨rfl, hc1⟩
    have hC1 : Chg [] w w1 := ((Chg.refl _ _).alloc _).trans hc1
    try rw [HCA.out]
    go_wp2_with fail
    refine (awake_any _).mono ?_
    rintro e w2 ⟨rfl, hc2⟩
    go_wp2
    go_ret
    exact ⟨rfl, (hC1.trans hc2).below (Nat.le_refl _) (by simp)⟩
  | false =>
    have h500 : C.acts.length ≤ 500 ∧ C.fl ≤ 500 := by have := HB.out; simp at this; omega
    by_cases hnr : C.x < 1 ∨ 9 < C.x ∨ C.x % 2 = 0 ∨ C.y < 1 ∨ 100 < C.y ∨ C.z < 1 ∨ 100000 < C.z
    · have HNR := Lib.hid hnr
      clear hnr
      go_enter Try.func6, Try.ntmps6
      go_wp2_with fail
      obtain ⟨p, hp⟩ : ∃ p, p = w.heap.size := ⟨_, rfl⟩
      rw [← hp]
      refine calls_abs ?_
      intro w0 hw0
      have p0 : CaseAt w0 p C := by rw [hw0, hp]; exact heap_new _ _
      have hC0 : Chg [] w w0 := by rw [hw0]; exact (Chg.refl _ _).alloc _
      clear hw0 hp
      rw [← HCA.out]
      refine (long_any C false HB _).mono ?_
      rintro e w1 ⟨rfl, hc1⟩
      have p1 := p0.chg hc1 (by simp)
      have hC1 := hC0.trans hc1
      clear p0 hC0 hc1
      go_wp2_with fail
      refine (awake_any _).mono ?_
      rintro e w2 ⟨rfl, hc2⟩
      have p2 := p1.chg hc2 (by simp)
      have hC2 := hC1.trans hc2
      clear p1 hC1 hc2
      obtain ⟨k0, k1, k2, k3, k4, k5⟩ := p2.cells
      go_wp2_with fail
      rw [← HCA.out]
      refine (book_out C _ HNR.out).mono ?_
      rintro e w3 ⟨rfl, hc3⟩
      go_wp2
      go_ret
      exact ⟨rfl, (hC2.trans hc3).below (Nat.le_refl _) (by simp)⟩
    obtain ⟨n, L, R, hin⟩ : ∃ n L R, CaseIn C n L R :=
      ⟨C.x.toNat, C.y.toNat, C.z.toNat, by omega, by omega, by omega, by omega, by omega, by omega, by omega, by omega⟩
    have HIN := Lib.hid hin
    obtain ⟨us, hus⟩ : ∃ us, foldB L R (newB n) C.acts = us := ⟨_, rfl⟩
    have hul : us.length = n := by rw [← hus, foldB_len, newB_len]
    have hpos : 0 < us.length := by have := hin.n5; omega
    have hul9 : us.length ≤ 9 := by have := hin.n5; omega
    have HU := Lib.hid hus
    clear hnr hin hus hul
    go_enter Try.func6, Try.ntmps6
    go_wp2_with fail
    obtain ⟨p, hp⟩ : ∃ p, p = w.heap.size := ⟨_, rfl⟩
    rw [← hp]
    refine calls_abs ?_
    intro w0 hw0
    have p0 : CaseAt w0 p C := by rw [hw0, hp]; exact heap_new _ _
    have hC0 : Chg [] w w0 := by rw [hw0]; exact (Chg.refl _ _).alloc _
    have hpw : w.heap.size ≤ p := by omega
    clear hw0 hp
    rw [← HCA.out]
    refine (long_any C false HB _).mono ?_
    rintro e w1 ⟨rfl, hc1⟩
    have p1 := p0.chg hc1 (by simp)
    have hC1 := hC0.trans hc1
    clear p0 hC0 hc1
    go_wp2_with fail
    refine (awake_any _).mono ?_
    rintro e w2 ⟨rfl, hc2⟩
    have p2 := p1.chg hc2 (by simp)
    have hC2 := hC1.trans hc2
    clear p1 hC1 hc2
    obtain ⟨k0, k1, k2, k3, k4, k5⟩ := p2.cells
    go_wp2_with fail
    rw [← HCA.out]
    refine (book_in C n L R us HU HIN.out h500.1 _ (HA.out.chg hC2)).mono ?_
    rintro e w3 ⟨b, r, q, s, rfl, hB3, hLie, hwb, hc3⟩
    have p3 := p2.chg hc3 (by simp)
    have hC3 := hC2.trans hc3
    have hwr : w.heap.size ≤ r := by have := hLie.hr; have := hC2.size; omega
    have hws : w.heap.size ≤ s := by have := hLie.hs; have := hC2.size; omega
    have hwb' : w.heap.size ≤ b := by have := hC2.size; omega
    have hpb : p < w2.heap.size := lt_of_block p2
    have hpr : p ≠ r := by have := hLie.hr; omega
    have hps : p ≠ s := by have := hLie.hs; omega
    clear p2 hC2 hc3 hwb k0 k1 k2 k3 k4 k5 hpb
    obtain ⟨k0, k1, k2, k3, k4, k5⟩ := p3.cells
    have hrd3 : D.Reads .u64 w3 (.slice C.f C.fl C.fc) fl := HR.out.chg hC3 (by simp)
    have RD3 := Lib.hid hrd3
    have hfl6 : fl.length ≤ 1000000 := by rw [HFL.out]; omega
    clear hrd3
    have hB3l := hB3.l
    clear hB3
    go_wp2_with fail
    refine (D.new_any C.seed _ fl _ hfl6 HFB.out RD3.out).mono ?_
    rintro e w4 ⟨t, rfl, hwt, t4, hc4⟩
    have b4 := hB3l.chg hc4 (by simp) (by simp)
    have hC4 := hC3.trans hc4
    have hwt' : w.heap.size ≤ t := by have := hC3.size; omega
    clear hB3l hC3 hc4 hwt k0 k1 k2 k3 k4 k5 p3 RD3
    have hbt := (tape_book t4 b4).1
    have hrt := (tape_book t4 b4).2
    go_wp2_with fail
    refine (D.next_any t C.seed fl 0 _ t4 (by decide)).mono ?_
    rintro e w5 ⟨rfl, t5, hc5⟩
    have b5 := b4.chg hc5 (by simpa using hbt) (by simpa using hrt)
    have hC5 : Chg [] w w5 := hC4.trans_new hc5 (by simpa using hwt')
    clear b4 t4 hC4 hc5
    go_wp2_with fail
    refine (D.copy_any t C.seed fl (0 + 1) _ t5).mono ?_
    rintro e w6 ⟨rfl, v6, t6, hc6⟩
    obtain ⟨v, hv⟩ : ∃ v, v = w5.heap.size := ⟨_, rfl⟩
    rw [← hv] at v6 ⊢
    have hwv : w.heap.size ≤ v := by have := hC5.size; omega
    have hvt : v ≠ t := by have := t5.lt; omega
    have b6 := b5.chg hc6 (by simp) (by simp)
    have hC6 := hC5.trans hc6
    clear hv b5 t5 hC5 hc6
    have hbv := (tape_book v6 b6).1
    have hrv := (tape_book v6 b6).2
    obtain ⟨ord, hord⟩ : ∃ ord, ordN us (D.drawN C.seed fl) (0 + 1) = ord := ⟨_, rfl⟩
    have hol : ord.length ≤ 9 := by rw [← hord, ordN_len]; exact Nat.le_trans (idxN_len _ _ _) hul9
    have HO := Lib.hid hord
    clear hord
    obtain ⟨m1, hm1⟩ : ∃ m1, m1 = 0 + 1 + ((mayN us).length - 1) := ⟨_, rfl⟩
    have hm2 : m1 ≤ 100 := by have : (mayN us).length ≤ 9 := Nat.le_trans (idxN_len _ _ _) hul9; omega
    have HM := Lib.hid hm1
    clear hm1
    go_wp2_with fail
    refine (order_any b r L R t C.seed (0 + 1) fl us ord _ b6 t6 (by decide) HO).mono ?_
    rintro e w7 ⟨a7, c7, rfl, own7, b7, t7, hc7⟩
    rw [← HM.out] at t7
    have v7 : D.TapeAt w7 v C.seed fl (0 + 1) := v6.other t6 hc7 hvt
    have hC7 : Chg [] w w7 := hC6.trans_new hc7 (by simpa using hwt')
    have OWN7 := Lib.hid own7
    have hs67 : w6.heap.size ≤ w7.heap.size := hc7.size
    have hv6l : v < w6.heap.size := v6.lt
    have ht6l : t < w6.heap.size := t6.lt
    clear b6 t6 v6 hC6 hc7 own7
    go_wp2_with fail
    refine (copy_any b r L R us _ b7 hpos).mono ?_
    rintro e w8 ⟨c, rc, rfl, hwc, hwrc, c8, hc8⟩
    have t8 := t7.chg hc8 (by simp) (by simp)
    have v8 := v7.chg hc8 (by simp) (by simp)
    have OWN8 : Hid (OwnI w6.heap.size w8 (.slice a7 ord.length c7) ord) := Lib.hid (owns_chg OWN7.out hc8 (by simp))
    have hC8 := hC7.trans hc8
    clear b7 t7 v7 hC7 hc8 OWN7 hwc hwrc
    go_wp2_with fail
    refine (order_any c rc L R v C.seed (0 + 1) fl us ord _ c8 v8 (by decide) HO).mono ?_
    rintro e w9 ⟨a9, c9, rfl, own9, b9, v9, hc9⟩
    rw [← HM.out] at v9
    have t9 : D.TapeAt w9 t C.seed fl m1 := t8.other v8 hc9 (Ne.symm hvt)
    have OWN9 : Hid (OwnI w6.heap.size w9 (.slice a7 ord.length c7) ord) := Lib.hid (owns_chg OWN8.out hc9 (by simpa using hv6l))
    have OWN9' := Lib.hid own9
    have hC9 : Chg [] w w9 := hC8.trans_new hc9 (by simpa using hwv)
    clear c8 t8 v8 hC8 hc9 OWN8 own9 b9
    go_wp2_with fail
    refine (ints_c _ _ ord ord true (Lib.hid (by simp)) _ (row_of_own OWN9.out) (row_of_own OWN9'.out) (by omega) (by omega)).mono ?_
    rintro e w10 ⟨rfl, hc10⟩
    have t10 := t9.chg hc10 (by simp) (by simp)
    have v10 := v9.chg hc10 (by simp) (by simp)
    have hC10 := hC9.trans hc10
    clear t9 v9 hC9 hc10 OWN9 OWN9'
    go_wp2_with fail
    refine (D.used_any t C.seed fl m1 _ t10).mono ?_
    rintro e w11 ⟨rfl, rfl⟩
    go_wp2_with fail
    refine (D.used_any v C.seed fl m1 _ v10).mono ?_
    rintro e w11 ⟨rfl, rfl⟩
    go_wp2_with fail
    refine (D.next_any t C.seed fl m1 _ t10 (by omega)).mono ?_
    rintro e w11 ⟨rfl, t11, hc11⟩
    have v11 := v10.other t10 hc11 hvt
    have hC11 : Chg [] w w11 := hC10.trans_new hc11 (by simpa using hwt')
    obtain ⟨d, hd⟩ : ∃ d, D.drawN C.seed fl m1 = d := ⟨_, rfl⟩
    have HD := Lib.hid hd
    rw [hd]
    clear t10 v10 hC10 hc11 hd t11
    go_wp2_with fail
    refine (D.next_any v C.seed fl m1 _ v11 (by omega)).mono ?_
    rintro e w12 ⟨rfl, v12, hc12⟩
    rw [HD.out]
    have hC12 : Chg [] w w12 := hC11.trans_new hc12 (by simpa using hwv)
    clear v11 hC11 hc12 v12
    go_wp2
    go_ret
    exact ⟨rfl, hC12.below (Nat.le_refl _) (by simp)⟩

end Go.Proofs.Ytdbannnbbngckaa
