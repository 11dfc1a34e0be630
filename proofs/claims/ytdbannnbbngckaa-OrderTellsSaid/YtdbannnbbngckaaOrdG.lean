/- The walk of book: the program's book and the document's, behind acts. -/
import Derived.Test.YtdbannnbbngckaaOrdF
namespace Go.Proofs.Ytdbannnbbngckaa
open Go.RowKit

theorem newB_len (n : Nat) : (newB n).length = n := by simp [newB]
def Act3 (w : World) (p : Nat) (u n : Int) : Prop := w.cell? ⟨p, 1, none⟩ = some (.int .i64 u) ∧ w.cell? ⟨p, 2, none⟩ = some (.int .i64 n)
theorem Act3.chg {w w' : World} {S : List Nat} {p : Nat} {u n : Int} (h : Act3 w p u n) (hc : Chg S w w') (hp : p ∉ S) : Act3 w' p u n := ⟨hc.cell h.1 hp, hc.cell h.2 hp⟩

set_option maxRecDepth 100000 in
set_option maxHeartbeats 4000000 in
theorem book_in (C : CaseT) (n L R : Nat) (us0 : List Up) (hU : Hid (foldB L R (newB n) C.acts = us0)) (hin : CaseIn C n L R) (hlen : C.acts.length ≤ 500) (w : World) (h : IsActs w C.a C.acts) :
    Calls Try.prog 20 #[.agg (caseA C)] w (BookPost L R us0 w) := by
  obtain ⟨hx, hy, hz, hn5, hL1, hL2, hR1, hR2⟩ := hin
  have HN5 := Lib.hid hn5
  have HODD : Hid (Odd1 (newB n)) := Lib.hid ⟨by rw [newB_len]; omega⟩
  have HA := Lib.hid h.2
  clear h hn5
  obtain ⟨Cx, Cy, Cz, Ca, Cac, acts, Cs, Cf, Cfl, Cfc, Cfz⟩ := C
  simp only at hx hy hz hlen HA hU ⊢
  subst hx hy hz
  unfold caseA
  simp only []
  have hlI : (acts.length : Int) ≤ 500 := by omega
  go_enter Try.func20, Try.ntmps20
  go_wp2_with fail
  obtain ⟨p, hp⟩ : ∃ p, p = w.heap.size := ⟨_, rfl⟩
  rw [← hp]
  refine calls_abs ?_
  intro w0 hw0
  obtain ⟨C, hCC⟩ : ∃ C : CaseT, C = ⟨(n : Int), (L : Int), (R : Int), Ca, Cac, acts, Cs, Cf, Cfl, Cfc, Cfz⟩ := ⟨_, rfl⟩
  have p0 : CaseAt w0 p C := by rw [hw0, hp, hCC]; exact heap_new _ _
  have hC0 : Chg [] w w0 := by rw [hw0]; exact (Chg.refl _ _).alloc _
  have HCC := Lib.hid hCC
  have hacts : C.acts = acts := by rw [hCC]
  have HACT := Lib.hid hacts
  have hpw : w.heap.size ≤ p := by omega
  clear hw0 hCC hacts hp
  refine (new_any n L R _ HN5.out hL1 hL2 hR1 hR2).mono ?_
  rintro e w1 ⟨b, r, rfl, hwb, hwr, h1, hc1⟩
  have p1 := p0.chg hc1 (by simp)
  have hC1 := hC0.trans hc1
  obtain ⟨k0, k1, k2, k3, k4, k5⟩ := p1.cells
  rw [HCC.out] at k0 k1 k2 k3
  have hpl : p < w0.heap.size := lt_of_block p0
  go_wp2_with fail
  refine (rnew_any n L R _ HN5.out hL1 hL2 hR1 hR2).mono ?_
  rintro e w2 ⟨q, s, rfl, hwq, hws, x2, hc2⟩
  have p2 := p1.chg hc2 (by simp)
  have hLie : Lie w.heap.size b r q s := ⟨by have := hC0.size; omega, by have := hC1.size; omega, by have := h1.ltr; omega, by have := h1.ltr; omega, by have := h1.lt; omega⟩
  have hpr : p ≠ r := by omega
  have hps : p ≠ s := by have := hc1.size; omega
  have hB2 : Both w2 b r q s L R (newB n) := ⟨h1.chg hc2 (by simp) (by simp), x2⟩
  have hC2 := hC1.trans hc2
  have hwb' : w.heap.size ≤ b := by have := hC0.size; omega
  clear hwb hwr h1 hC1 hwq hws x2 hc1 hc2 p0 p1 hC0 hpl k0 k1 k2 k3 k4 k5
  go_wp2_with fail
  go_loopw [8] (BookR p b r q s L R C (newB n) w) (fun i _ => acts.length - (intOf i).toNat)
  case atStart => exact ⟨0, Nat.zero_le _, rfl, p2, hB2, hC2⟩
  case round =>
    clear p2 hB2 hC2 HN5
    obtain ⟨j, hj, rfl, pj, hB, hC⟩ := hrel
    rw [HACT.out] at hj hB
    obtain ⟨k0, k1, k2, k3, k4, k5⟩ := pj.cells
    rw [HCC.out] at k3
    simp only [] at k3
    by_cases hlt : j < acts.length
    · obtain ⟨g, o, ha, hg, d0, d1, d2, hok⟩ := HA.out j hlt
      have hst := foldB_step L R (newB n) acts j hlt
      obtain ⟨A, hA⟩ : ∃ A, A = acts[j] := ⟨_, rfl⟩
      rw [← hA] at d0 d1 d2 hok hst
      obtain ⟨K, U, N⟩ := A
      subst ha
      obtain ⟨us, hus⟩ : ∃ us, us = foldB L R (newB n) (acts.take j) := ⟨_, rfl⟩
      rw [← hus] at hB hst
      have hO : Odd1 us := HODD.out.le (by rw [hus, foldB_len])
      have HST := Lib.hid hst
      have e0 : wr.cell? ⟨g, o + j * 3, none⟩ = some (.int .u8 K) := hC.cell d0 (by simp)
      have e1 : wr.cell? ⟨g, o + j * 3 + 1, none⟩ = some (.int .i64 U) := hC.cell d1 (by simp)
      have e2 : wr.cell? ⟨g, o + j * 3 + 2, none⟩ = some (.int .i64 N) := hC.cell d2 (by simp)
      have hji : (j : Int) < (acts.length : Int) := by omega
      have hplr : p < wr.heap.size := lt_of_block pj
      clear hA d0 d1 d2 hok hus hst k0 k1 k2 k4 k5
      by_cases hK0 : K = 0
      · subst hK0
        go_wp2_with fail
        obtain ⟨m, hm⟩ : ∃ m, m = wr.heap.size := ⟨_, rfl⟩
        have hmr : m ≠ r := by have := hB.l.ltr; omega
        have hms : m ≠ s := by have := hB.x.ltr; omega
        rw [← hm]
        refine calls_abs ?_
        intro w0 hw0
        have z0 : Act3 w0 m U N := by rw [hw0, hm]; exact ⟨cell_of (heap_new _ _), cell_of (heap_new _ _)⟩
        have hc0 : Chg [] wr w0 := by rw [hw0]; exact (Chg.refl _ _).alloc _
        have hB0 := hB.chg hc0
        have p0 := pj.chg hc0 (by simp)
        have hC0 := hC.trans hc0
        clear hw0 hm hB pj hC hc0 e0 e1 e2 k3
        obtain ⟨vs, hvs⟩ : ∃ vs, agreeI L us U = vs := ⟨_, rfl⟩
        have HV := Lib.hid hvs
        have HF : Hid (foldB L R (newB n) (acts.take (j + 1)) = vs) := Lib.hid (by rw [HST.out, ← hvs]; rfl)
        clear hvs
        refine (agree_v b r L R us U _ _ vs hB0.l (Lib.hid rfl) HV).mono ?_
        rintro e9 w5 ⟨rfl, l5, hc5⟩
        have z5 := z0.chg hc5 (by simpa using hmr)
        have x5 := hLie.book hB0.x hc5
        have p5 := p0.chg hc5 (by simpa using hpr)
        have hC5 : Chg [] w w5 := hC0.trans_new hc5 (by simpa using hLie.hr)
        obtain ⟨y1, y2⟩ := z5
        clear z0 hB0 p0 hC0 hc5
        go_wp2_with fail
        refine (ragree_v q s L R us U _ _ vs x5 (Lib.hid rfl) HV).mono ?_
        rintro e9 w6 ⟨rfl, x6, hc6⟩
        have hB6' : Both w6 b r q s L R vs := Both.step x6 l5 hc6 hLie
        have hB6 : Both w6 b r q s L R (foldB L R (newB n) (acts.take (j + 1))) := by rw [HF.out]; exact hB6'
        have p6 := p5.chg hc6 (by simpa using hps)
        have hC6 : Chg [] w w6 := hC5.trans_new hc6 (by simpa using hLie.hs)
        clear y1 y2 x5 p5 hC5 l5 x6 hc6 HV HF hB6'
        go_wp2
        go_roundw
        case rel => exact ⟨j + 1, by rw [HACT.out]; omega, by go_num, p6, by rw [HACT.out]; exact hB6, hC6⟩
        case measure => simp [intOf] <;> omega
      have u0 : ((K : Int) == 0) = false := by simp; omega
      by_cases hK1 : K = 1
      · subst hK1
        go_wp2_with fail
        obtain ⟨m, hm⟩ : ∃ m, m = wr.heap.size := ⟨_, rfl⟩
        have hmr : m ≠ r := by have := hB.l.ltr; omega
        have hms : m ≠ s := by have := hB.x.ltr; omega
        rw [← hm]
        refine calls_abs ?_
        intro w0 hw0
        have z0 : Act3 w0 m U N := by rw [hw0, hm]; exact ⟨cell_of (heap_new _ _), cell_of (heap_new _ _)⟩
        have hc0 : Chg [] wr w0 := by rw [hw0]; exact (Chg.refl _ _).alloc _
        have hB0 := hB.chg hc0
        have p0 := pj.chg hc0 (by simp)
        have hC0 := hC.trans hc0
        clear hw0 hm hB pj hC hc0 e0 e1 e2 k3
        obtain ⟨vs, hvs⟩ : ∃ vs, disI L R us U N = vs := ⟨_, rfl⟩
        have HV := Lib.hid hvs
        have HF : Hid (foldB L R (newB n) (acts.take (j + 1)) = vs) := Lib.hid (by rw [HST.out, ← hvs]; rfl)
        clear hvs
        refine (dissent_v b r L R us U N _ _ vs hB0.l (Lib.hid rfl) HV).mono ?_
        rintro e9 w5 ⟨rfl, l5, hc5⟩
        have z5 := z0.chg hc5 (by simpa using hmr)
        have x5 := hLie.book hB0.x hc5
        have p5 := p0.chg hc5 (by simpa using hpr)
        have hC5 : Chg [] w w5 := hC0.trans_new hc5 (by simpa using hLie.hr)
        obtain ⟨y1, y2⟩ := z5
        clear z0 hB0 p0 hC0 hc5
        go_wp2_with fail
        refine (rdissent_v q s L R us U N _ _ vs x5 hO.odd (Lib.hid rfl) HV).mono ?_
        rintro e9 w6 ⟨rfl, x6, hc6⟩
        have hB6' : Both w6 b r q s L R vs := Both.step x6 l5 hc6 hLie
        have hB6 : Both w6 b r q s L R (foldB L R (newB n) (acts.take (j + 1))) := by rw [HF.out]; exact hB6'
        have p6 := p5.chg hc6 (by simpa using hps)
        have hC6 : Chg [] w w6 := hC5.trans_new hc6 (by simpa using hLie.hs)
        clear y1 y2 x5 p5 hC5 l5 x6 hc6 HV HF hB6'
        go_wp2
        go_roundw
        case rel => exact ⟨j + 1, by rw [HACT.out]; omega, by go_num, p6, by rw [HACT.out]; exact hB6, hC6⟩
        case measure => simp [intOf] <;> omega
      have u1 : ((K : Int) == 1) = false := by simp; omega
      by_cases hK2 : K = 2
      · subst hK2
        go_wp2_with fail
        obtain ⟨m, hm⟩ : ∃ m, m = wr.heap.size := ⟨_, rfl⟩
        have hmr : m ≠ r := by have := hB.l.ltr; omega
        have hms : m ≠ s := by have := hB.x.ltr; omega
        rw [← hm]
        refine calls_abs ?_
        intro w0 hw0
        have z0 : Act3 w0 m U N := by rw [hw0, hm]; exact ⟨cell_of (heap_new _ _), cell_of (heap_new _ _)⟩
        have hc0 : Chg [] wr w0 := by rw [hw0]; exact (Chg.refl _ _).alloc _
        have hB0 := hB.chg hc0
        have p0 := pj.chg hc0 (by simp)
        have hC0 := hC.trans hc0
        clear hw0 hm hB pj hC hc0 e0 e1 e2 k3
        obtain ⟨vs, hvs⟩ : ∃ vs, silentI us U = vs := ⟨_, rfl⟩
        have HV := Lib.hid hvs
        have HF : Hid (foldB L R (newB n) (acts.take (j + 1)) = vs) := Lib.hid (by rw [HST.out, ← hvs]; rfl)
        clear hvs
        refine (silent_v b r L R us U _ _ vs hB0.l (Lib.hid rfl) HV).mono ?_
        rintro e9 w5 ⟨rfl, l5, hc5⟩
        have z5 := z0.chg hc5 (by simpa using hmr)
        have x5 := hLie.book hB0.x hc5
        have p5 := p0.chg hc5 (by simpa using hpr)
        have hC5 : Chg [] w w5 := hC0.trans_new hc5 (by simpa using hLie.hr)
        obtain ⟨y1, y2⟩ := z5
        clear z0 hB0 p0 hC0 hc5
        go_wp2_with fail
        refine (rsilent_v q s L R us U _ _ vs x5 (Lib.hid rfl) HV).mono ?_
        rintro e9 w6 ⟨rfl, x6, hc6⟩
        have hB6' : Both w6 b r q s L R vs := Both.step x6 l5 hc6 hLie
        have hB6 : Both w6 b r q s L R (foldB L R (newB n) (acts.take (j + 1))) := by rw [HF.out]; exact hB6'
        have p6 := p5.chg hc6 (by simpa using hps)
        have hC6 : Chg [] w w6 := hC5.trans_new hc6 (by simpa using hLie.hs)
        clear y1 y2 x5 p5 hC5 l5 x6 hc6 HV HF hB6'
        go_wp2
        go_roundw
        case rel => exact ⟨j + 1, by rw [HACT.out]; omega, by go_num, p6, by rw [HACT.out]; exact hB6, hC6⟩
        case measure => simp [intOf] <;> omega
      have u2 : ((K : Int) == 2) = false := by simp; omega
      by_cases hK3 : K = 3
      · subst hK3
        go_wp2_with fail
        obtain ⟨m, hm⟩ : ∃ m, m = wr.heap.size := ⟨_, rfl⟩
        have hmr : m ≠ r := by have := hB.l.ltr; omega
        have hms : m ≠ s := by have := hB.x.ltr; omega
        rw [← hm]
        refine calls_abs ?_
        intro w0 hw0
        have z0 : Act3 w0 m U N := by rw [hw0, hm]; exact ⟨cell_of (heap_new _ _), cell_of (heap_new _ _)⟩
        have hc0 : Chg [] wr w0 := by rw [hw0]; exact (Chg.refl _ _).alloc _
        have hB0 := hB.chg hc0
        have p0 := pj.chg hc0 (by simp)
        have hC0 := hC.trans hc0
        clear hw0 hm hB pj hC hc0 e0 e1 e2 k3
        obtain ⟨vs, hvs⟩ : ∃ vs, backB L N us = vs := ⟨_, rfl⟩
        have HV := Lib.hid hvs
        have HF : Hid (foldB L R (newB n) (acts.take (j + 1)) = vs) := Lib.hid (by rw [HST.out, ← hvs]; rfl)
        clear hvs
        refine (back_v b r L R us N _ _ vs hB0.l (Lib.hid rfl) HV).mono ?_
        rintro e9 w5 ⟨a5, c5, rfl, own5, l5, hc5⟩
        have z5 := z0.chg hc5 (by simpa using hmr)
        have x5 := hLie.book hB0.x hc5
        have p5 := p0.chg hc5 (by simpa using hpr)
        have hC5 : Chg [] w w5 := hC0.trans_new hc5 (by simpa using hLie.hr)
        obtain ⟨y1, y2⟩ := z5
        clear z0 hB0 p0 hC0 hc5 own5
        go_wp2_with fail
        refine (rback_v q s L R us N _ _ vs x5 (Lib.hid rfl) HV).mono ?_
        rintro e9 w6 ⟨a6, c6, rfl, own6, x6, hc6⟩
        have hB6' : Both w6 b r q s L R vs := Both.step x6 l5 hc6 hLie
        have hB6 : Both w6 b r q s L R (foldB L R (newB n) (acts.take (j + 1))) := by rw [HF.out]; exact hB6'
        have p6 := p5.chg hc6 (by simpa using hps)
        have hC6 : Chg [] w w6 := hC5.trans_new hc6 (by simpa using hLie.hs)
        clear y1 y2 x5 p5 hC5 l5 x6 hc6 HV HF hB6' own6
        go_wp2
        go_roundw
        case rel => exact ⟨j + 1, by rw [HACT.out]; omega, by go_num, p6, by rw [HACT.out]; exact hB6, hC6⟩
        case measure => simp [intOf] <;> omega
      have u3 : ((K : Int) == 3) = false := by simp; omega
      have HF : Hid (foldB L R (newB n) (acts.take (j + 1)) = us) := Lib.hid (by rw [HST.out]; exact doB_x L R us K U N hK0 hK1 hK2 hK3)
      clear hK0 hK1 hK2 hK3
      have hcA : Chg [] wr (wr.alloc (.cells #[.int .u8 K, .int .i64 U, .int .i64 N] 79)) := (Chg.refl _ _).alloc _
      have hB6 : Both (wr.alloc (.cells #[.int .u8 K, .int .i64 U, .int .i64 N] 79)) b r q s L R (foldB L R (newB n) (acts.take (j + 1))) := by rw [HF.out]; exact hB.chg hcA
      have p6 := pj.chg hcA (by simp)
      have hC6 := hC.trans hcA
      clear hcA hB pj hC HF
      go_wp2
      go_roundw
      case rel => exact ⟨j + 1, by rw [HACT.out]; omega, by go_num, p6, by rw [HACT.out]; exact hB6, hC6⟩
      case measure => simp [intOf] <;> omega
    · have dj : decide (j < acts.length) = false := by simpa using hlt
      rw [List.take_of_length_le (by omega), show foldB L R (newB n) acts = us0 from hU.out] at hB
      clear hlt
      go_wp2
      go_ret2
      exact ⟨b, r, q, s, rfl, hB, hLie, hwb', hC⟩

end Go.Proofs.Ytdbannnbbngckaa
