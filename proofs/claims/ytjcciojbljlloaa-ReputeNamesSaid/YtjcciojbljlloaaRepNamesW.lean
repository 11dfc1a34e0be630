/- The walk of ReputeNames. -/
import Derived.Test.YtjcciojbljlloaaRepNil
namespace Go.Proofs.Ytjcciojbljlloaa
open Go.RowKit

def nmD1 : List Up := disI 100 100000 (newB 1) 0 5
def nmS1 : List Up := silentI nmD1 0
def nmE1 : List Up := disI 100 100000 (silJ 65537) 0 1099511627776
def nmC1 : List Up := disI 100 7 (newB 3) 2 1
def nmC2 : List Up := backB 100 8 nmC1
def nmG1 : List Up := backB 50 1 (hJ 60)
def nmG2 : List Up := disI 50 1 nmG1 1 9

/-- The eight books that may not be. -/
def TabAt (w : World) (q : Nat) : Prop := w.heap[q]? = some (.cells #[.int .i64 0, .int .i64 1, .int .i64 1, .int .i64 2, .int .i64 1, .int .i64 1, .int .i64 11, .int .i64 1, .int .i64 1, .int .i64 (-1), .int .i64 1, .int .i64 1, .int .i64 3, .int .i64 0, .int .i64 1, .int .i64 3, .int .i64 101, .int .i64 1, .int .i64 3, .int .i64 1, .int .i64 0, .int .i64 3, .int .i64 1, .int .i64 100001] 50 (0, 0))
theorem tab_at {w : World} {q : Nat} (h : TabAt w q) (j : Nat) (hj : j < 8) : ∃ A B C : Int, w.cell? ⟨q, j * 3, none⟩ = some (.int .i64 A) ∧ w.cell? ⟨q, j * 3 + 1, none⟩ = some (.int .i64 B) ∧ w.cell? ⟨q, j * 3 + 2, none⟩ = some (.int .i64 C) ∧ (A < 1 ∨ 9 < A ∨ A % 2 = 0 ∨ B < 1 ∨ 100 < B ∨ C < 1 ∨ 100000 < C) := by
  match j, hj with
  | 0, _ => exact ⟨0, 1, 1, (cell_of h).trans rfl, (cell_of h).trans rfl, (cell_of h).trans rfl, by decide⟩
  | 1, _ => exact ⟨2, 1, 1, (cell_of h).trans rfl, (cell_of h).trans rfl, (cell_of h).trans rfl, by decide⟩
  | 2, _ => exact ⟨11, 1, 1, (cell_of h).trans rfl, (cell_of h).trans rfl, (cell_of h).trans rfl, by decide⟩
  | 3, _ => exact ⟨-1, 1, 1, (cell_of h).trans rfl, (cell_of h).trans rfl, (cell_of h).trans rfl, by decide⟩
  | 4, _ => exact ⟨3, 0, 1, (cell_of h).trans rfl, (cell_of h).trans rfl, (cell_of h).trans rfl, by decide⟩
  | 5, _ => exact ⟨3, 101, 1, (cell_of h).trans rfl, (cell_of h).trans rfl, (cell_of h).trans rfl, by decide⟩
  | 6, _ => exact ⟨3, 1, 0, (cell_of h).trans rfl, (cell_of h).trans rfl, (cell_of h).trans rfl, by decide⟩
  | 7, _ => exact ⟨3, 1, 100001, (cell_of h).trans rfl, (cell_of h).trans rfl, (cell_of h).trans rfl, by decide⟩

def TabR (q : Nat) (w : World) (i : Value) (wr : World) : Prop := ∃ j : Nat, j ≤ 8 ∧ i = .int .i64 j ∧ TabAt wr q ∧ Chg [] w wr
def SilR (b r : Nat) (w : World) (i : Value) (wr : World) : Prop := ∃ j : Nat, j ≤ 65537 ∧ i = .int .i64 j ∧ Book wr b r 100 100000 (silJ j) ∧ Chg [] w wr
def GR (b r : Nat) (w : World) (i : Value) (wr : World) : Prop := ∃ j : Nat, j ≤ 6 ∧ i = .int .i64 j ∧ Book wr b r 50 1 (gJ j) ∧ Chg [] w wr
def HR (b r : Nat) (w : World) (i : Value) (wr : World) : Prop := ∃ j : Nat, j ≤ 60 ∧ i = .int .i64 j ∧ Book wr b r 50 1 (hJ j) ∧ Chg [] w wr
theorem cn_eq : getB (silJ 65537) 0 = ⟨0, 1, 1, 65535, false, false, 0⟩ := by decide

theorem nmH0 : errB (hasB (newB 1) (0) && nowB (5)) = 0 := by decide +kernel
theorem nmH1 : disI 100 100000 (newB 1) (0) (5) = nmD1 := rfl
theorem nmH2 : (getB (nmD1) (0)).score = 90 := by decide +kernel
theorem nmH3 : (getB (nmD1) (0)).rests = false := by decide +kernel
theorem nmH4 : errB (hasB (nmD1) (0)) = 0 := by decide +kernel
theorem nmH5 : silentI (nmD1) (0) = nmS1 := rfl
theorem nmH6 : (getB (nmS1) (0)).score = 88 := by decide +kernel
theorem nmH7 : errB (hasB (nmS1) (0)) = 0 := by decide +kernel
theorem nmH8 : agreeI 100 (nmS1) (0) = silJ 0 := by decide
theorem nmH9 : (getB (silJ 0) (0)).score = 89 := by decide +kernel
theorem nmH10 : (getB (silJ 65537) (0)).score = 0 := by decide +kernel
theorem nmH11 : errB (hasB (silJ 65537) (1)) = 1 := by decide +kernel
theorem nmH12 : agreeI 100 (silJ 65537) (1) = silJ 65537 := rfl
theorem nmH13 : errB (hasB (silJ 65537) (-1)) = 1 := by decide +kernel
theorem nmH14 : silentI (silJ 65537) (-1) = silJ 65537 := rfl
theorem nmH15 : errB (hasB (silJ 65537) (1) && nowB (0)) = 1 := by decide +kernel
theorem nmH16 : disI 100 100000 (silJ 65537) (1) (0) = silJ 65537 := rfl
theorem nmH17 : errB (hasB (silJ 65537) (0) && nowB (-1)) = 1 := by decide +kernel
theorem nmH18 : disI 100 100000 (silJ 65537) (0) (-1) = silJ 65537 := rfl
theorem nmH19 : errB (hasB (silJ 65537) (0) && nowB (1099511627777)) = 1 := by decide +kernel
theorem nmH20 : disI 100 100000 (silJ 65537) (0) (1099511627777) = silJ 65537 := rfl
theorem nmH21 : errB (hasB (silJ 65537) (0) && nowB (1099511627776)) = 0 := by decide +kernel
theorem nmH22 : disI 100 100000 (silJ 65537) (0) (1099511627776) = nmE1 := rfl
theorem nmH23 : errB (hasB (newB 3) (2) && nowB (1)) = 0 := by decide +kernel
theorem nmH24 : disI 100 7 (newB 3) (2) (1) = nmC1 := rfl
theorem nmH25 : (getB (nmC1) (2)).rests = true := by decide +kernel
theorem nmH26 : backI (8) (nmC1) = [2] := by decide +kernel
theorem nmH27 : backB 100 (8) (nmC1) = nmC2 := rfl
theorem nmH28 : (getB (nmC2) (2)).trial = false := by decide +kernel
theorem nmH29 : (getB (nmC2) (2)).score = 100 := by decide +kernel
theorem nmH30 : (getB (gJ 6) (1)).score = 40 := by decide +kernel
theorem nmH31 : (getB (gJ 6) (1)).rests = true := by decide +kernel
theorem nmH32 : (getB (hJ 60) (1)).score = 100 := by decide +kernel
theorem nmH33 : backI (1) (hJ 60) = [1] := by decide +kernel
theorem nmH34 : backB 50 (1) (hJ 60) = nmG1 := rfl
theorem nmH35 : (getB (nmG1) (1)).score = 50 := by decide +kernel
theorem nmH36 : (getB (nmG1) (1)).trial = true := by decide +kernel
theorem nmH37 : errB (hasB (nmG1) (1) && nowB (9)) = 0 := by decide +kernel
theorem nmH38 : disI 50 1 (nmG1) (1) (9) = nmG2 := rfl
theorem nmH39 : (getB (nmG2) (1)).rests = true := by decide +kernel
theorem nmH40 : (getB (nmG2) (1)).trial = false := by decide +kernel

set_option maxRecDepth 100000 in
set_option maxHeartbeats 16000000 in
theorem reputeNames_walk (w : World) : Calls Try.prog 8 #[] w fun e w' => e = .returned (.bool true) ∧ Below w.heap.size w w' := by
  have H0 := Lib.hid nmH0
  have H1 := Lib.hid nmH1
  have H2 := Lib.hid nmH2
  have H3 := Lib.hid nmH3
  have H4 := Lib.hid nmH4
  have H5 := Lib.hid nmH5
  have H6 := Lib.hid nmH6
  have H7 := Lib.hid nmH7
  have H8 := Lib.hid nmH8
  have H9 := Lib.hid nmH9
  have H10 := Lib.hid nmH10
  have H11 := Lib.hid nmH11
  have H12 := Lib.hid nmH12
  have H13 := Lib.hid nmH13
  have H14 := Lib.hid nmH14
  have H15 := Lib.hid nmH15
  have H16 := Lib.hid nmH16
  have H17 := Lib.hid nmH17
  have H18 := Lib.hid nmH18
  have H19 := Lib.hid nmH19
  have H20 := Lib.hid nmH20
  have H21 := Lib.hid nmH21
  have H22 := Lib.hid nmH22
  have H23 := Lib.hid nmH23
  have H24 := Lib.hid nmH24
  have H25 := Lib.hid nmH25
  have H26 := Lib.hid nmH26
  have H27 := Lib.hid nmH27
  have H28 := Lib.hid nmH28
  have H29 := Lib.hid nmH29
  have H30 := Lib.hid nmH30
  have H31 := Lib.hid nmH31
  have H32 := Lib.hid nmH32
  have H33 := Lib.hid nmH33
  have H34 := Lib.hid nmH34
  have H35 := Lib.hid nmH35
  have H36 := Lib.hid nmH36
  have H37 := Lib.hid nmH37
  have H38 := Lib.hid nmH38
  have H39 := Lib.hid nmH39
  have H40 := Lib.hid nmH40
  have HCN := Lib.hid cn_eq
  go_enter Try.func8, Try.ntmps8
  go_wp2_with fail
  refine (awake_any _).mono ?_
  rintro e w1 ⟨rfl, hC1⟩
  go_wp2_with fail
  obtain ⟨q, hq⟩ : ∃ q, q = w1.heap.size := ⟨_, rfl⟩
  refine wp_abs ?_
  intro w2 hw2
  have t2 : TabAt w2 q := by rw [hw2, hq]; exact heap_new _ _
  have hC2 : Chg [] w w2 := by rw [hw2]; exact hC1.alloc _
  rw [← hq]
  clear hw2 hq hC1
  go_loopw [41] (TabR q w) (fun i _ => 8 - (intOf i).toNat)
  case atStart => exact ⟨0, by decide, rfl, t2, hC2⟩
  case round =>
    clear t2 hC2
    obtain ⟨j, hj, rfl, t3, hCw3⟩ := hrel
    by_cases hlt : j < 8
    · obtain ⟨A, B, C, c0, c1, c2, hbad⟩ := tab_at t3 j hlt
      have HBAD := Lib.hid hbad
      have hlq := lt_of_block t3
      have hji : (j : Int) < 8 := by omega
      clear hbad
      go_wp2_with fail
      refine (newOut_any A B C _ HBAD.out).mono ?_
      rintro e w4 ⟨rfl, rfl⟩
      go_wp2
      go_roundw
      case rel => exact ⟨j + 1, by omega, by go_num, heap_old t3, hCw3.alloc _⟩
      case measure => simp [intOf] <;> omega
    · obtain rfl : j = 8 := by omega
      clear t3
      go_wp2_with fail
      refine (new_any 1 100 100000 _ (by decide) (by decide) (by decide) (by decide) (by decide)).mono ?_
      rintro e w4 ⟨bw4, rw4, rfl, hbw4, hrw4, Bw4, hcw4⟩
      have hCw4 : Chg [] w w4 := hCw3.trans hcw4
      have hwrw4 : w.heap.size ≤ rw4 := by have := hCw3.size; omega
      clear hbw4 hrw4 hcw4 hCw3
      go_wp2_with fail
      refine (dissent_v bw4 rw4 100 100000 _ (0) (5) _ 0 (nmD1) Bw4 H0 H1).mono ?_
      rintro e w5 ⟨rfl, Bw5, hcw5⟩
      have hCw5 : Chg [] w w5 := hCw4.trans_new hcw5 (by simpa using hwrw4)
      clear Bw4 hcw5 hCw4
      go_wp2_with fail
      refine (score_v bw4 rw4 100 100000 _ (0) _ 90 Bw5 H2).mono ?_
      rintro e w9999 ⟨rfl, rfl⟩
      go_wp2_with fail
      refine (rests_v bw4 rw4 100 100000 _ (0) _ false Bw5 H3).mono ?_
      rintro e w9999 ⟨rfl, rfl⟩
      go_wp2_with fail
      refine (silent_v bw4 rw4 100 100000 _ (0) _ 0 (nmS1) Bw5 H4 H5).mono ?_
      rintro e w6 ⟨rfl, Bw6, hcw6⟩
      have hCw6 : Chg [] w w6 := hCw5.trans_new hcw6 (by simpa using hwrw4)
      clear Bw5 hcw6 hCw5
      go_wp2_with fail
      refine (score_v bw4 rw4 100 100000 _ (0) _ 88 Bw6 H6).mono ?_
      rintro e w9999 ⟨rfl, rfl⟩
      go_wp2_with fail
      refine (agree_v bw4 rw4 100 100000 _ (0) _ 0 (silJ 0) Bw6 H7 H8).mono ?_
      rintro e w7 ⟨rfl, Bw7, hcw7⟩
      have hCw7 : Chg [] w w7 := hCw6.trans_new hcw7 (by simpa using hwrw4)
      clear Bw6 hcw7 hCw6
      go_wp2_with fail
      refine (score_v bw4 rw4 100 100000 _ (0) _ 89 Bw7 H9).mono ?_
      rintro e w9999 ⟨rfl, rfl⟩
      go_wp2_with fail
      obtain ⟨K, hK⟩ : ∃ K : Nat, K = 65537 := ⟨_, rfl⟩
      have HK := Lib.hid hK
      clear hK
      go_loopw [7] (SilR bw4 rw4 w) (fun i _ => K - (intOf i).toNat)
      case atStart => exact ⟨0, by decide, rfl, Bw7, hCw7⟩
      case round =>
        clear Bw7 hCw7
        obtain ⟨j, hj, rfl, Bw8, hCw8⟩ := hrel
        have HJ := Lib.hid hj
        clear hj
        by_cases hlt : (j : Int) < 65537
        · have HE : Hid (errB (hasB (silJ j) 0) = 0) := Lib.hid (by rw [silJ_has]; rfl)
          go_wp2_with fail
          refine (silent_v bw4 rw4 100 100000 _ 0 _ 0 (silJ (j + 1)) Bw8 HE (Lib.hid (silJ_step j))).mono ?_
          rintro e w7 ⟨rfl, h7, hc7⟩
          have hC7 : Chg [] w w7 := hCw8.trans_new hc7 (by simpa using hwrw4)
          go_wp2
          go_roundw
          case rel => exact ⟨j + 1, by omega, by go_num, h7, hC7⟩
          case measure => have := HK.out; simp [intOf] <;> omega
        · obtain rfl : j = 65537 := by have := HJ.out; omega
          have Q := counts_any bw4 rw4 100 100000 (silJ 65537) 0 _ Bw8
          rw [HCN.out] at Q
          have QQ := Lib.hid Q
          clear Q
          go_wp2_with fail
          refine QQ.out.mono ?_
          rintro e w9 ⟨rfl, hcw9⟩
          have Bw9 := Bw8.chg hcw9 (by simp) (by simp)
          have hCw9 := hCw8.trans hcw9
          clear Bw8 hCw8 hcw9 QQ
          go_wp2_with fail
          refine (score_v bw4 rw4 100 100000 _ (0) _ 0 Bw9 H10).mono ?_
          rintro e w9999 ⟨rfl, rfl⟩
          go_wp2_with fail
          refine (agree_v bw4 rw4 100 100000 _ (1) _ 1 (silJ 65537) Bw9 H11 H12).mono ?_
          rintro e w10 ⟨rfl, Bw10, hcw10⟩
          have hCw10 : Chg [] w w10 := hCw9.trans_new hcw10 (by simpa using hwrw4)
          clear Bw9 hcw10 hCw9
          go_wp2_with fail
          refine (silent_v bw4 rw4 100 100000 _ (-1) _ 1 (silJ 65537) Bw10 H13 H14).mono ?_
          rintro e w11 ⟨rfl, Bw11, hcw11⟩
          have hCw11 : Chg [] w w11 := hCw10.trans_new hcw11 (by simpa using hwrw4)
          clear Bw10 hcw11 hCw10
          go_wp2_with fail
          refine (dissent_v bw4 rw4 100 100000 _ (1) (0) _ 1 (silJ 65537) Bw11 H15 H16).mono ?_
          rintro e w12 ⟨rfl, Bw12, hcw12⟩
          have hCw12 : Chg [] w w12 := hCw11.trans_new hcw12 (by simpa using hwrw4)
          clear Bw11 hcw12 hCw11
          go_wp2_with fail
          refine (dissent_v bw4 rw4 100 100000 _ (0) (-1) _ 1 (silJ 65537) Bw12 H17 H18).mono ?_
          rintro e w13 ⟨rfl, Bw13, hcw13⟩
          have hCw13 : Chg [] w w13 := hCw12.trans_new hcw13 (by simpa using hwrw4)
          clear Bw12 hcw13 hCw12
          go_wp2_with fail
          refine (dissent_v bw4 rw4 100 100000 _ (0) (1099511627777) _ 1 (silJ 65537) Bw13 H19 H20).mono ?_
          rintro e w14 ⟨rfl, Bw14, hcw14⟩
          have hCw14 : Chg [] w w14 := hCw13.trans_new hcw14 (by simpa using hwrw4)
          clear Bw13 hcw14 hCw13
          go_wp2_with fail
          refine (dissent_v bw4 rw4 100 100000 _ (0) (1099511627776) _ 0 (nmE1) Bw14 H21 H22).mono ?_
          rintro e w15 ⟨rfl, Bw15, hcw15⟩
          have hCw15 : Chg [] w w15 := hCw14.trans_new hcw15 (by simpa using hwrw4)
          clear Bw14 hcw15 hCw14
          clear Bw15
          go_wp2_with fail
          refine (new_any 3 100 7 _ (by decide) (by decide) (by decide) (by decide) (by decide)).mono ?_
          rintro e w16 ⟨bw16, rw16, rfl, hbw16, hrw16, Bw16, hcw16⟩
          have hCw16 : Chg [] w w16 := hCw15.trans hcw16
          have hwrw16 : w.heap.size ≤ rw16 := by have := hCw15.size; omega
          clear hbw16 hrw16 hcw16 hCw15
          go_wp2_with fail
          refine (dissent_v bw16 rw16 100 7 _ (2) (1) _ 0 (nmC1) Bw16 H23 H24).mono ?_
          rintro e w17 ⟨rfl, Bw17, hcw17⟩
          have hCw17 : Chg [] w w17 := hCw16.trans_new hcw17 (by simpa using hwrw16)
          clear Bw16 hcw17 hCw16
          go_wp2_with fail
          refine (rests_v bw16 rw16 100 7 _ (2) _ true Bw17 H25).mono ?_
          rintro e w9999 ⟨rfl, rfl⟩
          go_wp2_with fail
          refine (back_v bw16 rw16 100 7 _ (8) _ [2] (nmC2) Bw17 H26 H27).mono ?_
          rintro e w18 ⟨aw18, cw18, rfl, ownw18, Bw18, hcw18⟩
          have hCw18 : Chg [] w w18 := hCw17.trans_new hcw18 (by simpa using hwrw16)
          have OWNw18 := Lib.hid ownw18
          clear Bw17 hcw18 hCw17 ownw18
          go_wp2_with fail
          refine (ints_c _ _ [2] [2] true (Lib.hid rfl) _ (row_chg (row_of_own OWNw18.out) ((Chg.refl [] _).alloc _)) (Row.of_heap (heap_new' _ _ _ rfl)) (by decide) (by decide)).mono ?_
          rintro e w19 ⟨rfl, hcw19⟩
          have Bw19 := (Bw18.chg ((Chg.refl [] _).alloc _) (by simp) (by simp)).chg hcw19 (by simp) (by simp)
          have hCw19 := (hCw18.alloc _).trans hcw19
          clear Bw18 hCw18 OWNw18 hcw19
          go_wp2_with fail
          refine (trial_v bw16 rw16 100 7 _ (2) _ false Bw19 H28).mono ?_
          rintro e w9999 ⟨rfl, rfl⟩
          go_wp2_with fail
          refine (score_v bw16 rw16 100 7 _ (2) _ 100 Bw19 H29).mono ?_
          rintro e w9999 ⟨rfl, rfl⟩
          clear Bw19
          go_wp2_with fail
          refine (new_any 3 50 1 _ (by decide) (by decide) (by decide) (by decide) (by decide)).mono ?_
          rintro e w20 ⟨bw20, rw20, rfl, hbw20, hrw20, Bw20, hcw20⟩
          have hCw20 : Chg [] w w20 := hCw19.trans hcw20
          have hwrw20 : w.heap.size ≤ rw20 := by have := hCw19.size; omega
          clear hbw20 hrw20 hcw20 hCw19
          go_wp2_with fail
          go_loopw [15] (GR bw20 rw20 w) (fun i _ => 6 - (intOf i).toNat)
          case atStart => exact ⟨0, by decide, rfl, Bw20, hCw20⟩
          case round =>
            clear Bw20 hCw20
            obtain ⟨j, hj, rfl, Bw21, hCw21⟩ := hrel
            by_cases hlt : j < 6
            · go_wp2_with fail
              refine (dissent_any bw20 rw20 50 1 (gJ j) 1 0 _ Bw21).mono ?_
              rintro e w7 ⟨rfl, h7, hc7⟩
              have hC7 : Chg [] w w7 := hCw21.trans_new hc7 (by simpa using hwrw20)
              go_wp2
              go_roundw
              case rel => exact ⟨j + 1, by omega, by go_num, h7, hC7⟩
              case measure => simp [intOf] <;> omega
            · obtain rfl : j = 6 := by omega
              go_wp2_with fail
              refine (score_v bw20 rw20 50 1 _ (1) _ 40 Bw21 H30).mono ?_
              rintro e w9999 ⟨rfl, rfl⟩
              go_wp2_with fail
              refine (rests_v bw20 rw20 50 1 _ (1) _ true Bw21 H31).mono ?_
              rintro e w9999 ⟨rfl, rfl⟩
              go_wp2_with fail
              go_loopw [16] (HR bw20 rw20 w) (fun i _ => 60 - (intOf i).toNat)
              case atStart => exact ⟨0, by decide, rfl, Bw21, hCw21⟩
              case round =>
                clear Bw21 hCw21
                obtain ⟨j, hj, rfl, Bw22, hCw22⟩ := hrel
                by_cases hlt : j < 60
                · go_wp2_with fail
                  refine (agree_any bw20 rw20 50 1 (hJ j) 1 _ Bw22).mono ?_
                  rintro e w7 ⟨rfl, h7, hc7⟩
                  have hC7 : Chg [] w w7 := hCw22.trans_new hc7 (by simpa using hwrw20)
                  go_wp2
                  go_roundw
                  case rel => exact ⟨j + 1, by omega, by go_num, h7, hC7⟩
                  case measure => simp [intOf] <;> omega
                · obtain rfl : j = 60 := by omega
                  go_wp2_with fail
                  refine (score_v bw20 rw20 50 1 _ (1) _ 100 Bw22 H32).mono ?_
                  rintro e w9999 ⟨rfl, rfl⟩
                  go_wp2_with fail
                  refine (back_v bw20 rw20 50 1 _ (1) _ [1] (nmG1) Bw22 H33 H34).mono ?_
                  rintro e w23 ⟨aw23, cw23, rfl, ownw23, Bw23, hcw23⟩
                  have hCw23 : Chg [] w w23 := hCw22.trans_new hcw23 (by simpa using hwrw20)
                  have OWNw23 := Lib.hid ownw23
                  clear Bw22 hcw23 hCw22 ownw23
                  go_wp2_with fail
                  refine (ints_c _ _ [1] [1] true (Lib.hid rfl) _ (row_chg (row_of_own OWNw23.out) ((Chg.refl [] _).alloc _)) (Row.of_heap (heap_new' _ _ _ rfl)) (by decide) (by decide)).mono ?_
                  rintro e w24 ⟨rfl, hcw24⟩
                  have Bw24 := (Bw23.chg ((Chg.refl [] _).alloc _) (by simp) (by simp)).chg hcw24 (by simp) (by simp)
                  have hCw24 := (hCw23.alloc _).trans hcw24
                  clear Bw23 hCw23 OWNw23 hcw24
                  go_wp2_with fail
                  refine (score_v bw20 rw20 50 1 _ (1) _ 50 Bw24 H35).mono ?_
                  rintro e w9999 ⟨rfl, rfl⟩
                  go_wp2_with fail
                  refine (trial_v bw20 rw20 50 1 _ (1) _ true Bw24 H36).mono ?_
                  rintro e w9999 ⟨rfl, rfl⟩
                  go_wp2_with fail
                  refine (dissent_v bw20 rw20 50 1 _ (1) (9) _ 0 (nmG2) Bw24 H37 H38).mono ?_
                  rintro e w25 ⟨rfl, Bw25, hcw25⟩
                  have hCw25 : Chg [] w w25 := hCw24.trans_new hcw25 (by simpa using hwrw20)
                  clear Bw24 hcw25 hCw24
                  go_wp2_with fail
                  refine (rests_v bw20 rw20 50 1 _ (1) _ true Bw25 H39).mono ?_
                  rintro e w9999 ⟨rfl, rfl⟩
                  go_wp2_with fail
                  refine (trial_v bw20 rw20 50 1 _ (1) _ false Bw25 H40).mono ?_
                  rintro e w9999 ⟨rfl, rfl⟩
                  clear Bw25
                  go_wp2_with fail
                  refine calls_abs ?_
                  intro w26 hww26
                  obtain ⟨f, hf⟩ : ∃ f, f = w25.heap.size := ⟨_, rfl⟩
                  have Fw26 : FreshAt w26 f := by rw [hww26]; exact heap_new' _ _ _ hf
                  have hCw26 : Chg [] w w26 := by rw [hww26]; exact hCw25.alloc _
                  rw [← hf]
                  clear hww26 hf hCw25
                  refine (due_nil _).mono ?_
                  rintro e w9999 ⟨rfl, rfl⟩
                  go_wp2_with fail
                  refine (agree_nil _ _).mono ?_
                  rintro e w9999 ⟨rfl, rfl⟩
                  go_wp2_with fail
                  refine (dissent_nil _ _ _).mono ?_
                  rintro e w9999 ⟨rfl, rfl⟩
                  go_wp2_with fail
                  refine (silent_nil _ _).mono ?_
                  rintro e w9999 ⟨rfl, rfl⟩
                  go_wp2_with fail
                  refine (back_nil _ _).mono ?_
                  rintro e w9999 ⟨rfl, rfl⟩
                  go_wp2_with fail
                  refine (may_nil _).mono ?_
                  rintro e w9999 ⟨rfl, rfl⟩
                  have heq := fun W => eq_ups 9998 noUp noUp W
                  unfold upA noUp at heq
                  simp only [decide_true] at heq
                  go_wp2_with fail
                  refine (of_nil _ _).mono ?_
                  rintro e w27 ⟨rfl, hcw27⟩
                  unfold upA noUp
                  have Fw27 : FreshAt w27 f := hcw27.keep Fw26 (by simp)
                  have hCw27 := hCw26.trans hcw27
                  clear Fw26 hCw26 hcw27
                  go_wp2_with fail
                  refine (len_nil _).mono ?_
                  rintro e w9999 ⟨rfl, rfl⟩
                  go_wp2_with fail
                  refine (copy_nil _).mono ?_
                  rintro e w9999 ⟨rfl, rfl⟩
                  go_wp2_with fail
                  refine (agree_fresh f _ _ Fw27).mono ?_
                  rintro e w9999 ⟨rfl, rfl⟩
                  go_wp2_with fail
                  refine (may_fresh f _ Fw27).mono ?_
                  rintro e w9999 ⟨rfl, rfl⟩
                  go_wp2_with fail
                  refine (len_fresh f _ Fw27).mono ?_
                  rintro e w9999 ⟨rfl, rfl⟩
                  go_wp2
                  go_ret
                  exact ⟨rfl, hCw27.below (Nat.le_refl _) (by simp)⟩

end Go.Proofs.Ytjcciojbljlloaa
