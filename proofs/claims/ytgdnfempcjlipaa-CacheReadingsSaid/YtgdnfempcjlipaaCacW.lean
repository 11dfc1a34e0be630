/- The examples. -/
import Derived.Test.YtgdnfempcjlipaaCacV
namespace Go.Proofs.Ytgdnfempcjlipaa
open Go.RowKit Go.Maps

def qEx : Qn := ⟨bs [2, 101, 120, 0], 1, 1⟩
def qEX : Qn := ⟨bs [2, 69, 88, 0], 1, 1⟩
def qA : Qn := ⟨bs [1, 97, 0], 1, 1⟩
def qB : Qn := ⟨bs [1, 98, 0], 1, 1⟩
def aw1 : Cst := keepC 2 ⟨0, []⟩ qEx (saysV 1) 10 0
def aw2 : Cst := keepC 2 aw1 qA (saysV 2) 10 1
def aw3 : Cst := findC aw2 qEX 4
def aw4 : Cst := keepC 2 aw3 qB (saysV 3) 10 5
def aw5 : Cst := findC aw4 qA 5
def aw6 : Cst := findC aw5 qEx 10
theorem ok_ex : okK qEx 10 = true := by decide
theorem ok_a : okK qA 10 = true := by decide
theorem ok_b : okK qB 10 = true := by decide
theorem got3 : gotC aw2 qEX 4 = some ⟨qEx, saysV 1, 10⟩ := by kernel_rfl
theorem left3 : (6 : Int) = 10 - (advC aw2 4).now := by decide
theorem got5 : gotC aw4 qA 5 = none := by kernel_rfl
theorem row5 : aw5.M.map (·.q) = [qEx, qB] := by kernel_rfl
theorem got6 : gotC aw5 qEx 10 = none := by kernel_rfl
theorem len6 : aw6.M.length = 1 := by kernel_rfl
theorem q_arr (n : ByteArray) (w : World) : Calls Try.prog 25 #[.string n] w fun e w' => e = .returned (.agg #[.string n, .int .u16 1, .int .u16 1]) ∧ Chg [] w w' := q_any n w
theorem le_max {k : Nat} (h : k ≤ 1000) : k ≤ maxLen := by unfold maxLen; omega

set_option maxRecDepth 100000 in
set_option maxHeartbeats 4000000 in
theorem awake_any (w : World) : Calls Try.prog 9 #[] w fun e w' => e = .returned (.bool true) ∧ Chg [] w w' := by
  go_enter Try.func9, Try.ntmps9
  go_wp2_with fail
  refine (new_c (Cabs.nil (P := 0) (Chg.refl [] w)) 2 1 2 (by omega) (by omega) (by omega)).mono ?_
  rintro e w1 ⟨cb, rfl, hT1, _⟩
  have HT1 : Hid (Cabs w w1 0 [⟨cb, 2, 1, 2, ⟨0, []⟩⟩]) := Lib.hid hT1
  clear hT1
  go_wp2_with fail
  refine (q_arr (bs [2, 101, 120, 0]) w1).mono ?_
  rintro e w2 ⟨rfl, hc2⟩
  have HT2 := Lib.hid (HT1.out.same hc2)
  clear hc2 HT1
  go_wp2_with fail
  refine (says_any 1 w2 (by omega)).mono ?_
  rintro e w3 ⟨sa, oa, rfl, hs3, hc3⟩
  have HT3 := Lib.hid (HT2.out.same hc3)
  have HS3 := Lib.hid (hs3.low (Nat.zero_le _))
  clear hc3 hs3 HT2
  go_wp2_with fail
  refine (keep_c HT3.out (i := 0) rfl qEx 1 sa oa 1 1 0 0 (saysV 1) 10 0 (by omega) (le_max (by decide)) (by decide) (by decide) (by omega) (.inr HS3.out) 0 (Lib.hid (by rw [if_pos ok_ex]))).mono ?_
  rintro e w4 ⟨rfl, hT4, _⟩
  have HT4 : Hid (Cabs w w4 1 [⟨cb, 2, 1, 2, aw1⟩]) := Lib.hid hT4
  clear hT4 HT3 HS3
  go_wp2_with fail
  refine (q_arr (bs [1, 97, 0]) w4).mono ?_
  rintro e w5 ⟨rfl, hc5⟩
  have HT5 := Lib.hid (HT4.out.same hc5)
  clear hc5 HT4
  go_wp2_with fail
  refine (says_any 2 w5 (by omega)).mono ?_
  rintro e w6 ⟨sb, ob, rfl, hs6, hc6⟩
  have HT6 := Lib.hid (HT5.out.same hc6)
  have HS6 := Lib.hid (hs6.low (Nat.zero_le _))
  clear hc6 hs6 HT5
  go_wp2_with fail
  refine (keep_c HT6.out (i := 0) rfl qA 2 sb ob 1 1 0 0 (saysV 2) 10 1 (by omega) (le_max (by decide)) (by decide) (by decide) (by omega) (.inr HS6.out) 0 (Lib.hid (by rw [if_pos ok_a]))).mono ?_
  rintro e w7 ⟨rfl, hT7, _⟩
  have HT7 : Hid (Cabs w w7 2 [⟨cb, 2, 1, 2, aw2⟩]) := Lib.hid hT7
  clear hT7 HT6 HS6
  go_wp2_with fail
  refine (q_arr (bs [2, 69, 88, 0]) w7).mono ?_
  rintro e w8 ⟨rfl, hc8⟩
  have HT8 := Lib.hid (HT7.out.same hc8)
  clear hc8 HT7
  go_wp2_with fail
  refine (finds_c HT8.out (i := 0) rfl qEX 4 1 6 ⟨qEx, saysV 1, 10⟩ (by omega) (le_max (by decide)) (by decide) (by decide) (by omega) (Lib.hid got3) (Lib.hid rfl) (Lib.hid left3)).mono ?_
  rintro e w9 ⟨rfl, hT9, _⟩
  have HT9 : Hid (Cabs w w9 2 [⟨cb, 2, 1, 2, aw3⟩]) := Lib.hid hT9
  clear hT9 HT8
  go_wp2_with fail
  refine (q_arr (bs [1, 98, 0]) w9).mono ?_
  rintro e w10 ⟨rfl, hc10⟩
  have HT10 := Lib.hid (HT9.out.same hc10)
  clear hc10 HT9
  go_wp2_with fail
  refine (says_any 3 w10 (by omega)).mono ?_
  rintro e w11 ⟨sc, oc, rfl, hs11, hc11⟩
  have HT11 := Lib.hid (HT10.out.same hc11)
  have HS11 := Lib.hid (hs11.low (Nat.zero_le _))
  clear hc11 hs11 HT10
  go_wp2_with fail
  refine (keep_c HT11.out (i := 0) rfl qB 3 sc oc 1 1 0 0 (saysV 3) 10 5 (by omega) (le_max (by decide)) (by decide) (by decide) (by omega) (.inr HS11.out) 0 (Lib.hid (by rw [if_pos ok_b]))).mono ?_
  rintro e w12 ⟨rfl, hT12, _⟩
  have HT12 : Hid (Cabs w w12 3 [⟨cb, 2, 1, 2, aw4⟩]) := Lib.hid hT12
  clear hT12 HT11 HS11
  go_wp2_with fail
  refine (q_arr (bs [1, 97, 0]) w12).mono ?_
  rintro e w13 ⟨rfl, hc13⟩
  have HT13 := Lib.hid (HT12.out.same hc13)
  clear hc13 HT12
  go_wp2_with fail
  refine (find_c HT13.out (i := 0) rfl qA 5 none 0 0 false (by omega) (le_max (by decide)) (by decide) (by decide) (Lib.hid got5.symm) (Lib.hid rfl) (Lib.hid rfl) (Lib.hid rfl)).mono ?_
  rintro e w14 ⟨ya, yn, yc, za, zn, zc, rfl, _, hT14, _⟩
  have HT14 : Hid (Cabs w w14 3 [⟨cb, 2, 1, 2, aw5⟩]) := Lib.hid hT14
  clear hT14 HT13
  go_wp2_with fail
  refine calls_abs ?_
  intro w15 hw15
  have HT15 : Hid (Cabs w w15 3 [⟨cb, 2, 1, 2, aw5⟩]) := Lib.hid (HT14.out.same (by rw [hw15]; exact (Chg.refl _ _).alloc _))
  clear hw15 HT14
  refine (row_c HT15.out (i := 0) rfl [qEx, qB] (Lib.hid row5.symm)).mono ?_
  rintro e w16 ⟨ga, gc, rfl, hr16, hc16⟩
  have HT16 := Lib.hid (HT15.out.same hc16)
  have HR16 := Lib.hid hr16
  clear hr16 hc16 HT15
  go_wp2_with fail
  refine (q_arr (bs [2, 101, 120, 0]) w16).mono ?_
  rintro e w17 ⟨rfl, hc17⟩
  have HT17 := Lib.hid (HT16.out.same hc17)
  have HR17 := Lib.hid (HR16.out.same hc17)
  clear hc17 HT16 HR16
  go_wp2_with fail
  refine (find_c HT17.out (i := 0) rfl qEx 10 none 0 0 false (by omega) (le_max (by decide)) (by decide) (by decide) (Lib.hid got6.symm) (Lib.hid rfl) (Lib.hid rfl) (Lib.hid rfl)).mono ?_
  rintro e w18 ⟨va, vn, vc, xa, xn, xc, rfl, _, hT18, hcc18⟩
  have HT18 : Hid (Cabs w w18 3 [⟨cb, 2, 1, 2, aw6⟩]) := Lib.hid hT18
  have hr18 := hcc18.ownR HR17.out (by decide)
  obtain ⟨g, gc', hg, _, _, hcell⟩ := hr18.cells qL_len (by simp)
  injection hg with hg1 _ hg3
  subst hg1
  subst hg3
  have hse := strEq
  have d0 : w18.cell? ⟨g, 0, none⟩ = some (.string ⟨#[2, 101, 120, 0]⟩) := hcell 0 (by simp) 0 _ rfl
  have d1 : w18.cell? ⟨g, 3, none⟩ = some (.string ⟨#[1, 98, 0]⟩) := hcell 1 (by simp) 0 _ rfl
  have k0 := ((Chg.refl [] w18).alloc (.cells #[.int .u8 0, .slice va vn vc, .slice xa xn xc] 34)).cell d0 (by simp)
  have k1 := ((Chg.refl [] w18).alloc (.cells #[.int .u8 0, .slice va vn vc, .slice xa xn xc] 34)).cell d1 (by simp)
  clear hT18 hcc18 hr18 hcell HT17 HR17
  go_wp2_with fail
  refine (len_c (HT18.out.same ((Chg.refl _ _).alloc _)) (i := 0) rfl 1 (Lib.hid len6.symm)).mono ?_
  rintro e w19 ⟨rfl, hc19⟩
  have HEND := Lib.hid ((HT18.out.isChg.alloc (.cells #[.int .u8 0, .slice va vn vc, .slice xa xn xc] 34)).trans hc19)
  clear hc19 HT18 d0 d1 k0 k1
  go_wp2
  go_ret
  exact ⟨rfl, HEND.out⟩

end Go.Proofs.Ytgdnfempcjlipaa
