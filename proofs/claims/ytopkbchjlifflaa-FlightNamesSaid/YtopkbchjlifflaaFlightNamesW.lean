/- The walk of FlightNames. -/
import Derived.Test.YtopkbchjlifflaaFlR
namespace Go.Proofs.Ytopkbchjlifflaa
open Go.RowKit Go.Maps

def nmCells : Array Value := #[.int .i64 0, .int .i64 1, .int .i64 1, .int .i64 0, .int .i64 33, .int .i64 1, .int .i64 1, .int .i64 17, .int .i64 (-1), .int .i64 (-1)]
set_option maxRecDepth 100000 in
set_option maxHeartbeats 16000000 in
theorem flightNames_walk (w : World) : Calls Try.prog 6 #[] w fun e w' => e = .returned (.bool true) ∧ Below w.heap.size w w' := by
  go_enter Try.func6, Try.ntmps6
  go_wp2_with fail
  refine (awake_any _).mono ?_
  rintro e w1 ⟨rfl, hc1⟩
  go_wp2_with fail
  obtain ⟨g, hg⟩ : ∃ g, g = w1.heap.size := ⟨_, rfl⟩
  have hgg : (w1.alloc (.cells nmCells 61)).heap[g]? = some (.cells nmCells 61 (0, 0)) := heap_new' _ _ _ hg
  have hC2 := hc1.alloc (.cells nmCells 61)
  rw [← hg]
  have HGG := Lib.hid hgg
  have HC2 := Lib.hid hC2
  clear hg hgg hc1 hC2
  go_loopw [52] (fun i wr => ∃ j : Nat, j ≤ 5 ∧ i = .int .i64 (j : Nat) ∧ wr.heap[g]? = some (.cells nmCells 61 (0, 0)) ∧ Chg [] w wr) (fun i _ => 5 - (intOf i).toNat)
  case atStart => exact ⟨0, by omega, rfl, HGG.out, HC2.out⟩
  case round =>
    clear HGG HC2
    obtain ⟨j, hj, rfl, hg, hC⟩ := hrel
    by_cases hlt : j < 5
    · obtain ⟨U, S, hU, hS, hbad⟩ : ∃ U S : Int, wr.cell? ⟨g, j * 2, none⟩ = some (.int .i64 U) ∧ wr.cell? ⟨g, j * 2 + 1, none⟩ = some (.int .i64 S) ∧ okNew U S = false := by
        have : j = 0 ∨ j = 1 ∨ j = 2 ∨ j = 3 ∨ j = 4 := by omega
        rcases this with rfl | rfl | rfl | rfl | rfl
        · exact ⟨0, 1, by rw [cell_of hg]; rfl, by rw [cell_of hg]; rfl, rfl⟩
        · exact ⟨1, 0, by rw [cell_of hg]; rfl, by rw [cell_of hg]; rfl, rfl⟩
        · exact ⟨33, 1, by rw [cell_of hg]; rfl, by rw [cell_of hg]; rfl, rfl⟩
        · exact ⟨1, 17, by rw [cell_of hg]; rfl, by rw [cell_of hg]; rfl, rfl⟩
        · exact ⟨-1, -1, by rw [cell_of hg]; rfl, by rw [cell_of hg]; rfl, rfl⟩
      have HG := Lib.hid hg
      have HB := Lib.hid hbad
      clear hg hbad
      go_wp2_with fail
      have hC1 := hC.alloc (.cells #[.int .i64 U, .int .i64 S] 61)
      have hg1 := heap_old (o := .cells #[.int .i64 U, .int .i64 S] 61) HG.out
      have HG1 := Lib.hid hg1
      clear hC HG hg1 hU hS
      refine (new_out U S _ HB.out).mono ?_
      rintro e w4 ⟨rfl, rfl⟩
      go_wp2
      go_roundw
      case rel => exact ⟨j + 1, by omega, by go_num, HG1.out, hC1⟩
      case measure => simp [intOf] <;> omega
    · obtain rfl : j = 5 := by omega
      clear hg hj hlt
      go_wp2_with fail
      refine (new_in 32 16 wr (by omega) (by omega) (by omega) (by omega)).mono ?_
      rintro e w5 ⟨tb, F, rfl, hF, hlo, hc5⟩
      have hI : FInP [] w w5 tb 32 16 (nmL 0) := ⟨F, hF, fun y hy => ⟨Nat.le_trans hC.size (hlo y hy), by simp⟩, by simp, hC.trans hc5⟩
      have HI := Lib.hid hI
      clear hF hlo hc5 hI hC
      go_wp2_with fail
      go_loopw [7] (fun i wr => ∃ j : Nat, j ≤ 32 ∧ i = .int .i64 (j : Nat) ∧ FInP [] w wr tb 32 16 (nmL j)) (fun i _ => 32 - (intOf i).toNat)
      case atStart => exact ⟨0, by omega, rfl, HI.out⟩
      case round =>
        clear HI
        obtain ⟨j, hj, rfl, hI⟩ := hrel
        have HI := Lib.hid hI
        clear hI
        by_cases hlt : j < 32
        · have e16 : IntKind.u16.wrap (j : Int) = (j : Int) := by rw [IntKind.wrap_u16]; omega
          go_wp2_with fail
          refine (begin_q [] w wr tb 32 16 _ ⟨[0], j, 0⟩ _ _ _ _ _ _ HI.out ⟨by simp [maxLen], by show j < 65536; omega, by simp⟩ rfl ?_ rfl (nmL_begin j hlt)).mono ?_
          · rfl
          rintro e w6 ⟨rfl, h6⟩
          have H6 := Lib.hid h6
          clear h6 HI
          go_wp2
          go_roundw
          case rel => exact ⟨j + 1, by omega, by go_num, H6.out⟩
          case measure => simp [intOf] <;> omega
        · obtain rfl : j = 32 := by omega
          have hI := HI.out
          rw [← nmW_0] at hI
          have HI := Lib.hid hI
          clear hI hlt hj
          go_wp2_with fail
          have e32 : ((32 : Nat) : Int) = 32 := rfl
          rw [e32]
          clear e32
          go_loopw [10] (fun i wr => ∃ j : Nat, j ≤ 16 ∧ i = .int .i64 (j : Nat) ∧ FInP [] w wr tb 32 16 (nmW j)) (fun i _ => 16 - (intOf i).toNat)
          case atStart => exact ⟨0, by omega, rfl, HI.out⟩
          case round =>
            clear HI
            obtain ⟨j, hj, rfl, hI⟩ := hrel
            have HI := Lib.hid hI
            clear hI
            by_cases hlt : j < 16
            · go_wp2_with fail
              refine (join_q [] w wr tb 32 16 _ 5 _ _ ⟨65535, []⟩ _ _ HI.out rfl rfl (nmW_join j hlt)).mono ?_
              rintro e w6 ⟨rfl, h6⟩
              have H6 := Lib.hid h6
              clear h6 HI
              go_wp2
              go_roundw
              case rel => exact ⟨j + 1, by omega, by go_num, H6.out⟩
              case measure => simp [intOf] <;> omega
            · obtain rfl : j = 16 := by omega
              have HI : Hid (FInP [] w wr tb 32 16 nmF) := HI
              clear hlt hj
              go_wp2_with fail
              refine (begin_q [] w wr tb 32 16 _ ⟨[0], 99, 0⟩ _ _ _ _ _ _ HI.out (okq _ (by decide)) rfl rfl rfl nm_a).mono ?_
              rintro e w2 ⟨rfl, h2⟩
              have HI := Lib.hid h2
              clear h2
              go_wp2_with fail
              refine (begin_q [] w w2 tb 32 16 _ ⟨[0], 5, 0⟩ _ _ _ _ _ _ HI.out (okq _ (by decide)) rfl rfl rfl nm_b).mono ?_
              rintro e w3 ⟨rfl, h2⟩
              have HI := Lib.hid h2
              clear h2
              go_wp2_with fail
              refine (begin_q [] w w3 tb 32 16 _ ⟨[], 5, 0⟩ _ _ _ _ _ _ HI.out (okq _ (by decide)) rfl rfl rfl nm_c).mono ?_
              rintro e w4 ⟨rfl, h2⟩
              have HI := Lib.hid h2
              clear h2
              go_wp2_with fail
              refine (end_p [] w w4 tb 32 16 _ 32 _ _ _ HI.out nm_d1 nm_d2 nm_d3).mono ?_
              rintro e w5 ⟨ea, ec, rfl, h2⟩
              have HI := Lib.hid h2
              clear h2
              go_wp2_with fail
              refine (find_q ⟨[0], 5, 0⟩ _ _ _ _ _ HI.out (okq _ (by decide)) rfl rfl rfl nm_e1 nm_e2).mono ?_
              rintro e w6 ⟨rfl, h2⟩
              have HI := Lib.hid (HI.out.same h2)
              clear h2
              go_wp2_with fail
              refine (find_q ⟨[0], 5, 1⟩ _ _ _ _ _ HI.out (okq _ (by decide)) rfl rfl rfl nm_f1 nm_f2).mono ?_
              rintro e w7 ⟨rfl, h2⟩
              have HI := Lib.hid (HI.out.same h2)
              clear h2
              go_wp2_with fail
              refine (find_q ⟨[], 5, 0⟩ _ _ _ _ _ HI.out (okq _ (by decide)) rfl rfl rfl nm_g1 nm_g2).mono ?_
              rintro e w8 ⟨rfl, h2⟩
              have HI := Lib.hid (HI.out.same h2)
              clear h2
              go_wp2_with fail
              refine (join_q [] w w8 tb 32 16 _ 5 _ _ ⟨0, []⟩ _ _ HI.out rfl rfl nm_h1).mono ?_
              rintro e w9 ⟨rfl, h2⟩
              have HI := Lib.hid h2
              clear h2
              go_wp2_with fail
              refine (join_q [] w w9 tb 32 16 _ 5 _ _ ⟨-1, []⟩ _ _ HI.out rfl rfl nm_h2).mono ?_
              rintro e w10 ⟨rfl, h2⟩
              have HI := Lib.hid h2
              clear h2
              go_wp2_with fail
              refine (join_q [] w w10 tb 32 16 _ 6 _ _ ⟨65536, []⟩ _ _ HI.out rfl rfl nm_h3).mono ?_
              rintro e w11 ⟨rfl, h2⟩
              have HI := Lib.hid h2
              clear h2
              go_wp2_with fail
              refine (join_q [] w w11 tb 32 16 _ 32 _ _ ⟨-1, []⟩ _ _ HI.out rfl rfl nm_h4).mono ?_
              rintro e w12 ⟨rfl, h2⟩
              have HI := Lib.hid h2
              clear h2
              go_wp2_with fail
              refine (join_q [] w w12 tb 32 16 _ (-1) _ _ ⟨0, []⟩ _ _ HI.out rfl rfl nm_h5).mono ?_
              rintro e w13 ⟨rfl, h2⟩
              have HI := Lib.hid h2
              clear h2
              go_wp2_with fail
              refine (waits_p HI.out 5 16 nm_w1).mono ?_
              rintro e w14 ⟨rfl, rfl⟩
              go_wp2_with fail
              refine (waits_p HI.out (-1) 0 nm_w2).mono ?_
              rintro e w14 ⟨rfl, rfl⟩
              have hc13 := HI.out.chg
              clear HI
              go_wp2_with fail
              obtain ⟨fb, hfb⟩ : ∃ fb, fb = w13.heap.size := ⟨_, rfl⟩
              rw [← hfb]
              refine calls_abs ?_
              intro W hW
              have hb : W.heap[fb]? = some (.cells #[.int .i64 0, .slice none 0 0, .slice none 0 0, .map none] 68 (0, 0)) := by rw [hW]; exact heap_new' _ _ _ hfb
              have hcW : Chg [] w W := by rw [hW]; exact hc13.alloc _
              have HB := Lib.hid hb
              have HCW := Lib.hid hcW
              clear hW hb hcW hc13 hfb
              refine (begin_nil W ⟨[0], 0, 0⟩).mono ?_
              rintro e w15 ⟨rfl, hc15⟩
              have HB15 := Lib.hid (hc15.keep HB.out (by simp))
              have HC15 := Lib.hid (HCW.out.trans hc15)
              clear hc15 HB HCW
              go_wp2_with fail
              refine (end_nil 0 w15).mono ?_
              rintro e w16 ⟨rfl, rfl⟩
              go_wp2_with fail
              refine (find_nil w15 ⟨[0], 0, 0⟩).mono ?_
              rintro e w16 ⟨rfl, hc16⟩
              have HB16 := Lib.hid (hc16.keep HB15.out (by simp))
              have HC16 := Lib.hid (HC15.out.trans hc16)
              clear hc16 HB15 HC15
              go_wp2_with fail
              refine (quest_no w16 none 0 (fun w' _ => has_nil w' 0)).mono ?_
              rintro e w17 ⟨rfl, hc17⟩
              obtain ⟨W17, hW17⟩ : ∃ W17, W17 = w17.alloc (.cells #[.string ⟨#[]⟩, .int .u16 0, .int .u16 0] 25) := ⟨_, rfl⟩
              have hc17' : Chg [] w16 W17 := by rw [hW17]; exact hc17.alloc _
              have HB17 := Lib.hid (hc17'.keep HB16.out (by simp))
              have HC17 := Lib.hid (HC16.out.trans hc17')
              have HW17 := Lib.hid hW17
              clear hc17 hc17' HB16 HC16 hW17
              go_wp2_with fail
              rw [← HW17.out]
              refine (begin_fresh fb W17 ⟨[0], 0, 0⟩ (okq _ (by decide)) may0 HB17.out).mono ?_
              rintro e w18 ⟨rfl, hc18⟩
              have HB18 := Lib.hid (hc18.keep HB17.out (by simp))
              have HC18 := Lib.hid (HC17.out.trans hc18)
              clear hc18 HB17 HC17 HW17
              go_wp2_with fail
              refine (join_nil w18 0 ⟨0, []⟩).mono ?_
              rintro e w19 ⟨rfl, hc19⟩
              have HB19 := Lib.hid (hc19.keep HB18.out (by simp))
              have HC19 := Lib.hid (HC18.out.trans hc19)
              clear hc19 HB18 HC18
              go_wp2_with fail
              refine (waits_no w19 none 0 (has_nil w19 0)).mono ?_
              rintro e w20 ⟨rfl, rfl⟩
              go_wp2_with fail
              refine (row_nil w19).mono ?_
              rintro e w20 ⟨rfl, rfl⟩
              go_wp2_with fail
              refine (len_nil w19).mono ?_
              rintro e w20 ⟨rfl, rfl⟩
              go_wp2_with fail
              refine (copy_nil w19).mono ?_
              rintro e w20 ⟨rfl, rfl⟩
              go_wp2_with fail
              refine (len_fresh fb w19 HB19.out).mono ?_
              rintro e w20 ⟨rfl, rfl⟩
              have hfin := HC19.out
              go_wp2
              go_ret
              exact ⟨rfl, hfin.below (Nat.le_refl _) (by simp)⟩

end Go.Proofs.Ytopkbchjlifflaa
