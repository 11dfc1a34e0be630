/- The walk of SipNames. -/
import Derived.Test.YthaikobmelalgaaSipTellsW
namespace Go.Proofs.Ythaikobmelalgaa
open Go.RowKit

def oneB (m : Nat) : ByteArray := ⟨[UInt8.ofNat m].toArray⟩
theorem oneB_size (m : Nat) : (oneB m).size = 1 := rfl
theorem conv_one' (w : World) (m : Nat) (hm : m < 256) :
    (convert 34 9 (.slice (some ⟨w.heap.size, 0, none⟩) 1 1)).run Try.prog (w.alloc (.cells #[.int .u8 m] 5)) = .ok (.string (oneB m)) (w.alloc (.cells #[.int .u8 m] 5)) := by
  have hm' : (UInt8.ofNat m).toNat = m := by simp; omega
  exact run_convert_bytes_back _ 34 9 5 ⟨w.heap.size, 0, none⟩ 1 [UInt8.ofNat m] Try.underlying34 Try.underlying5 Try.underlying9 (by
    intro j hj
    have : j = 0 := by simp at hj; omega
    subst this
    simp only [List.getElem_cons_zero, hm']
    exact (cell_of (heap_new w _)).trans rfl)

def zeroB (n : Nat) : ByteArray := ⟨(List.replicate n (0 : UInt8)).toArray⟩
theorem zeroB_size (n : Nat) : (zeroB n).size = n := by show (List.replicate n (0 : UInt8)).toArray.size = n; simp
theorem Try.elemU8 : (Try.prog.info? 5).map (fun i => (i.zero, i.size, i.bytes)) = some (some (.int .u8 0), 1, 1) := by kernel_rfl
theorem make_zeros (w : World) : (Instr.makeSlice 34 (.int .i64 256) (.int .i64 256)).run Try.prog w = .ok (.slice (some ⟨w.heap.size, 0, none⟩) 256 256) (w.alloc (.cells (rowI .u8 (List.replicate 256 0)) 5)) :=
  run_make_ints w 34 5 .u8 256 1 Try.underlying34 Try.elemU8 (by decide) (by decide)
theorem conv_zerosN (w : World) (n : Nat) :
    (convert 34 9 (.slice (some ⟨w.heap.size, 0, none⟩) n n)).run Try.prog (w.alloc (.cells (rowI .u8 (List.replicate n 0)) 5)) = .ok (.string (zeroB n)) (w.alloc (.cells (rowI .u8 (List.replicate n 0)) 5)) := by
  have h := run_convert_bytes_back (P := Try.prog) (w.alloc (.cells (rowI .u8 (List.replicate n 0)) 5)) 34 9 5 ⟨w.heap.size, 0, none⟩ n (List.replicate n (0 : UInt8)) Try.underlying34 Try.underlying5 Try.underlying9 (by
    intro j hj
    have hj' : j < n := by simpa using hj
    rw [add_at, Nat.zero_add, cell_of (heap_new w _), rowI_get _ _ _ (by simpa using hj')]
    simp)
  rw [List.length_replicate] at h
  exact h
theorem conv_zeros (w : World) :
    (convert 34 9 (.slice (some ⟨w.heap.size, 0, none⟩) 256 256)).run Try.prog (w.alloc (.cells (rowI .u8 (List.replicate 256 0)) 5)) = .ok (.string (zeroB 256)) (w.alloc (.cells (rowI .u8 (List.replicate 256 0)) 5)) := conv_zerosN w 256

def NamesR (w : World) (s i : Value) (wr : World) : Prop := ∃ (j : Nat) (T : ByteArray), j ≤ 40 ∧ i = .int .i64 j ∧ s = .string T ∧ T.size = j ∧ Chg [] w wr

set_option maxRecDepth 100000 in
set_option maxHeartbeats 4000000 in
theorem sipNames_walk (w : World) : Calls Try.prog 5 #[] w fun e w' => e = .returned (.bool true) ∧ Below w.heap.size w w' := by
  go_enter Try.func5, Try.ntmps5
  go_wp2_with fail
  refine (awake_any _).mono ?_
  rintro e w1 ⟨rfl, hC1⟩
  go_wp2_with fail
  go_loopw [1, 2] (NamesR w) (fun _ i _ => 40 - (intOf i).toNat)
  case atStart => exact ⟨0, ⟨#[]⟩, by decide, rfl, rfl, rfl, hC1⟩
  case round =>
    clear hC1
    obtain ⟨j, T, hj, rfl, rfl, hT, hC⟩ := hrel
    have hT5 : T.size ≤ 40 := by omega
    have HT := Lib.hid hT
    clear hT
    by_cases hlt : j < 40
    · obtain ⟨m, hm⟩ : ∃ m, m = 7 * j % 256 := ⟨_, rfl⟩
      have em : (7 * (j : Int)) % 256 = (m : Int) := by omega
      have hm2 : m < 256 := by omega
      have hcv := fun W => conv_one' W m hm2
      obtain ⟨U, hU⟩ : ∃ U, U = oneB m := ⟨_, rfl⟩
      have hUs : U.size ≤ 1 := by rw [hU, oneB_size]; omega
      have hU1 : U.size = 1 := by rw [hU, oneB_size]
      rw [← hU] at hcv
      have HU := Lib.hid hU1
      obtain ⟨rr, hrr⟩ : ∃ r, r = sipN 5 6 (bytesN T) := ⟨_, rfl⟩
      have HR := Lib.hid hrr
      clear hrr hm hU hU1
      go_wp2_with fail
      refine (total_any 5 6 T rr HR _ (by decide) (by decide) (by omega)).mono ?_
      rintro e w2 ⟨rfl, hc2⟩
      have hC2 := hC.trans hc2
      go_wp2_with fail
      refine (rsum_any 5 6 T rr HR _ (by decide) (by decide) (by omega)).mono ?_
      rintro e w3 ⟨rfl, hc3⟩
      have hC3 := hC2.trans hc3
      clear hC hC2 hc2 hc3
      go_wp2_with fail
      go_roundw
      case rel => exact ⟨j + 1, T ++ U, by omega, by go_num, rfl, by rw [ByteArray.size_append, HT.out, HU.out], hC3.alloc _⟩
      case measure => simp [intOf] <;> omega
    · obtain rfl : j = 40 := by omega
      have hmk := make_zeros
      have hcv := conv_zeros
      obtain ⟨Z, hZ⟩ : ∃ Z, Z = zeroB 256 := ⟨_, rfl⟩
      rw [← hZ] at hcv
      have hZs : Z.size ≤ 256 := by rw [hZ, zeroB_size]; omega
      obtain ⟨R, hR⟩ : ∃ R, R = rowI .u8 (List.replicate 256 0) := ⟨_, rfl⟩
      rw [← hR] at hcv hmk
      obtain ⟨rr, hrr⟩ : ∃ r, r = sipN 0 0 (bytesN Z) := ⟨_, rfl⟩
      have HR := Lib.hid hrr
      obtain ⟨r0, hr0⟩ : ∃ r, r = sipN 0 0 [] := ⟨_, rfl⟩
      have HR0 := Lib.hid hr0
      obtain ⟨r3, hr3⟩ : ∃ r, r = sipN 0 0 ([] ++ bytesN ⟨#[97, 98, 99]⟩) := ⟨_, rfl⟩
      have HR3 := Lib.hid hr3
      have HL3 : Hid (([] ++ bytesN ⟨#[97, 98, 99]⟩ : List Nat).length = 3) := Lib.hid rfl
      clear hrr hZ hR hr0 hr3
      go_wp2_with fail
      refine (total_any 0 0 Z rr HR _ (by decide) (by decide) (by omega)).mono ?_
      rintro e w2 ⟨rfl, hc2⟩
      have hC2 := (hC.alloc _).trans hc2
      clear hc2 hC
      go_wp2_with fail
      refine (rsum_any 0 0 Z rr HR _ (by decide) (by decide) (by omega)).mono ?_
      rintro e w3 ⟨rfl, hc3⟩
      have hC3 := hC2.trans hc3
      clear hC2 hc3 hmk hcv
      go_wp2_with fail
      refine calls_abs ?_
      intro w4 hw4
      obtain ⟨f, hf⟩ : ∃ f, f = w3.heap.size := ⟨_, rfl⟩
      have f4 : HashAt w4 f 0 0 [] := by rw [hw4]; exact hash_new ⟨rfl, heap_new' _ _ _ hf⟩ (by decide) (by decide)
      have hC4 : Chg [] w w4 := by rw [hw4]; exact hC3.alloc _
      have hwf : w.heap.size ≤ f := by have := hC3.size; omega
      rw [← hf]
      clear hw4 hf hC3
      refine (make_any 0 0 _ (by decide) (by decide)).mono ?_
      rintro e w5 ⟨rfl, m5, hc5⟩
      obtain ⟨b, hb⟩ : ∃ b, b = w4.heap.size := ⟨_, rfl⟩
      have hwb : w.heap.size ≤ b := by have := hC4.size; omega
      have hfb : f ≠ b := by have := f4.lt; omega
      have f5 := f4.chg hc5 (by simp)
      have hC5 := hC4.trans hc5
      rw [← hb] at m5 ⊢
      clear hb hc5 hC4 f4
      go_wp2_with fail
      refine (sum_r f 0 0 _ r0 HR0 _ f5 (by decide)).mono ?_
      rintro e w6 ⟨rfl, hc6⟩
      have f6 := f5.chg hc6 (by simp)
      have m6 := m5.chg hc6 (by simp)
      have hC6 := hC5.trans hc6
      clear hc6 hC5 f5 m5
      go_wp2_with fail
      refine (sum_r b 0 0 _ r0 HR0 _ m6 (by decide)).mono ?_
      rintro e w7 ⟨rfl, hc7⟩
      have f7 := f6.chg hc7 (by simp)
      have m7 := m6.chg hc7 (by simp)
      have hC7 := hC6.trans hc7
      clear hc7 hC6 f6 m6
      go_wp2_with fail
      refine (len_any f 0 0 _ _ f7).mono ?_
      rintro e w8 ⟨rfl, rfl⟩
      go_wp2_with fail
      refine (write_any f 0 0 _ _ _ f7 (by decide) (by decide)).mono ?_
      rintro e w8 ⟨rfl, f8, hc8⟩
      have m8 := m7.chg hc8 (by simpa using Ne.symm hfb)
      have hC8 : Chg [] w w8 := hC7.trans_new hc8 (by simpa using hwf)
      clear hc8 hC7 f7 m7
      go_wp2_with fail
      refine (write_any b 0 0 _ _ _ m8 (by decide) (by decide)).mono ?_
      rintro e w9 ⟨rfl, m9, hc9⟩
      have f9 := f8.chg hc9 (by simpa using hfb)
      have hC9 : Chg [] w w9 := hC8.trans_new hc9 (by simpa using hwb)
      clear hc9 hC8 f8 m8
      go_wp2_with fail
      refine (sum_r f 0 0 _ r3 HR3 _ f9 (by rw [HL3.out]; decide)).mono ?_
      rintro e wa ⟨rfl, hca⟩
      have fa := f9.chg hca (by simp)
      have ma := m9.chg hca (by simp)
      have hCa := hC9.trans hca
      clear hca hC9 f9 m9
      go_wp2_with fail
      refine (sum_r b 0 0 _ r3 HR3 _ ma (by rw [HL3.out]; decide)).mono ?_
      rintro e wb ⟨rfl, hcb⟩
      have fb := fa.chg hcb (by simp)
      have hCb := hCa.trans hcb
      clear hcb hCa fa ma
      go_wp2_with fail
      refine (len_any f 0 0 _ _ fb).mono ?_
      rintro e w8 ⟨rfl, rfl⟩
      rw [HL3.out]
      go_wp2_with fail
      refine (write_nil _ _).mono ?_
      rintro e w8 ⟨rfl, rfl⟩
      go_wp2_with fail
      refine (sum_nil _).mono ?_
      rintro e w8 ⟨rfl, rfl⟩
      go_wp2_with fail
      refine (len_nil _).mono ?_
      rintro e w8 ⟨rfl, rfl⟩
      go_wp2_with fail
      refine (copy_nil _).mono ?_
      rintro e w8 ⟨rfl, rfl⟩
      go_wp2
      go_ret
      exact ⟨rfl, hCb.below (Nat.le_refl _) (by simp)⟩

end Go.Proofs.Ythaikobmelalgaa
