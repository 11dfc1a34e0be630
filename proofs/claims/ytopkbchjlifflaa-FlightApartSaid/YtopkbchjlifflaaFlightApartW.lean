/- The walk of FlightApart. -/
import Derived.Test.YtopkbchjlifflaaFlQ
namespace Go.Proofs.Ytopkbchjlifflaa
open Go.RowKit Go.Maps

theorem IsActs.ok {w : World} {a : Option Addr} {acts : List ActT} (h : IsActs w a acts) : ∀ x ∈ acts, x.ok := by
  intro x hx
  obtain ⟨i, hi, rfl⟩ := List.getElem_of_mem hx
  obtain ⟨_, _, _, _, _, hok⟩ := h.2 i hi
  exact hok
theorem runF_take {n m : Nat} {L : List Fl} {acts : List ActT} {j : Nat} (h : j < acts.length) {A : ActT} (hA : A = acts[j]) : runF n m L (acts.take (j + 1)) = doF n m (runF n m L (acts.take j)) A := by
  rw [List.take_succ_eq_append_getElem h, ← hA, runF_snoc]
set_option maxRecDepth 100000 in
set_option maxHeartbeats 8000000 in
theorem flightApart_walk (x y : Int) (a : Option Addr) (cap : Nat) (acts : List ActT) (ba : Option Addr) (bc : Nat) (more : List ActT) (w : World) (_hx : (Lit.int .i64 x).wf = true) (_hy : (Lit.int .i64 y).wf = true) (hA : IsActs w a acts) (hB : IsActs w ba more) :
    Calls Try.prog 5 #[.int .i64 x, .int .i64 y, .slice a acts.length cap, .slice ba more.length bc] w fun e w' => e = .returned (.bool true) ∧ Below w.heap.size w w' := by
  have hmax := hA.1
  have hmax2 := hB.1
  unfold maxLen at hmax hmax2
  have HA := Lib.hid hA
  have HB := Lib.hid hB
  clear hA hB
  go_enter Try.func5, Try.ntmps5
  go_wp2_with fail
  refine (long_any a cap acts w HA.out).mono ?_
  rintro e w1 ⟨b1, rfl, hc1⟩
  cases b1 with
  | true =>
    go_wp2_with fail
    refine (awake_any _).mono ?_
    rintro e w9 ⟨rfl, hc9⟩
    go_wp2
    go_ret
    exact ⟨rfl, (hc1.trans hc9).below (Nat.le_refl _) (by simp)⟩
  | false =>
    go_wp2_with fail
    refine (long_any ba bc more w1 (HB.out.chg hc1)).mono ?_
    rintro e w2 ⟨b2, rfl, dc2⟩
    have hc2 := hc1.trans dc2
    clear hc1 dc2
    cases b2 with
    | true =>
      go_wp2_with fail
      refine (awake_any _).mono ?_
      rintro e w9 ⟨rfl, hc9⟩
      go_wp2
      go_ret
      exact ⟨rfl, (hc2.trans hc9).below (Nat.le_refl _) (by simp)⟩
    | false =>
      go_wp2_with fail
      refine (awake_any _).mono ?_
      rintro e w3 ⟨rfl, dc3⟩
      have hc3 := hc2.trans dc3
      obtain ⟨n, hn⟩ : ∃ n, n = flN x := ⟨_, rfl⟩
      obtain ⟨m, hm⟩ : ∃ m, m = wtN y := ⟨_, rfl⟩
      obtain ⟨L, hL⟩ : ∃ L, L = runF n m [] acts := ⟨_, rfl⟩
      have HW := Lib.hid (show OkW L by rw [hL]; exact okW_nil.run n m HA.out.ok)
      have HN := Lib.hid hn
      have HM := Lib.hid hm
      have HL := Lib.hid hL
      have HT3 := Lib.hid (Tabs.nil (n := n) (m := m) hc3)
      clear hn hm hL hc2 dc3 hc3
      go_wp2_with fail
      refine (made_any x y a cap acts n m L w3 (HA.out.chg HT3.out.isChg) HN HM HL).mono ?_
      rintro e w4 ⟨ta, rfl, F4, hF4, hlo4, dc4⟩
      have HT4 := Lib.hid (HT3.out.push dc4 hF4 hlo4)
      clear hF4 hlo4 dc4 HT3
      go_wp2_with fail
      refine (made_any x y a cap acts n m L w4 (HA.out.chg HT4.out.isChg) HN HM HL).mono ?_
      rintro e w5 ⟨tb, rfl, F5, hF5, hlo5, dc5⟩
      have HT5 := Lib.hid (HT4.out.push dc5 hF5 hlo5)
      clear hF5 hlo5 dc5 HT4
      go_wp2_with fail
      refine (copy_t HT5.out (i := 0) (tb := ta) (L := L) rfl).mono ?_
      rintro e w6 ⟨tc, rfl, hT6⟩
      have HT6 : Hid (Tabs [] w w6 n m [(ta, L), (tb, L), (tc, L)]) := Lib.hid hT6
      clear hT6 HT5
      go_wp2_with fail
      go_loopw [16] (fun v wr => ∃ j : Nat, j ≤ more.length ∧ v = .int .i64 (j : Nat) ∧ Tabs [] w wr n m [(ta, L), (tb, L), (tc, runF n m L (more.take j))]) (fun v _ => more.length - (intOf v).toNat)
      case atStart => exact ⟨0, Nat.zero_le _, rfl, HT6.out⟩
      case round =>
        clear HT6
        obtain ⟨j, hj, rfl, hT⟩ := hrel
        have HT := Lib.hid hT
        clear hT
        by_cases hlt : j < more.length
        · obtain ⟨bg, bo, hba, _, hbc, hbok⟩ := (HB.out.chg HT.out.isChg).2 j hlt
          obtain ⟨A, hA⟩ : ∃ A, A = more[j] := ⟨_, rfl⟩
          rw [← hA] at hbc hbok
          have b0 : wr.cell? ⟨bg, bo + j * 7, none⟩ = some (.int .u8 (A.k : Nat)) := hbc 0 _ rfl
          have b1 : wr.cell? ⟨bg, bo + j * 7 + 1, none⟩ = some (.string (bytesV A.q.name)) := hbc 1 _ rfl
          have b2 : wr.cell? ⟨bg, bo + j * 7 + 2, none⟩ = some (.int .u16 (A.q.ty : Nat)) := hbc 2 _ rfl
          have b3 : wr.cell? ⟨bg, bo + j * 7 + 3, none⟩ = some (.int .u16 (A.q.cl : Nat)) := hbc 3 _ rfl
          have b4 : wr.cell? ⟨bg, bo + j * 7 + 4, none⟩ = some (.int .i64 A.s) := hbc 4 _ rfl
          have b5 : wr.cell? ⟨bg, bo + j * 7 + 5, none⟩ = some (.int .i64 A.x.who) := hbc 5 _ rfl
          have b6 : wr.cell? ⟨bg, bo + j * 7 + 6, none⟩ = some (.string (bytesV A.x.data)) := hbc 6 _ rfl
          subst hba
          have HR := Lib.hid (runF_take (n := n) (m := m) (L := L) hlt hA)
          have HOK := Lib.hid hbok
          clear hbc hbok hA
          go_wp2_with fail
          refine (does_t HT.out (i := 2) (tb := tc) rfl A _ HOK.out HR.out).mono ?_
          rintro e w9 ⟨rfl, hT9⟩
          have HT9 : Hid (Tabs [] w w9 n m [(ta, L), (tb, L), (tc, runF n m L (more.take (j + 1)))]) := Lib.hid hT9
          clear hT9 HT b0 b1 b2 b3 b4 b5 b6
          go_wp2
          go_roundw
          case rel => exact ⟨j + 1, by omega, by go_num, HT9.out⟩
          case measure => simp [intOf] <;> omega
        · obtain rfl : j = more.length := by omega
          obtain ⟨L2, hL2⟩ : ∃ L2, L2 = runF n m L more := ⟨_, rfl⟩
          have hW2 : OkW L2 := by rw [hL2]; exact HW.out.run n m HB.out.ok
          have hT := HT.out
          rw [List.take_of_length_le (Nat.le_refl _), ← hL2] at hT
          have HT := Lib.hid hT
          have HL2 := Lib.hid hL2
          have HW2 := Lib.hid hW2
          clear hT hL2 hW2
          go_wp2_with fail
          obtain ⟨FA, hFA⟩ := HT.out.ft (i := 0) rfl
          obtain ⟨FB, hFB⟩ := HT.out.ft (i := 1) rfl
          refine (same_any FA FB ta tb n m L wr hFA hFB HW.out).mono ?_
          rintro e w10 ⟨rfl, hc10⟩
          have HT10 := Lib.hid (HT.out.same hc10)
          clear hFA hFB hc10 HT
          go_wp2_with fail
          refine (copy_t HT10.out (i := 2) (tb := tc) (L := L2) rfl).mono ?_
          rintro e w11 ⟨td, rfl, hT11⟩
          have HT11 : Hid (Tabs [] w w11 n m [(ta, L), (tb, L), (tc, L2), (td, L2)]) := Lib.hid hT11
          clear hT11 HT10
          go_wp2_with fail
          go_loopw [18] (fun v wr => ∃ j : Nat, j ≤ more.length ∧ v = .int .i64 (j : Nat) ∧ Tabs [] w wr n m [(ta, runF n m L (more.take j)), (tb, L), (tc, L2), (td, L2)]) (fun v _ => more.length - (intOf v).toNat)
          case atStart => exact ⟨0, Nat.zero_le _, rfl, HT11.out⟩
          case round =>
            clear HT11
            obtain ⟨j, hj, rfl, hT⟩ := hrel
            have HT := Lib.hid hT
            clear hT
            by_cases hlt : j < more.length
            · obtain ⟨bg, bo, hba, _, hbc, hbok⟩ := (HB.out.chg HT.out.isChg).2 j hlt
              obtain ⟨A, hA⟩ : ∃ A, A = more[j] := ⟨_, rfl⟩
              rw [← hA] at hbc hbok
              have b0 : wr.cell? ⟨bg, bo + j * 7, none⟩ = some (.int .u8 (A.k : Nat)) := hbc 0 _ rfl
              have b1 : wr.cell? ⟨bg, bo + j * 7 + 1, none⟩ = some (.string (bytesV A.q.name)) := hbc 1 _ rfl
              have b2 : wr.cell? ⟨bg, bo + j * 7 + 2, none⟩ = some (.int .u16 (A.q.ty : Nat)) := hbc 2 _ rfl
              have b3 : wr.cell? ⟨bg, bo + j * 7 + 3, none⟩ = some (.int .u16 (A.q.cl : Nat)) := hbc 3 _ rfl
              have b4 : wr.cell? ⟨bg, bo + j * 7 + 4, none⟩ = some (.int .i64 A.s) := hbc 4 _ rfl
              have b5 : wr.cell? ⟨bg, bo + j * 7 + 5, none⟩ = some (.int .i64 A.x.who) := hbc 5 _ rfl
              have b6 : wr.cell? ⟨bg, bo + j * 7 + 6, none⟩ = some (.string (bytesV A.x.data)) := hbc 6 _ rfl
              subst hba
              have HR := Lib.hid (runF_take (n := n) (m := m) (L := L) hlt hA)
              have HOK := Lib.hid hbok
              clear hbc hbok hA
              go_wp2_with fail
              refine (does_t HT.out (i := 0) (tb := ta) rfl A _ HOK.out HR.out).mono ?_
              rintro e w9 ⟨rfl, hT9⟩
              have HT9 : Hid (Tabs [] w w9 n m [(ta, runF n m L (more.take (j + 1))), (tb, L), (tc, L2), (td, L2)]) := Lib.hid hT9
              clear hT9 HT b0 b1 b2 b3 b4 b5 b6
              go_wp2
              go_roundw
              case rel => exact ⟨j + 1, by omega, by go_num, HT9.out⟩
              case measure => simp [intOf] <;> omega
            · obtain rfl : j = more.length := by omega
              have hT := HT.out
              rw [List.take_of_length_le (Nat.le_refl _), ← HL2.out] at hT
              have HT := Lib.hid hT
              clear hT
              go_wp2_with fail
              obtain ⟨FC, hFC⟩ := HT.out.ft (i := 2) rfl
              obtain ⟨FD, hFD⟩ := HT.out.ft (i := 3) rfl
              refine (same_any FC FD tc td n m L2 wr hFC hFD HW2.out).mono ?_
              rintro e w12 ⟨rfl, hc12⟩
              have HT12 := Lib.hid (HT.out.same hc12)
              clear hFC hFD hc12 HT
              go_wp2_with fail
              obtain ⟨FC, hFC⟩ := HT12.out.ft (i := 0) rfl
              obtain ⟨FD, hFD⟩ := HT12.out.ft (i := 2) rfl
              refine (same_any FC FD ta tc n m L2 w12 hFC hFD HW2.out).mono ?_
              rintro e w13 ⟨rfl, hc13⟩
              have hfin := HT12.out.isChg.trans hc13
              go_wp2
              go_ret
              exact ⟨rfl, hfin.below (Nat.le_refl _) (by simp)⟩

end Go.Proofs.Ytopkbchjlifflaa
