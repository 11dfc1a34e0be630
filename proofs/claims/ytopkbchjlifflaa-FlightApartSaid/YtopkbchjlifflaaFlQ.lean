/- Two tables that hold the same are told to be the same (same), by copies of them. -/
import Derived.Test.YtopkbchjlifflaaFlP
namespace Go.Proofs.Ytopkbchjlifflaa
open Go.RowKit Go.Maps

theorem rdW_chg {w w' : World} {v : Value} {l : List Wt} (h : RdW w v l) (hc : Chg [] w w') : RdW w' v l := h.chg hc
/-- What holds in the loop of 'same': both copies hold what is left. -/
def SameI (w : World) (x y n m : Nat) (v : Value) (wr : World) : Prop := ∃ (j : Nat) (L : List Fl), j ≤ n ∧ v = .int .i64 (j : Nat) ∧ OkW L ∧ Tabs [] w wr n m [(x, L), (y, L)]
set_option maxRecDepth 100000 in
set_option maxHeartbeats 4000000 in
theorem same_any (FA FB : List Nat) (a b n m : Nat) (L : List Fl) (w : World) (hA : FT FA w a n m L) (hB : FT FB w b n m L) (hW : OkW L) :
    Calls Try.prog 24 #[.pointer (some ⟨a, 0, none⟩), .pointer (some ⟨b, 0, none⟩), .int .i64 (n : Nat)] w fun e w' => e = .returned (.bool true) ∧ Chg [] w w' := by
  have hn32 := hA.n32
  have hll : (slotsF L).length ≤ 1000000 := by have := hA.ok.len; simp [slotsF]; omega
  have HLL := Lib.hid hll
  have HW := Lib.hid hW
  clear hll hW
  go_enter Try.func24, Try.ntmps24
  go_wp2_with fail
  refine (row_any FA a n m L w hA).mono ?_
  rintro e w1 ⟨v1, rfl, ho1, hc1⟩
  obtain ⟨a1, c1, rfl⟩ := ho1.len
  obtain ⟨ln, hln⟩ : ∃ ln, ln = (slotsF L).length := ⟨_, rfl⟩
  rw [← hln] at ho1 ⊢
  have HLN := Lib.hid hln
  have HO1 := Lib.hid ho1
  have HC1 := Lib.hid hc1
  have HB := Lib.hid hB
  have HA := Lib.hid hA
  clear ho1 hc1 hB hA hln
  go_wp2_with fail
  refine (row_any FB b n m L w1 (HB.out.same HC1.out)).mono ?_
  rintro e w2 ⟨v2, rfl, ho2, hc2⟩
  obtain ⟨a2, c2, rfl⟩ := ho2.len
  have hr1 := row_own (HO1.out.same hc2)
  have hr2 := row_own ho2
  rw [← HLN.out] at hr2 ⊢
  have HR1 := Lib.hid hr1
  have HR2 := Lib.hid hr2
  have HC2 := Lib.hid (HC1.out.trans hc2)
  clear ho2 hr1 hr2 hc2 HO1
  go_wp2_with fail
  refine (ints_same _ _ (slotsF L) w2 HR1.out HR2.out HLL.out).mono ?_
  rintro e w3 ⟨rfl, hc3⟩
  have HC3 := Lib.hid (HC2.out.trans hc3)
  clear hc3 HR1 HR2 HC1 HC2
  go_wp2_with fail
  refine (copy_any FA a n m L w3 (HA.out.same HC3.out)).mono ?_
  rintro e w4 ⟨x, Fx, rfl, hFx, hlx, hc4⟩
  have hT4 := (Tabs.nil (n := n) (m := m) HC3.out).push hc4 hFx hlx
  have HT4 := Lib.hid hT4
  clear hT4 hFx hlx hc4
  go_wp2_with fail
  refine (copy_any FB b n m L w4 (HB.out.same HT4.out.isChg)).mono ?_
  rintro e w5 ⟨y, Fy, rfl, hFy, hly, hc5⟩
  have hT5 := HT4.out.push hc5 hFy hly
  have HT5 := Lib.hid hT5
  clear hT5 hFy hly hc5 HT4
  go_wp2_with fail
  go_loopw [9] (SameI w x y n m) (fun v _ => n - (intOf v).toNat)
  case atStart => exact ⟨0, L, Nat.zero_le _, rfl, HW.out, HT5.out⟩
  case round =>
    clear HT5 HC3 HLL HLN HW HA HB
    obtain ⟨j, M, hj, rfl, hM, hT⟩ := hrel
    have HM := Lib.hid hM
    have HT := Lib.hid hT
    clear hM hT
    by_cases hlt : j < n
    · obtain ⟨q, hq⟩ : ∃ q, q = questF M (j : Int) := ⟨_, rfl⟩
      obtain ⟨u, hu⟩ : ∃ u, u = useF M (j : Int) := ⟨_, rfl⟩
      obtain ⟨e, he⟩ : ∃ e, e = errE M (j : Int) := ⟨_, rfl⟩
      obtain ⟨M2, hM2⟩ : ∃ M2, M2 = endA M (j : Int) := ⟨_, rfl⟩
      obtain ⟨ws, hws⟩ : ∃ ws, ws = goneF M (j : Int) := ⟨_, rfl⟩
      have hokq : OkQ q := by
        obtain ⟨F, hF⟩ := HT.out.ft (i := 0) rfl
        rw [hq]; exact quest_ok hF.ok _
      have hwl : ws.length ≤ 1000 := by
        obtain ⟨F, hF⟩ := HT.out.ft (i := 0) rfl
        have := gone_le hF.ok (j : Int)
        have := hF.m16
        rw [hws]; omega
      have hwok : ∀ x ∈ ws, OkX x := by rw [hws]; exact HM.out.gone _
      have hM2' : OkW M2 := by rw [hM2]; exact HM.out.endA _
      have HQ := Lib.hid hq
      have HU := Lib.hid hu
      have HE := Lib.hid he
      have HM2 := Lib.hid hM2
      have HWS := Lib.hid hws
      have HOKQ := Lib.hid hokq
      have HWL := Lib.hid hwl
      have HWOK := Lib.hid hwok
      have HM2' := Lib.hid hM2'
      clear hq hu he hM2 hws hokq hwl hwok hM2'
      go_wp2_with fail
      refine (quest_t HT.out (i := 0) (tb := x) (L := M) rfl (j : Int) q u HQ.out HU.out).mono ?_
      rintro r w6 ⟨rfl, hc6⟩
      obtain ⟨nx, hnx⟩ : ∃ nx, nx = bytesV q.name := ⟨_, rfl⟩
      obtain ⟨qb, hqb⟩ : ∃ qb, qb = w6.heap.size := ⟨_, rfl⟩
      rw [← hnx]
      have HNX := Lib.hid hnx
      have HC6 := Lib.hid hc6
      have HQB := Lib.hid hqb
      clear hnx hc6 hqb
      go_wp2_with fail
      rw [← HQB.out]
      refine calls_abs ?_
      intro W hW
      have hWb : W.heap[qb]? = some (.cells #[.string nx, .int .u16 (q.ty : Nat), .int .u16 (q.cl : Nat)] 25 (0, 0)) := by rw [hW]; exact heap_new' _ _ _ HQB.out
      have hT7 := (HT.out.same HC6.out).add (w2 := W) (by rw [hW]; exact (Chg.refl _ _).alloc _) hWb (by have := HQB.out; omega)
      have HT7 := Lib.hid hT7
      clear hW hWb hT7 HC6 HQB
      refine (quest_t HT7.out (i := 1) (tb := y) (L := M) rfl (j : Int) q u HQ.out HU.out).mono ?_
      rintro r w7 ⟨rfl, hc7⟩
      rw [← HNX.out]
      obtain ⟨qc, hqc⟩ : ∃ qc, qc = w7.heap.size := ⟨_, rfl⟩
      have HC7 := Lib.hid hc7
      have HQC := Lib.hid hqc
      clear hc7 hqc
      go_wp2_with fail
      rw [← HQC.out]
      refine calls_abs ?_
      intro W8 hW8
      have hWb : W8.heap[qc]? = some (.cells #[.string nx, .int .u16 (q.ty : Nat), .int .u16 (q.cl : Nat)] 25 (0, 0)) := by rw [hW8]; exact heap_new' _ _ _ HQC.out
      have hT8 := (HT7.out.same HC7.out).add (w2 := W8) (by rw [hW8]; exact (Chg.refl _ _).alloc _) hWb (by have := HQC.out; omega)
      have HT8 := Lib.hid hT8
      clear hW8 hWb hT8 HC7 HQC HT7
      refine (end_t HT8.out (i := 0) (tb := x) (L := M) rfl (j : Int) e M2 ws HE.out HM2.out HWS.out).mono ?_
      rintro r w9 ⟨xa, xc, rfl, ho9, hs9, o1, hT9, k1, k2, k3⟩
      obtain ⟨wl, hwl⟩ : ∃ wl, wl = ws.length := ⟨_, rfl⟩
      rw [← hwl] at ho9 k1 k2 k3 ⊢
      have h9lt : ∀ g, (Value.slice xa wl xc).ownBlock = some g → w.heap.size ≤ g ∧ g < w9.heap.size := fun g hg => ⟨Nat.le_trans HT8.out.isChg.size (ho9.blk g hg).1, (ho9.blk g hg).2.1⟩
      have HT9 := Lib.hid hT9
      have K1 := Lib.hid k1
      have K3 := Lib.hid k3
      have H9L := Lib.hid h9lt
      have HWLE := Lib.hid hwl
      clear ho9 hs9 hT9 k1 k2 k3 hwl h9lt HT8
      go_wp2_with fail
      refine (end_t HT9.out (i := 1) (tb := y) (L := M) rfl (j : Int) e M2 ws HE.out HM2.out HWS.out).mono ?_
      rintro r w10 ⟨ya, yc, rfl, ho10, hs10, o2, hT10, l1, l2, l3⟩
      rw [← HWLE.out] at ho10 l1 l2 l3 ⊢
      have hge10 : ∀ g, (Value.slice ya wl yc).ownBlock = some g → w9.heap.size ≤ g ∧ g < w10.heap.size ∧ w.heap.size ≤ g := fun g hg => ⟨(ho10.blk g hg).1, (ho10.blk g hg).2.1, Nat.le_trans HT9.out.isChg.size (ho10.blk g hg).1⟩
      have h10a := K3.out w10 fun p hp => hT10.at' (List.mem_append_right _ (List.mem_append_left _ hp))
      have q10 : w10.heap[qb]? = some (.cells #[.string nx, .int .u16 (q.ty : Nat), .int .u16 (q.cl : Nat)] 25 (0, 0)) := hT10.at' (p := (qb, .cells #[.string nx, .int .u16 (q.ty : Nat), .int .u16 (q.cl : Nat)] 25 (0, 0))) (by simp)
      have q10' : w10.heap[qc]? = some (.cells #[.string nx, .int .u16 (q.ty : Nat), .int .u16 (q.cl : Nat)] 25 (0, 0)) := hT10.at' (p := (qc, .cells #[.string nx, .int .u16 (q.ty : Nat), .int .u16 (q.cl : Nat)] 25 (0, 0))) (by simp)
      have b0 : w10.cell? ⟨qb, 0, none⟩ = some (.string nx) := cell_of q10
      have b1 : w10.cell? ⟨qb, 1, none⟩ = some (.int .u16 (q.ty : Nat)) := cell_of q10
      have b2 : w10.cell? ⟨qb, 2, none⟩ = some (.int .u16 (q.cl : Nat)) := cell_of q10
      have d0 : w10.cell? ⟨qc, 0, none⟩ = some (.string nx) := cell_of q10'
      have d1 : w10.cell? ⟨qc, 1, none⟩ = some (.int .u16 (q.ty : Nat)) := cell_of q10'
      have d2 : w10.cell? ⟨qc, 2, none⟩ = some (.int .u16 (q.cl : Nat)) := cell_of q10'
      have hneq : ∀ w, (binOp .neq 25 (.agg #[.string nx, .int .u16 (q.ty : Nat), .int .u16 (q.cl : Nat)]) (.agg #[.string nx, .int .u16 (q.ty : Nat), .int .u16 (q.cl : Nat)])).run Try.prog w = .ok (.bool false) w := by
        intro w
        rw [HNX.out, neqQ w HOKQ.out HOKQ.out]
        simp
      have HT10 := Lib.hid hT10
      have L1 := Lib.hid l1
      have HO10 := Lib.hid ho10
      have H10A := Lib.hid h10a
      have HGE := Lib.hid hge10
      clear ho10 hs10 hT10 l1 l2 l3 hge10 h10a q10 q10' HT9
      go_wp2_with fail
      refine (told_any _ (.slice xa wl xc) ws w10 H10A.out HWL.out).mono ?_
      rintro r w11 ⟨v11, rfl, ho11, hc11⟩
      obtain ⟨ta, tc, rfl⟩ := ho11.len
      rw [← HWLE.out] at ho11 ⊢
      have h11b : R.OwnR 38 2 wV w9.heap.size w11 (.slice ya wl yc) ws := HO10.out.chg hc11 (fun g hg hh => by have h1 := (H9L.out g (mem_blkL.1 hh)).2; have h2 := (HGE.out g hg).1; omega)
      have HO11 := Lib.hid ho11
      have HC11 := Lib.hid hc11
      have H11B := Lib.hid h11b
      clear ho11 hc11 h11b HO10 H10A b0 b1 b2 d0 d1 d2 hneq
      go_wp2_with fail
      refine (told_any _ (.slice ya wl yc) ws w11 H11B.out HWL.out).mono ?_
      rintro r w12 ⟨v12, rfl, ho12, hc12⟩
      obtain ⟨ua, uc, rfl⟩ := ho12.len
      rw [← HWLE.out] at ho12 ⊢
      have h12a := HO11.out.chg hc12 (fun g hg hh => by have h1 := (HO11.out.blk g hg).1; have h2 := (HGE.out g (mem_blkL.1 hh)).2.1; omega)
      have hC12 : Chg (blkL (.slice xa wl xc) ++ blkL (.slice ya wl yc)) w10 w12 := (HC11.out.mono (fun _ hx => List.mem_append_left _ hx)).trans (hc12.mono (fun _ hx => List.mem_append_right _ hx))
      have HA12 := Lib.hid (rdW_own h12a)
      have HB12 := Lib.hid (rdW_own ho12)
      have HC12 := Lib.hid hC12
      clear ho12 hc12 h12a hC12 HO11 HC11 H11B
      go_wp2_with fail
      refine (waiters_same _ _ ws w12 HA12.out HB12.out HWOK.out (by have := HWL.out; omega)).mono ?_
      rintro r w13 ⟨rfl, hc13⟩
      have hT13 : Tabs [] w w13 n m [(x, M2), (y, M2)] := by
        refine (HT10.out.chg (P' := []) (HC12.out.trans (hc13.mono (by simp))) (fun g hg => ?_) (by simp))
        rcases List.mem_append.1 hg with h | h
        · have h1 := mem_blkL.1 h
          obtain ⟨p, hp, e⟩ := K1.out g h1
          refine ⟨?_, p, List.mem_append_right _ (List.mem_append_left _ hp), e⟩
          exact (H9L.out g h1).1
        · have h1 := mem_blkL.1 h
          obtain ⟨p, hp, e⟩ := L1.out g h1
          refine ⟨?_, p, List.mem_append_left _ hp, e⟩
          exact (HGE.out g h1).2.2
      have HT13 := Lib.hid hT13
      clear hT13 hc13 HC12 HT10
      go_wp2
      go_roundw
      case rel => exact ⟨j + 1, M2, by omega, by go_num, HM2'.out, HT13.out⟩
      case measure => simp [intOf] <;> omega
    · have t0 : decide (j < n) = false := by simpa using hlt
      have t0I : decide ((j : Int) < (n : Int)) = false := by simp; omega
      have hc := HT.out.isChg
      go_wp2
      go_ret
      exact ⟨rfl, hc⟩

end Go.Proofs.Ytopkbchjlifflaa
