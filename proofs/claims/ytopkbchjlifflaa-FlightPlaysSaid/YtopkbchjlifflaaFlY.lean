/- A table stands as the document's (alike). -/
import Derived.Test.YtopkbchjlifflaaFlX
namespace Go.Proofs.Ytopkbchjlifflaa
open Go.RowKit Go.Maps

def rowCells (s : Int) (n : Nat) : Array Value := #[.int .i64 s, .int .i64 0, .int .i64 1, .int .i64 2, .int .i64 (-1), .int .i64 (n : Nat)]
set_option maxRecDepth 100000 in
set_option maxHeartbeats 8000000 in
theorem alike_any (F G : List Nat) (t x n m : Nat) (L : List Fl) (q : Qs) (s : Int) (w : World) (hF : FT F w t n m L) (hG : RT G w x n m L) (hq : OkQ q) (hql : q.name.length ≤ 100000) :
    Calls Try.prog 32 #[.pointer (some ⟨t, 0, none⟩), .pointer (some ⟨x, 0, none⟩), .agg #[.string (bytesV q.name), .int .u16 (q.ty : Nat), .int .u16 (q.cl : Nat)], .int .i64 s] w fun e w' => e = .returned (.bool true) ∧ Chg [] w w' := by
  obtain ⟨nx, hnx⟩ : ∃ nx, nx = bytesV q.name := ⟨_, rfl⟩
  rw [← hnx]
  obtain ⟨p0, hp0⟩ : ∃ p0, p0 = w.heap.size := ⟨_, rfl⟩
  have hok := hF.ok
  have hl32 : L.length ≤ 32 := by have := hok.len; have := hF.n32; omega
  obtain ⟨ln, hln⟩ : ∃ ln, ln = (slotsF L).length := ⟨_, rfl⟩
  have hlnl : ln = L.length := by rw [hln]; simp [slotsF]
  have HF := Lib.hid hF
  have HG := Lib.hid hG
  have HNX := Lib.hid hnx
  have HOK := Lib.hid hok
  have HLN := Lib.hid hln
  have HLL := Lib.hid hlnl
  have hln32 : ln ≤ 32 := by omega
  clear hF hG hnx hok hln hlnl
  go_enter Try.func32, Try.ntmps32
  go_wp2_with fail
  rw [← hp0]
  refine calls_abs ?_
  intro W hW
  have b0 : W.heap[p0]? = some (.cells #[.string nx, .int .u16 (q.ty : Nat), .int .u16 (q.cl : Nat)] 25 (0, 0)) := by rw [hW]; exact heap_new' _ _ _ hp0
  have hcW : Chg [] w W := by rw [hW]; exact (Chg.refl _ _).alloc _
  have hlt0 : p0 < W.heap.size := lt_of_block b0
  clear hW hp0
  refine (row_any F t n m L W (HF.out.same hcW)).mono ?_
  rintro e w1 ⟨v1, rfl, ho1, hc1⟩
  obtain ⟨ra, rc, rfl⟩ := ho1.len
  rw [← HLN.out] at ho1 ⊢
  have HO1 := Lib.hid ho1
  have HC1 := Lib.hid hc1
  have HB0 := Lib.hid b0
  have HCW := Lib.hid hcW
  clear ho1 hc1 b0 hcW
  go_wp2_with fail
  refine (rrow_any G x n m L w1 (HG.out.same (HCW.out.trans HC1.out))).mono ?_
  rintro e w2 ⟨v2, rfl, ho2, hc2⟩
  obtain ⟨sa, sc, rfl⟩ := ho2.len
  have hr1 := row_own (HO1.out.same hc2)
  have hr2 := row_own ho2
  rw [← HLN.out] at hr2 ⊢
  have HR1 := Lib.hid hr1
  have HR2 := Lib.hid hr2
  have HO2 := Lib.hid (HO1.out.same hc2)
  have HC2 := Lib.hid (HC1.out.trans hc2)
  clear ho2 hc2 hr1 hr2 HO1 HC1
  go_wp2_with fail
  refine (ints_same _ _ (slotsF L) w2 HR1.out HR2.out (by rw [← HLN.out]; omega)).mono ?_
  rintro e w3 ⟨rfl, hc3⟩
  have HO3 := Lib.hid (HO2.out.same hc3)
  have HC3 := Lib.hid (HC2.out.trans hc3)
  clear hc3 HR1 HR2 HO2 HC2
  go_wp2_with fail
  have hst : ∀ g, (Value.slice ra ln rc).ownBlock = some g → ∃ cur, w3.heap[g]? = some (.cells cur 3 (0, 0)) ∧ ln ≤ cur.size ∧ W.heap.size ≤ g := by
    intro g hg
    have hb := HO3.out.blk g hg
    obtain ⟨h1, h2⟩ := HO3.out
    rcases h2 with ⟨hv, _⟩ | ⟨g2, cap, cur, hv, _, hh, hle, _, hs, _⟩
    · rw [hv] at hg; simp [Value.ownBlock] at hg
    · injection hv with e1 e2 e3
      subst e1
      simp [Value.ownBlock] at hg
      subst hg
      exact ⟨cur, hh, by rw [hs]; omega, hb.1⟩
  have hshape : 0 < ln → ∃ g, ra = some ⟨g, 0, none⟩ := by
    intro h0
    obtain ⟨g, c, hv, _⟩ := HO3.out.cells sV_len (by rw [← HLN.out]; exact h0)
    exact ⟨g, (Value.slice.inj hv).1⟩
  have HST := Lib.hid hst
  have HSH := Lib.hid hshape
  clear hst hshape HO3
  go_loopw [11] (fun i wr => ∃ j : Nat, j ≤ ln ∧ i = .int .i64 (j : Nat) ∧ Chg (blkL (.slice ra ln rc)) w3 wr ∧ ∀ g, (Value.slice ra ln rc).ownBlock = some g → ∃ cur, wr.heap[g]? = some (.cells cur 3 (0, 0)) ∧ ln ≤ cur.size) (fun i _ => ln - (intOf i).toNat)
  case atStart => exact ⟨0, Nat.zero_le _, rfl, Chg.refl _ _, fun g hg => by obtain ⟨cur, h1, h2, _⟩ := HST.out g hg; exact ⟨cur, h1, h2⟩⟩
  case round =>
    obtain ⟨j, hj, rfl, hC, hB⟩ := hrel
    by_cases hlt : j < ln
    · obtain ⟨g, hg⟩ := HSH.out (by omega)
      subst hg
      obtain ⟨cur, hb, hcs⟩ := hB g rfl
      have d0 : ∃ u, wr.cell? ⟨g, j, none⟩ = some u := ⟨cur[j], by rw [cell_of hb]; simp <;> omega⟩
      obtain ⟨u, d0⟩ := d0
      have f0 : wr.frozen? ⟨g, j, none⟩ = false := free_of hb
      have HBB := Lib.hid hb
      have HC := Lib.hid hC
      clear hb hC hB
      go_wp2
      go_roundw
      case rel => exact ⟨j + 1, by omega, by go_num, HC.out.trans (Chg.set1 _ _ _ _ |>.mono (fun y hy => by simp at hy; subst hy; exact mem_blkL.2 rfl)), fun g' hg' => by cases hg'; exact ⟨_, heap_set HBB.out _, by simpa using hcs⟩⟩
      case measure => simp [intOf] <;> omega
    · obtain rfl : j = ln := by omega
      have hnw : ∀ y ∈ blkL (.slice ra j rc), y ∈ ([] : List Nat) ∨ W.heap.size ≤ y := fun y hy => by
        obtain ⟨_, _, _, h⟩ := HST.out y (mem_blkL.1 hy)
        exact .inr h
      have hC3 : Chg [] W wr := HC3.out.trans_new hC hnw
      have HC3 := Lib.hid hC3
      have hb3 := hC3.keep HB0.out (by simp)
      have HB3 := Lib.hid hb3
      have k0 : wr.cell? ⟨p0, 0, none⟩ = some (.string nx) := cell_of hb3
      have k1 : wr.cell? ⟨p0, 1, none⟩ = some (.int .u16 (q.ty : Nat)) := cell_of hb3
      have k2 : wr.cell? ⟨p0, 2, none⟩ = some (.int .u16 (q.cl : Nat)) := cell_of hb3
      obtain ⟨fa, hfa⟩ : ∃ fa, fa = findAt L q := ⟨_, rfl⟩
      obtain ⟨fi, hfi⟩ : ∃ fi, fi = findIs L q := ⟨_, rfl⟩
      have hcall : ∀ W2, Chg [] W W2 → Calls Try.prog 21 #[.pointer (some ⟨t, 0, none⟩), .agg #[.string nx, .int .u16 (q.ty : Nat), .int .u16 (q.cl : Nat)]] W2 fun e w' => e = .returned (.tuple #[.int .i64 (fa : Nat), .bool fi]) ∧ Chg [] W2 w' := fun W2 hc => by
        rw [HNX.out]
        exact find_any F t n m L W2 q fa fi (HF.out.same (HCW.out.trans hc)) hq (Lib.hid hfa) (Lib.hid hfi)
      have hcall2 : ∀ W2, Chg [] W W2 → Calls Try.prog 44 #[.pointer (some ⟨x, 0, none⟩), .agg #[.string nx, .int .u16 (q.ty : Nat), .int .u16 (q.cl : Nat)]] W2 fun e w' => e = .returned (.tuple #[.int .i64 (fa : Nat), .bool fi]) ∧ Chg [] W2 w' := fun W2 hc => by
        rw [HNX.out]
        exact rfind_any G x n m L W2 q fa fi (HG.out.same (HCW.out.trans hc)) hql (Lib.hid hfa) (Lib.hid hfi)
      have c1 := hcall wr hC3
      have HC2 := Lib.hid hcall2
      clear hC hB hC3 hb3 hnw hfa hfi hcall hcall2 HST HSH
      go_wp2_with fail
      refine c1.mono ?_
      rintro e w4 ⟨rfl, hc4⟩
      have hb4 := hc4.keep HB3.out (by simp)
      have k0 : w4.cell? ⟨p0, 0, none⟩ = some (.string nx) := cell_of hb4
      have k1 : w4.cell? ⟨p0, 1, none⟩ = some (.int .u16 (q.ty : Nat)) := cell_of hb4
      have k2 : w4.cell? ⟨p0, 2, none⟩ = some (.int .u16 (q.cl : Nat)) := cell_of hb4
      have HC4 := Lib.hid (HC3.out.trans hc4)
      have c2 := HC2.out w4 HC4.out
      clear hc4 hb4 c1 HB3 HC2
      go_wp2_with fail
      refine c2.mono ?_
      rintro e w5 ⟨rfl, hc5⟩
      have HC5 := Lib.hid (HC4.out.trans hc5)
      clear hc5 c2 k0 k1 k2 HC3 HC4
      obtain ⟨v, rs, hT5⟩ := HG.out.same (HCW.out.trans HC5.out)
      have x0 : w5.cell? ⟨x, 0, none⟩ = some (.int .i64 (n : Nat)) := cell_of hT5.head
      obtain ⟨gb, hgb⟩ : ∃ gb, gb = w5.heap.size := ⟨_, rfl⟩
      have hb6 : (w5.alloc (.cells (rowCells s n) 3)).heap[gb]? = some (.cells (rowCells s n) 3 (0, 0)) := heap_new' _ _ _ hgb
      have HB6 := Lib.hid hb6
      have HC6 := Lib.hid (HC5.out.alloc (.cells (rowCells s n) 3))
      have HGB := Lib.hid hgb
      clear hT5 hgb hb6
      go_wp2_with fail
      rw [← HGB.out]
      go_loopw [56] (fun i wr => ∃ j : Nat, j ≤ 6 ∧ i = .int .i64 (j : Nat) ∧ wr.heap[gb]? = some (.cells (rowCells s n) 3 (0, 0)) ∧ Chg [] W wr) (fun i _ => 6 - (intOf i).toNat)
      case atStart => exact ⟨0, Nat.zero_le _, rfl, HB6.out, HC6.out⟩
      case round =>
        clear HB6 HC6 x0 HGB HC5
        obtain ⟨j, hj, rfl, hb, hC⟩ := hrel
        by_cases hlt : j < 6
        · obtain ⟨z, dz⟩ : ∃ z : Int, wr.cell? ⟨gb, j, none⟩ = some (.int .i64 z) := by
            rw [cell_of hb]
            have : j = 0 ∨ j = 1 ∨ j = 2 ∨ j = 3 ∨ j = 4 ∨ j = 5 := by omega
            rcases this with rfl | rfl | rfl | rfl | rfl | rfl
            · exact ⟨s, rfl⟩
            · exact ⟨0, rfl⟩
            · exact ⟨1, rfl⟩
            · exact ⟨2, rfl⟩
            · exact ⟨-1, rfl⟩
            · exact ⟨n, rfl⟩
          obtain ⟨y, hy⟩ : ∃ y, y = questF L z := ⟨_, rfl⟩
          obtain ⟨u, hu⟩ : ∃ u, u = useF L z := ⟨_, rfl⟩
          obtain ⟨k, hk⟩ : ∃ k, k = waitsF L z := ⟨_, rfl⟩
          have hoky : OkQ y := by rw [hy]; exact quest_ok HOK.out z
          have HY := Lib.hid hy
          have HU := Lib.hid hu
          have HK := Lib.hid hk
          have HOY := Lib.hid hoky
          have HB := Lib.hid hb
          have HC := Lib.hid hC
          clear hy hu hk hoky hb hC
          go_wp2_with fail
          refine (quest_any F t n m L wr z y u (HF.out.same (HCW.out.trans HC.out)) HY HU).mono ?_
          rintro e w6 ⟨rfl, hc6⟩
          obtain ⟨ny, hny⟩ : ∃ ny, ny = bytesV y.name := ⟨_, rfl⟩
          obtain ⟨qb, hqb⟩ : ∃ qb, qb = w6.heap.size := ⟨_, rfl⟩
          rw [← hny]
          have HNY := Lib.hid hny
          have HQB := Lib.hid hqb
          have HC6 := Lib.hid hc6
          clear hny hqb hc6
          go_wp2_with fail
          rw [← HQB.out]
          refine calls_abs ?_
          intro W7 hW7
          have q7 : W7.heap[qb]? = some (.cells #[.string ny, .int .u16 (y.ty : Nat), .int .u16 (y.cl : Nat)] 25 (0, 0)) := by rw [hW7]; exact heap_new' _ _ _ HQB.out
          have hC7 : Chg [] wr W7 := by rw [hW7]; exact HC6.out.alloc _
          have HQ7 := Lib.hid q7
          have HC7 := Lib.hid hC7
          clear hW7 q7 hC7 HC6 HQB
          refine (rquest_any G x n m L W7 z y u (HG.out.same (HCW.out.trans (HC.out.trans HC7.out))) HY HU).mono ?_
          rintro e w8 ⟨rfl, hc8⟩
          obtain ⟨qc, hqc⟩ : ∃ qc, qc = w8.heap.size := ⟨_, rfl⟩
          rw [← HNY.out]
          have hW9 : (w8.alloc (.cells #[.string ny, .int .u16 (y.ty : Nat), .int .u16 (y.cl : Nat)] 25)).heap[qc]? = some (.cells #[.string ny, .int .u16 (y.ty : Nat), .int .u16 (y.cl : Nat)] 25 (0, 0)) := heap_new' _ _ _ hqc
          have hca : Chg [] w8 (w8.alloc (.cells #[.string ny, .int .u16 (y.ty : Nat), .int .u16 (y.cl : Nat)] 25)) := (Chg.refl _ _).alloc _
          have q9 := hca.keep (hc8.keep HQ7.out (by simp)) (by simp)
          have hC9 : Chg [] wr (w8.alloc (.cells #[.string ny, .int .u16 (y.ty : Nat), .int .u16 (y.cl : Nat)] 25)) := (HC7.out.trans hc8).trans hca
          have b0 : (w8.alloc (.cells #[.string ny, .int .u16 (y.ty : Nat), .int .u16 (y.cl : Nat)] 25)).cell? ⟨qb, 0, none⟩ = some (.string ny) := cell_of q9
          have b1 : (w8.alloc (.cells #[.string ny, .int .u16 (y.ty : Nat), .int .u16 (y.cl : Nat)] 25)).cell? ⟨qb, 1, none⟩ = some (.int .u16 (y.ty : Nat)) := cell_of q9
          have b2 : (w8.alloc (.cells #[.string ny, .int .u16 (y.ty : Nat), .int .u16 (y.cl : Nat)] 25)).cell? ⟨qb, 2, none⟩ = some (.int .u16 (y.cl : Nat)) := cell_of q9
          have HQC := Lib.hid hqc
          have hneq : ∀ w, (binOp .neq 25 (.agg #[.string ny, .int .u16 (y.ty : Nat), .int .u16 (y.cl : Nat)]) (.agg #[.string ny, .int .u16 (y.ty : Nat), .int .u16 (y.cl : Nat)])).run Try.prog w = .ok (.bool false) w := by
            intro w
            rw [HNY.out, neqQ w HOY.out HOY.out]
            simp
          have HC9 := Lib.hid hC9
          clear hqc hW9 hca q9 hC9 hc8 HQ7 HC7
          go_wp2_with fail
          refine (waits_any F t n m L _ z k (HF.out.same (HCW.out.trans (HC.out.trans HC9.out))) HK).mono ?_
          rintro e w10 ⟨rfl, rfl⟩
          go_wp2_with fail
          refine (rwaits_any G x n m L _ z k (HG.out.same (HCW.out.trans (HC.out.trans HC9.out))) HK).mono ?_
          rintro e w10 ⟨rfl, rfl⟩
          have hbn := HC9.out.keep HB.out (by simp)
          have hCn := HC.out.trans HC9.out
          clear b0 b1 b2 hneq
          go_wp2
          go_roundw
          case rel => exact ⟨j + 1, by omega, by go_num, hbn, hCn⟩
          case measure => simp [intOf] <;> omega
        · obtain rfl : j = 6 := by omega
          obtain ⟨v, rs, hT5⟩ := HG.out.same (HCW.out.trans hC)
          obtain ⟨av, cv, hv⟩ := hT5.row.len
          rw [hT5.len, ← HLL.out] at hv
          subst hv
          have x2 : wr.cell? ⟨x, 2, none⟩ = some (.slice av j cv) := cell_of hT5.head
          have HC := Lib.hid hC
          have S0 := Lib.hid x2
          have hfin := HCW.out.trans hC
          have HFW := Lib.hid (HF.out.same hfin)
          clear hT5 hC hb hlt hj x2
          go_wp2_with fail
          go_region_held3 (fun W => W.cell? ⟨x, 2, none⟩ = some (.slice av j cv)) (exact S0.out) (first | (go_at_call 26; refine (len_any F t n m L _ j ?_ HLL).mono ?_; exact HFW.out.same ((Chg.refl [] wr).drewN _); rintro e9 w9 ⟨rfl, rfl⟩))
          have hfin2 : Chg [] w wr.drew := hfin.drew
          go_wp2
          go_ret
          exact ⟨rfl, hfin2⟩

end Go.Proofs.Ytopkbchjlifflaa
