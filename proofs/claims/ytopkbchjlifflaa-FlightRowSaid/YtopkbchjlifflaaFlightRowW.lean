/- The walk of FlightRow. -/
import Derived.Test.YtopkbchjlifflaaFlM
namespace Go.Proofs.Ytopkbchjlifflaa
open Go.RowKit Go.Maps

theorem begF_cases (L : List Fl) (n : Nat) (q : Qs) : ∃ L' r e, beginF L n q = (L', r, e) ∧ (e = 1 ∨ e = 7 ∨ e = 9 ∨ (e = 0 ∧ usedF L' r = true ∧ wsF L' r = [] ∧ r < n)) := by
  unfold beginF
  by_cases h1 : mayB q.name = true
  · rw [if_pos h1]
    by_cases h2 : (findF L (foldQ q)).isSome = true
    · rw [if_pos h2]
      exact ⟨_, _, _, rfl, by omega⟩
    · rw [if_neg h2]
      rcases freeF_spec L n n 0 (by omega) with ⟨h3, _⟩ | ⟨i, h3, _, h5, h6, _⟩
      · rw [h3]
        exact ⟨_, _, _, rfl, by omega⟩
      · rw [h3]
        refine ⟨_, _, _, rfl, .inr (.inr (.inr ⟨rfl, ?_, ?_, h5⟩))⟩
        · rw [usedF_append]; simp
        · unfold wsF; rw [getF_new (f := ⟨i, foldQ q, []⟩) h6]; rfl
  · rw [if_neg h1]
    exact ⟨_, _, _, rfl, by omega⟩
/-- What holds in the loop: who waits at the slot is what is wanted. -/
structure RowI (w wr : World) (tb n m slot : Nat) (v : Value) (W : List Wt) (L : List Fl) (F : List Nat) : Prop where
  ft : FT F wr tb n m L
  lo : ∀ y ∈ F, w.heap.size ≤ y
  no : ∀ g, v.ownBlock = some g → g ∉ F
  own : R.OwnR 36 2 wV w.heap.size wr v W
  used : usedF L slot = true
  ws : wsF L slot = W
  chg : Chg [] w wr
  ok : ∀ x ∈ W, OkX x
  le : W.length ≤ m

theorem doF_keep {n m : Nat} {L : List Fl} (h : OkF n m L) {r : Nat} (hu : usedF L r = true) {A : ActT} (hA : A.k = 0 ∨ A.s ≠ (r : Int)) : usedF (doF n m L A) r = true ∧ wsF (doF n m L A) r = wsF L r := by
  unfold doF
  by_cases h0 : A.k = 0
  · rw [if_pos h0]
    unfold beginF
    split
    · split
      · exact ⟨hu, rfl⟩
      · rcases freeF_spec L n n 0 (by omega) with ⟨h3, _⟩ | ⟨i, h3, _, _, h6, _⟩
        · rw [h3]; exact ⟨hu, rfl⟩
        · rw [h3]
          have hne : r ≠ i := fun e => by rw [e, h6] at hu; cases hu
          refine ⟨by rw [usedF_append, hu]; rfl, ?_⟩
          unfold wsF
          rw [getF_other L ⟨i, foldQ A.q, []⟩ hne]
    · exact ⟨hu, rfl⟩
  · rw [if_neg h0]
    have hs : A.s ≠ (r : Int) := by rcases hA with e | e; exact absurd e h0; exact e
    by_cases h1 : A.k = 1
    · rw [if_pos h1]
      unfold joinF
      by_cases hue : useF L A.s = true
      · rw [if_pos hue]
        obtain ⟨k, hk, _⟩ := use_cast hue
        have hne : r ≠ A.s.toNat := by omega
        split
        · exact ⟨hu, rfl⟩
        · split
          · exact ⟨hu, rfl⟩
          · exact ⟨by rw [setW_used]; exact hu, setW_ws_other _ _ hne⟩
      · rw [if_neg hue]; exact ⟨hu, rfl⟩
    · rw [if_neg h1]
      by_cases h2 : A.k = 2
      · rw [if_pos h2]
        unfold endA
        by_cases hue : useF L A.s = true
        · rw [if_pos hue]
          obtain ⟨k, hk, _⟩ := use_cast hue
          have hne : r ≠ A.s.toNat := by omega
          exact ⟨by rw [endF_used]; simp [hne, hu], by unfold wsF; rw [endF_get, if_neg hne]⟩
        · rw [if_neg hue]; exact ⟨hu, rfl⟩
      · rw [if_neg h2]; exact ⟨hu, rfl⟩
theorem RowI.after {w wr w2 : World} {tb n m r : Nat} {v : Value} {W : List Wt} {L L2 : List Fl} {F : List Nat} (h : RowI w wr tb n m r v W L F) (k : FNext F wr w2 tb n m L2) (hu : usedF L2 r = true) (hw : wsF L2 r = W) : ∃ F2, RowI w w2 tb n m r v W L2 F2 := by
  obtain ⟨F2, k1, k2, k3⟩ := k
  have own := h.own.chg k2 h.no
  refine ⟨F2, k1, fun y hy => ?_, fun g hg hh => ?_, own, hu, hw, h.chg.trans_new k2 (fun y hy => .inr (h.lo y hy)), h.ok, h.le⟩
  · rcases k3 y hy with e | e
    · exact h.lo y e
    · exact Nat.le_trans h.chg.size e
  · rcases k3 g hh with e | e
    · exact h.no g hg e
    · have := (h.own.blk g hg).2.1; omega
theorem RowI.push {w wr w6 w7 : World} {tb n m r g7 c7 : Nat} {v : Value} {W : List Wt} {L : List Fl} {F : List Nat} {x : Wt} {o : Obj} (h : RowI w wr tb n m r v W L F) (k : FNext F wr w6 tb n m (setW L r (W ++ [x]))) (hg : (w6.alloc o).grownBy w7 v.ownBlock) (hx : OkX x) (hlt : W.length < m)
    (ho : w7.ownsRow w.heap.size 36 2 (.slice (some ⟨g7, 0, none⟩) (W.length + 1) c7) (W.length + 1) (W.flatMap wV ++ wV x)) (ha : v.ownBlock = some g7 ∨ g7 = w6.heap.size + 1) : ∃ F2, RowI w w7 tb n m r (.slice (some ⟨g7, 0, none⟩) (W.length + 1) c7) (W ++ [x]) (setW L r (W ++ [x])) F2 := by
  obtain ⟨F2, k1, k2, k3⟩ := k
  have hvlt : ∀ g, v.ownBlock = some g → w.heap.size ≤ g ∧ g < wr.heap.size := fun g hg => ⟨(h.own.blk g hg).1, (h.own.blk g hg).2.1⟩
  have hno2 : ∀ g, v.ownBlock = some g → g ∉ F2 := by
    intro g hg hh
    rcases k3 g hh with e | e
    · exact h.no g hg e
    · have := (hvlt g hg).2; omega
  have c67 : Chg (blkL v) w6 w7 := (((Chg.refl [] w6).alloc o).mono (by simp)).grown hg (fun k hk => .inl (mem_blkL.2 hk))
  have hc7 : Chg [] w w7 := (h.chg.trans_new k2 (fun y hy => .inr (h.lo y hy))).trans_new c67 (fun y hy => .inr (hvlt y (mem_blkL.1 hy)).1)
  have f7 : FT F2 w7 tb n m (setW L r (W ++ [x])) := k1.chg c67 (fun y hy hh => hno2 y (mem_blkL.1 hh) hy)
  refine ⟨F2, f7, fun y hy => ?_, fun g hg7 hh => ?_, R.OwnR.snoc ho, by rw [setW_used]; exact h.used, setW_ws_same _ h.used, hc7, ?_, by rw [List.length_append, List.length_singleton]; omega⟩
  · rcases k3 y hy with e | e
    · exact h.lo y e
    · exact Nat.le_trans h.chg.size e
  · have e0 := own_of _ _ _ _ rfl g hg7
    subst e0
    rcases ha with e | e
    · exact hno2 g e hh
    · have := k1.lt g hh; omega
  · intro y hy
    rcases List.mem_append.1 hy with e | e
    · exact h.ok y e
    · simp at e; subst e; exact hx

set_option maxRecDepth 100000 in
set_option maxHeartbeats 8000000 in
theorem flightRow_walk (x y : Int) (a : Option Addr) (cap : Nat) (acts : List ActT) (q : Qs) (wa : Option Addr) (wc : Nat) (who : List Wt) (ba : Option Addr) (bc : Nat) (bet : List ActT) (w : World) (_hx : (Lit.int .i64 x).wf = true) (_hy : (Lit.int .i64 y).wf = true) (hA : IsActs w a acts) (hq : OkQ q) (hW : IsWts w wa who) (hB : IsActs w ba bet) :
    Calls Try.prog 3 #[.int .i64 x, .int .i64 y, .slice a acts.length cap, .agg #[.string (bytesV q.name), .int .u16 (q.ty : Nat), .int .u16 (q.cl : Nat)], .slice wa who.length wc, .slice ba bet.length bc] w fun e w' => e = .returned (.bool true) ∧ Below w.heap.size w w' := by
  have hmax := hA.1
  have hmax2 := hB.1
  have hmax3 := hW.1
  unfold maxLen at hmax hmax2 hmax3
  have HA := Lib.hid hA
  have HB := Lib.hid hB
  have HW := Lib.hid hW
  have HQ := Lib.hid hq
  obtain ⟨nx, hnx⟩ : ∃ nx, nx = bytesV q.name := ⟨_, rfl⟩
  rw [← hnx]
  have HNX := Lib.hid hnx
  clear hA hB hW hq hnx
  go_enter Try.func3, Try.ntmps3
  go_wp2_with fail
  obtain ⟨px, hpx⟩ : ∃ px, px = w.heap.size := ⟨_, rfl⟩
  rw [← hpx]
  refine calls_abs ?_
  intro W0 hW0
  have hc0 : Chg [] w W0 := by rw [hW0]; exact (Chg.refl _ _).alloc _
  have hb0 : W0.heap[px]? = some (.cells #[.string nx, .int .u16 (q.ty : Nat), .int .u16 (q.cl : Nat)] 25 (0, 0)) := by rw [hW0]; exact heap_new' _ _ _ hpx
  have hpxl : w.heap.size ≤ px := by omega
  clear hW0 hpx
  refine (long_any a cap acts W0 (HA.out.chg hc0)).mono ?_
  rintro e w1 ⟨b1, rfl, dc1⟩
  have hc1 := hc0.trans dc1
  cases b1 with
  | true =>
    go_wp2_with fail
    refine (awake_any _).mono ?_
    rintro e w9 ⟨rfl, hc9⟩
    go_wp2
    go_ret
    exact ⟨rfl, (hc1.trans hc9).below (Nat.le_refl _) (by simp)⟩
  | false =>
    go_wp2_with fail
    refine (long_any ba bc bet w1 (HB.out.chg hc1)).mono ?_
    rintro e w2 ⟨b2, rfl, dc2⟩
    have hc2 := hc1.trans dc2
    replace dc2 := dc1.trans dc2
    have hb2 := dc2.keep hb0 (by simp)
    have k0 : w2.cell? ⟨px, 0, none⟩ = some (.string nx) := cell_of hb2
    cases b2 with
    | true =>
      go_wp2_with fail
      refine (awake_any _).mono ?_
      rintro e w9 ⟨rfl, hc9⟩
      go_wp2
      go_ret
      exact ⟨rfl, (hc2.trans hc9).below (Nat.le_refl _) (by simp)⟩
    | false =>
      by_cases hq1 : 1000 < nx.size
      · have t1 : decide (1000 < nx.size) = true := by simpa using hq1
        have t1I : decide ((1000 : Int) < (nx.size : Int)) = true := by simp; omega
        clear hq1
        go_wp2_with fail
        refine (awake_any _).mono ?_
        rintro e w9 ⟨rfl, hc9⟩
        go_wp2
        go_ret
        exact ⟨rfl, (hc2.trans hc9).below (Nat.le_refl _) (by simp)⟩
      have t1 : decide (1000 < nx.size) = false := by simpa using hq1
      have t1I : decide ((1000 : Int) < (nx.size : Int)) = false := by simp; omega
      by_cases hw1 : 100 < who.length
      · have t2 : decide (100 < who.length) = true := by simpa using hw1
        have t2I : decide ((100 : Int) < (who.length : Int)) = true := by simp; omega
        clear hq1 hw1
        go_wp2_with fail
        refine (awake_any _).mono ?_
        rintro e w9 ⟨rfl, hc9⟩
        go_wp2
        go_ret
        exact ⟨rfl, (hc2.trans hc9).below (Nat.le_refl _) (by simp)⟩
      have t2 : decide (100 < who.length) = false := by simpa using hw1
      have t2I : decide ((100 : Int) < (who.length : Int)) = false := by simp; omega
      have hwl : who.length ≤ 100 := by omega
      clear hq1 hw1
      go_wp2_with fail
      refine (awake_any _).mono ?_
      rintro e w3 ⟨rfl, dc3⟩
      have hc3 := hc2.trans dc3
      replace dc3 := dc2.trans dc3
      obtain ⟨n, hn⟩ : ∃ n, n = flN x := ⟨_, rfl⟩
      obtain ⟨m, hm⟩ : ∃ m, m = wtN y := ⟨_, rfl⟩
      obtain ⟨L, hL⟩ : ∃ L, L = runF n m [] acts := ⟨_, rfl⟩
      have hm16 : m ≤ 16 := by rw [hm]; unfold wtN; omega
      have HN := Lib.hid hn
      have HM := Lib.hid hm
      have HL := Lib.hid hL
      clear hn hm hL k0 hb2
      go_wp2_with fail
      refine (made_any x y a cap acts n m L w3 (HA.out.chg hc3) HN HM HL).mono ?_
      rintro e w4 ⟨tb, rfl, F4, hF4, hlo4, dc4⟩
      have hc4 := hc3.trans dc4
      replace dc4 := dc3.trans dc4
      have hb4 := dc4.keep hb0 (by simp)
      have k0 : w4.cell? ⟨px, 0, none⟩ = some (.string nx) := cell_of hb4
      have k1 : w4.cell? ⟨px, 1, none⟩ = some (.int .u16 (q.ty : Nat)) := cell_of hb4
      have k2 : w4.cell? ⟨px, 2, none⟩ = some (.int .u16 (q.cl : Nat)) := cell_of hb4
      obtain ⟨L', r, e, hbeg, hcase⟩ := begF_cases L n q
      have hlow : ∀ y ∈ F4, w.heap.size ≤ y := fun y hy => Nat.le_trans hc3.size (hlo4 y hy)
      have hbg : Calls Try.prog 12 #[.pointer (some ⟨tb, 0, none⟩), .agg #[.string nx, .int .u16 (q.ty : Nat), .int .u16 (q.cl : Nat)]] w4 fun x w' => x = .returned (.tuple #[.int .i64 (r : Nat), .int .i64 (e : Nat)]) ∧ FNext F4 w4 w' tb n m L' := by
        rw [HNX.out]
        exact begin_any F4 tb n m L w4 q r e L' hF4 HQ.out (Lib.hid hbeg)
      have HLOW := Lib.hid hlow
      clear hbeg hF4 hlo4 hb4
      go_wp2_with fail
      refine hbg.mono ?_
      rintro e9 w5 ⟨rfl, F5, hF5, hc5, hs5⟩
      have hC5 : Chg [] w w5 := hc4.trans_new hc5 (fun y hy => .inr (HLOW.out y hy))
      rcases hcase with rfl | rfl | rfl | ⟨rfl, hu, hws, hr⟩
      · clear hbg
        go_wp2
        go_ret
        exact ⟨rfl, hC5.below (Nat.le_refl _) (by simp)⟩
      · clear hbg
        go_wp2
        go_ret
        exact ⟨rfl, hC5.below (Nat.le_refl _) (by simp)⟩
      · clear hbg
        go_wp2
        go_ret
        exact ⟨rfl, hC5.below (Nat.le_refl _) (by simp)⟩
      · have hI5 : RowI w w5 tb n m r (.slice none 0 0) [] L' F5 := by
          refine ⟨hF5, fun y hy => ?_, fun g hg => by simp [Value.ownBlock] at hg, R.OwnR.nil _ _ _ _ _, hu, hws, hC5, by simp, Nat.zero_le _⟩
          rcases hs5 y hy with e | e
          · exact HLOW.out y e
          · exact Nat.le_trans hc4.size e
        have HI5 := Lib.hid hI5
        clear hbg hF5 hc5 hs5 hC5 hu hws hI5 k0 k1 k2
        go_wp2_with fail
        go_loopw [18, 19] (fun v i wr => ∃ (j : Nat) (W : List Wt) (L : List Fl) (F : List Nat), j ≤ who.length + bet.length ∧ i = .int .i64 (j : Nat) ∧ RowI w wr tb n m r v W L F) (fun _ i _ => (who.length + bet.length) - (intOf i).toNat)
        case atStart => exact ⟨0, [], L', F5, Nat.zero_le _, rfl, HI5.out⟩
        case round =>
          clear HI5
          obtain ⟨j, W, LL, FF, hj, rfl, hI⟩ := hrel
          obtain ⟨va, vc, hva⟩ := hI.own.len
          obtain ⟨wl, hwl2⟩ : ∃ wl, wl = W.length := ⟨_, rfl⟩
          rw [← hwl2] at hva
          subst hva
          have hwlm : wl ≤ m := by rw [hwl2]; exact hI.le
          by_cases hw : j < who.length
          · obtain ⟨wg, wo, hwa, hwgw, hwc0, hwok⟩ := HW.out.2 j hw
            have hwc := fun k u hu => hI.chg.cell (hwc0 k u hu) (by simp)
            obtain ⟨X, hX⟩ : ∃ X, X = who[j] := ⟨_, rfl⟩
            rw [← hX] at hwc hwok
            obtain ⟨cw, hcw⟩ : ∃ cw, cw = X.who := ⟨_, rfl⟩
            obtain ⟨dx, hdx⟩ : ∃ dx, dx = bytesV X.data := ⟨_, rfl⟩
            have a0 : wr.cell? ⟨wg, wo + j * 2, none⟩ = some (.int .i64 cw) := by rw [hcw]; exact hwc 0 _ rfl
            have a1 : wr.cell? ⟨wg, wo + j * 2 + 1, none⟩ = some (.string dx) := by rw [hdx]; exact hwc 1 _ rfl
            have tw : decide (j < who.length) = true := by simpa using hw
            have twI : decide ((j : Int) < (who.length : Int)) = true := by simp; omega
            subst hwa
            have huse : useF LL (r : Int) = true := by unfold useF; simp [hI.used]
            have hjf : joinF LL m (r : Int) X = if cw < 0 ∨ 65535 < cw then (LL, 1) else if m ≤ wl then (LL, 9) else (setW LL r (W ++ [X]), 0) := by
              unfold joinF
              rw [if_pos huse, hcw, Int.toNat_natCast, hI.ws, hwl2]
            have hjn : ∀ e L2, joinF LL m (r : Int) X = (L2, e) → Calls Try.prog 13 #[.pointer (some ⟨tb, 0, none⟩), .int .i64 (r : Nat), .agg #[.int .i64 cw, .string dx]] wr fun z w' => z = .returned (.int .i64 (e : Nat)) ∧ FNext FF wr w' tb n m L2 := by
              intro e L2 hh
              rw [hcw, hdx]
              exact join_any FF tb n m LL wr (r : Int) X e L2 hI.ft (Lib.hid hh)
            have HI := Lib.hid hI
            have HJF := Lib.hid hjf
            have HWL := Lib.hid hwl2
            have HDX := Lib.hid hdx
            have HCW := Lib.hid hcw
            have HOK := Lib.hid hwok
            clear hI hjf hwl2 hX hdx hcw hwok hwc hwc0 huse
            have hstay : ∀ e, joinF LL m (r : Int) X = (LL, e) → Calls Try.prog 13 #[.pointer (some ⟨tb, 0, none⟩), .int .i64 (r : Nat), .agg #[.int .i64 cw, .string dx]] wr fun z w' => z = .returned (.int .i64 (e : Nat)) ∧ ∃ F2, RowI w w' tb n m r (.slice va wl vc) W LL F2 := by
              intro e hh
              refine (hjn e LL hh).mono ?_
              rintro z w' ⟨rfl, hN⟩
              exact ⟨rfl, HI.out.after hN HI.out.used HI.out.ws⟩
            by_cases h0 : cw < 0
            · have t0 : decide (0 ≤ cw) = false := by simp; omega
              have hs1 := hstay 1 (by rw [HJF.out, if_pos (.inl h0)])
              clear h0 hstay hjn
              go_wp2_with fail
              refine hs1.mono ?_
              rintro e6 w6 ⟨rfl, F6, h6⟩
              have H6 := Lib.hid h6
              clear h6 hs1 a0 a1
              by_cases hb : j < bet.length
              · obtain ⟨bg, bo, hba, _, hbc, hbok⟩ := (HB.out.chg H6.out.chg).2 j hb
                obtain ⟨A, hA⟩ : ∃ A, A = bet[j] := ⟨_, rfl⟩
                rw [← hA] at hbc hbok
                have b0 : w6.cell? ⟨bg, bo + j * 7, none⟩ = some (.int .u8 (A.k : Nat)) := hbc 0 _ rfl
                have b1 : w6.cell? ⟨bg, bo + j * 7 + 1, none⟩ = some (.string (bytesV A.q.name)) := hbc 1 _ rfl
                have b2 : w6.cell? ⟨bg, bo + j * 7 + 2, none⟩ = some (.int .u16 (A.q.ty : Nat)) := hbc 2 _ rfl
                have b3 : w6.cell? ⟨bg, bo + j * 7 + 3, none⟩ = some (.int .u16 (A.q.cl : Nat)) := hbc 3 _ rfl
                have b4 : w6.cell? ⟨bg, bo + j * 7 + 4, none⟩ = some (.int .i64 A.s) := hbc 4 _ rfl
                have b5 : w6.cell? ⟨bg, bo + j * 7 + 5, none⟩ = some (.int .i64 A.x.who) := hbc 5 _ rfl
                have b6 : w6.cell? ⟨bg, bo + j * 7 + 6, none⟩ = some (.string (bytesV A.x.data)) := hbc 6 _ rfl
                have tb1 : decide (j < bet.length) = true := by simpa using hb
                have tb1I : decide ((j : Int) < (bet.length : Int)) = true := by simp; omega
                subst hba
                have hdo := does_any _ tb n m _ w6 A H6.out.ft hbok
                have hnext : ∀ w2, FNext _ w6 w2 tb n m (doF n m _ A) → (A.k = 0 ∨ A.s ≠ (r : Int)) → ∃ L2 F2, RowI w w2 tb n m r _ W L2 F2 := fun w2 k hA2 => by
                  obtain ⟨u1, u2⟩ := doF_keep H6.out.ft.ok H6.out.used hA2
                  obtain ⟨F2, h2⟩ := H6.out.after k u1 (u2.trans H6.out.ws)
                  exact ⟨_, F2, h2⟩
                have HNEXT := Lib.hid hnext
                clear hbc hbok hA hnext
                by_cases hk : A.k = 0
                · have tk : ((A.k : Int) == 0) = true := by simpa using hk
                  have hcond : A.k = 0 ∨ A.s ≠ (r : Int) := .inl hk
                  have HCOND := Lib.hid hcond
                  clear hk hcond
                  go_wp2_with fail
                  refine hdo.mono ?_
                  rintro e9 w9 ⟨rfl, hN9⟩
                  obtain ⟨L9, F9, h9⟩ := HNEXT.out w9 hN9 HCOND.out
                  have H9 := Lib.hid h9
                  clear h9 hN9 hdo b0 b1 b2 b3 b4 b5 b6
                  go_wp2
                  go_roundw
                  case rel => exact ⟨j + 1, _, _, _, by omega, by go_num, H9.out⟩
                  case measure => simp [intOf] <;> omega
                · have tk : ((A.k : Int) == 0) = false := by simp; omega
                  by_cases hs : A.s = (r : Int)
                  · have ts : (A.s != (r : Int)) = false := by simpa using hs
                    clear hk hs hdo
                    go_wp2
                    go_roundw
                    case rel => exact ⟨j + 1, _, _, _, by omega, by go_num, H6.out⟩
                    case measure => simp [intOf] <;> omega
                  · have ts : (A.s != (r : Int)) = true := by simpa using hs
                    have hcond : A.k = 0 ∨ A.s ≠ (r : Int) := .inr hs
                    have HCOND := Lib.hid hcond
                    clear hk hs hcond
                    go_wp2_with fail
                    refine hdo.mono ?_
                    rintro e9 w9 ⟨rfl, hN9⟩
                    obtain ⟨L9, F9, h9⟩ := HNEXT.out w9 hN9 HCOND.out
                    have H9 := Lib.hid h9
                    clear h9 hN9 hdo b0 b1 b2 b3 b4 b5 b6
                    go_wp2
                    go_roundw
                    case rel => exact ⟨j + 1, _, _, _, by omega, by go_num, H9.out⟩
                    case measure => simp [intOf] <;> omega
              · have tb1 : decide (j < bet.length) = false := by simpa using hb
                have tb1I : decide ((j : Int) < (bet.length : Int)) = false := by simp; omega
                go_wp2
                go_roundw
                case rel => exact ⟨j + 1, _, _, _, by omega, by go_num, H6.out⟩
                case measure => simp [intOf] <;> omega
            have t0 : decide (0 ≤ cw) = true := by simp; omega
            by_cases h1 : 65535 < cw
            · have t1 : decide (cw ≤ 65535) = false := by simp; omega
              have hs1 := hstay 1 (by rw [HJF.out, if_pos (.inr h1)])
              clear h0 h1 hstay hjn
              go_wp2_with fail
              refine hs1.mono ?_
              rintro e6 w6 ⟨rfl, F6, h6⟩
              have H6 := Lib.hid h6
              clear h6 hs1 a0 a1
              by_cases hb : j < bet.length
              · obtain ⟨bg, bo, hba, _, hbc, hbok⟩ := (HB.out.chg H6.out.chg).2 j hb
                obtain ⟨A, hA⟩ : ∃ A, A = bet[j] := ⟨_, rfl⟩
                rw [← hA] at hbc hbok
                have b0 : w6.cell? ⟨bg, bo + j * 7, none⟩ = some (.int .u8 (A.k : Nat)) := hbc 0 _ rfl
                have b1 : w6.cell? ⟨bg, bo + j * 7 + 1, none⟩ = some (.string (bytesV A.q.name)) := hbc 1 _ rfl
                have b2 : w6.cell? ⟨bg, bo + j * 7 + 2, none⟩ = some (.int .u16 (A.q.ty : Nat)) := hbc 2 _ rfl
                have b3 : w6.cell? ⟨bg, bo + j * 7 + 3, none⟩ = some (.int .u16 (A.q.cl : Nat)) := hbc 3 _ rfl
                have b4 : w6.cell? ⟨bg, bo + j * 7 + 4, none⟩ = some (.int .i64 A.s) := hbc 4 _ rfl
                have b5 : w6.cell? ⟨bg, bo + j * 7 + 5, none⟩ = some (.int .i64 A.x.who) := hbc 5 _ rfl
                have b6 : w6.cell? ⟨bg, bo + j * 7 + 6, none⟩ = some (.string (bytesV A.x.data)) := hbc 6 _ rfl
                have tb1 : decide (j < bet.length) = true := by simpa using hb
                have tb1I : decide ((j : Int) < (bet.length : Int)) = true := by simp; omega
                subst hba
                have hdo := does_any _ tb n m _ w6 A H6.out.ft hbok
                have hnext : ∀ w2, FNext _ w6 w2 tb n m (doF n m _ A) → (A.k = 0 ∨ A.s ≠ (r : Int)) → ∃ L2 F2, RowI w w2 tb n m r _ W L2 F2 := fun w2 k hA2 => by
                  obtain ⟨u1, u2⟩ := doF_keep H6.out.ft.ok H6.out.used hA2
                  obtain ⟨F2, h2⟩ := H6.out.after k u1 (u2.trans H6.out.ws)
                  exact ⟨_, F2, h2⟩
                have HNEXT := Lib.hid hnext
                clear hbc hbok hA hnext
                by_cases hk : A.k = 0
                · have tk : ((A.k : Int) == 0) = true := by simpa using hk
                  have hcond : A.k = 0 ∨ A.s ≠ (r : Int) := .inl hk
                  have HCOND := Lib.hid hcond
                  clear hk hcond
                  go_wp2_with fail
                  refine hdo.mono ?_
                  rintro e9 w9 ⟨rfl, hN9⟩
                  obtain ⟨L9, F9, h9⟩ := HNEXT.out w9 hN9 HCOND.out
                  have H9 := Lib.hid h9
                  clear h9 hN9 hdo b0 b1 b2 b3 b4 b5 b6
                  go_wp2
                  go_roundw
                  case rel => exact ⟨j + 1, _, _, _, by omega, by go_num, H9.out⟩
                  case measure => simp [intOf] <;> omega
                · have tk : ((A.k : Int) == 0) = false := by simp; omega
                  by_cases hs : A.s = (r : Int)
                  · have ts : (A.s != (r : Int)) = false := by simpa using hs
                    clear hk hs hdo
                    go_wp2
                    go_roundw
                    case rel => exact ⟨j + 1, _, _, _, by omega, by go_num, H6.out⟩
                    case measure => simp [intOf] <;> omega
                  · have ts : (A.s != (r : Int)) = true := by simpa using hs
                    have hcond : A.k = 0 ∨ A.s ≠ (r : Int) := .inr hs
                    have HCOND := Lib.hid hcond
                    clear hk hs hcond
                    go_wp2_with fail
                    refine hdo.mono ?_
                    rintro e9 w9 ⟨rfl, hN9⟩
                    obtain ⟨L9, F9, h9⟩ := HNEXT.out w9 hN9 HCOND.out
                    have H9 := Lib.hid h9
                    clear h9 hN9 hdo b0 b1 b2 b3 b4 b5 b6
                    go_wp2
                    go_roundw
                    case rel => exact ⟨j + 1, _, _, _, by omega, by go_num, H9.out⟩
                    case measure => simp [intOf] <;> omega
              · have tb1 : decide (j < bet.length) = false := by simpa using hb
                have tb1I : decide ((j : Int) < (bet.length : Int)) = false := by simp; omega
                go_wp2
                go_roundw
                case rel => exact ⟨j + 1, _, _, _, by omega, by go_num, H6.out⟩
                case measure => simp [intOf] <;> omega
            have t1 : decide (cw ≤ 65535) = true := by simp; omega
            by_cases h2 : m ≤ wl
            · have t2 : decide (wl < m) = false := by simp; omega
              have t2I : decide ((wl : Int) < (m : Int)) = false := by simp; omega
              have hs1 := hstay 9 (by rw [HJF.out, if_neg (by omega), if_pos h2])
              clear h0 h1 h2 hstay hjn
              go_wp2_with fail
              refine hs1.mono ?_
              rintro e6 w6 ⟨rfl, F6, h6⟩
              have H6 := Lib.hid h6
              clear h6 hs1 a0 a1
              by_cases hb : j < bet.length
              · obtain ⟨bg, bo, hba, _, hbc, hbok⟩ := (HB.out.chg H6.out.chg).2 j hb
                obtain ⟨A, hA⟩ : ∃ A, A = bet[j] := ⟨_, rfl⟩
                rw [← hA] at hbc hbok
                have b0 : w6.cell? ⟨bg, bo + j * 7, none⟩ = some (.int .u8 (A.k : Nat)) := hbc 0 _ rfl
                have b1 : w6.cell? ⟨bg, bo + j * 7 + 1, none⟩ = some (.string (bytesV A.q.name)) := hbc 1 _ rfl
                have b2 : w6.cell? ⟨bg, bo + j * 7 + 2, none⟩ = some (.int .u16 (A.q.ty : Nat)) := hbc 2 _ rfl
                have b3 : w6.cell? ⟨bg, bo + j * 7 + 3, none⟩ = some (.int .u16 (A.q.cl : Nat)) := hbc 3 _ rfl
                have b4 : w6.cell? ⟨bg, bo + j * 7 + 4, none⟩ = some (.int .i64 A.s) := hbc 4 _ rfl
                have b5 : w6.cell? ⟨bg, bo + j * 7 + 5, none⟩ = some (.int .i64 A.x.who) := hbc 5 _ rfl
                have b6 : w6.cell? ⟨bg, bo + j * 7 + 6, none⟩ = some (.string (bytesV A.x.data)) := hbc 6 _ rfl
                have tb1 : decide (j < bet.length) = true := by simpa using hb
                have tb1I : decide ((j : Int) < (bet.length : Int)) = true := by simp; omega
                subst hba
                have hdo := does_any _ tb n m _ w6 A H6.out.ft hbok
                have hnext : ∀ w2, FNext _ w6 w2 tb n m (doF n m _ A) → (A.k = 0 ∨ A.s ≠ (r : Int)) → ∃ L2 F2, RowI w w2 tb n m r _ W L2 F2 := fun w2 k hA2 => by
                  obtain ⟨u1, u2⟩ := doF_keep H6.out.ft.ok H6.out.used hA2
                  obtain ⟨F2, h2⟩ := H6.out.after k u1 (u2.trans H6.out.ws)
                  exact ⟨_, F2, h2⟩
                have HNEXT := Lib.hid hnext
                clear hbc hbok hA hnext
                by_cases hk : A.k = 0
                · have tk : ((A.k : Int) == 0) = true := by simpa using hk
                  have hcond : A.k = 0 ∨ A.s ≠ (r : Int) := .inl hk
                  have HCOND := Lib.hid hcond
                  clear hk hcond
                  go_wp2_with fail
                  refine hdo.mono ?_
                  rintro e9 w9 ⟨rfl, hN9⟩
                  obtain ⟨L9, F9, h9⟩ := HNEXT.out w9 hN9 HCOND.out
                  have H9 := Lib.hid h9
                  clear h9 hN9 hdo b0 b1 b2 b3 b4 b5 b6
                  go_wp2
                  go_roundw
                  case rel => exact ⟨j + 1, _, _, _, by omega, by go_num, H9.out⟩
                  case measure => simp [intOf] <;> omega
                · have tk : ((A.k : Int) == 0) = false := by simp; omega
                  by_cases hs : A.s = (r : Int)
                  · have ts : (A.s != (r : Int)) = false := by simpa using hs
                    clear hk hs hdo
                    go_wp2
                    go_roundw
                    case rel => exact ⟨j + 1, _, _, _, by omega, by go_num, H6.out⟩
                    case measure => simp [intOf] <;> omega
                  · have ts : (A.s != (r : Int)) = true := by simpa using hs
                    have hcond : A.k = 0 ∨ A.s ≠ (r : Int) := .inr hs
                    have HCOND := Lib.hid hcond
                    clear hk hs hcond
                    go_wp2_with fail
                    refine hdo.mono ?_
                    rintro e9 w9 ⟨rfl, hN9⟩
                    obtain ⟨L9, F9, h9⟩ := HNEXT.out w9 hN9 HCOND.out
                    have H9 := Lib.hid h9
                    clear h9 hN9 hdo b0 b1 b2 b3 b4 b5 b6
                    go_wp2
                    go_roundw
                    case rel => exact ⟨j + 1, _, _, _, by omega, by go_num, H9.out⟩
                    case measure => simp [intOf] <;> omega
              · have tb1 : decide (j < bet.length) = false := by simpa using hb
                have tb1I : decide ((j : Int) < (bet.length : Int)) = false := by simp; omega
                go_wp2
                go_roundw
                case rel => exact ⟨j + 1, _, _, _, by omega, by go_num, H6.out⟩
                case measure => simp [intOf] <;> omega
            have t2 : decide (wl < m) = true := by simp; omega
            have t2I : decide ((wl : Int) < (m : Int)) = true := by simp; omega
            have hs1 := hjn 0 _ (by rw [HJF.out, if_neg (by omega), if_neg h2])
            have hlm : wl < m := by omega
            clear h0 h1 h2 hstay hjn
            go_wp2_with fail
            refine hs1.mono ?_
            rintro e6 w6 ⟨rfl, hN6⟩
            have hc6 : Chg FF wr w6 := by obtain ⟨_, _, h, _⟩ := hN6; exact h
            have hnw : ∀ k, k < w.heap.size → k ∉ FF := fun k hk hh => by have := HI.out.lo k hh; omega
            have a0 := hc6.cell a0 (hnw wg hwgw)
            have a1 := hc6.cell a1 (hnw wg hwgw)
            have hown : w6.ownsRow w.heap.size 36 2 (.slice va wl vc) wl (W.flatMap wV) := by
              have := HI.out.own.chg hc6 HI.out.no
              unfold R.OwnR at this
              rw [← HWL.out] at this
              exact this
            have hone : ∀ u ∈ [Value.int .i64 cw, .string dx], u.oneCell' = true := by
              intro u hu
              simp at hu
              rcases hu with rfl | rfl <;> rfl
            have hb1 : wl + 1 ≤ maxLen := by unfold maxLen; omega
            have hb2 : (wl + 1) * 24 ≤ 140737488355328 := by omega
            have hsz6 : w.heap.size ≤ (w6.alloc (.cells #[.int .i64 cw, .string dx] 36)).heap.size := Nat.le_trans HI.out.chg.size (Nat.le_trans hc6.size ((Chg.refl [] w6).alloc _).size)
            have HOWN := Lib.hid hown
            have HONE := Lib.hid hone
            have HB1 := Lib.hid hb1
            have HB2 := Lib.hid hb2
            have HSZ := Lib.hid hsz6
            have HN6 := Lib.hid hN6
            obtain ⟨i0, z, hi0, hz0, hz1, hz2, hz3⟩ := info_sizes Try.elemRW
            clear hown hone hb1 hb2 hsz6 hN6 hs1 hc6 hnw
            go_wp2_with (first
              | (at_builtin; go_must (refine wpList_append_lies _ rfl _ _ 26 rfl w.heap.size 36 i0 z 2 24 Try.underlying26 hi0 hz0 hz1 hz2 hz3 (by omega) _ _ _ rfl (HOWN.out.alloc _) ⟨_, 0, none⟩ 1 1 [.int .i64 cw, .string dx] rfl rfl ?_ HONE.out (by omega) HB1.out HB2.out HSZ.out _ rfl ?_))
              | fail)
            · exact fun j u hu => World.news_of_block (heap_new _ _) j u (by simpa using hu)
            · intro g7 c7 w7 ho7 hg7 ha7 _
              obtain ⟨F7, h7⟩ := HI.out.push (x := X) (g7 := g7) (c7 := c7) HN6.out hg7 HOK.out (by rw [← HWL.out]; exact hlm) (by rw [← HWL.out]; have := ho7; rw [HCW.out, HDX.out] at this; exact this) (by rcases ha7 with e | e; exact .inl e; exact .inr (by simpa using e))
              rw [← HWL.out] at h7
              have H7 := Lib.hid h7
              clear h7 ho7 hg7 ha7 a0 a1
              by_cases hb : j < bet.length
              · obtain ⟨bg, bo, hba, _, hbc, hbok⟩ := (HB.out.chg H7.out.chg).2 j hb
                obtain ⟨A, hA⟩ : ∃ A, A = bet[j] := ⟨_, rfl⟩
                rw [← hA] at hbc hbok
                have b0 : w7.cell? ⟨bg, bo + j * 7, none⟩ = some (.int .u8 (A.k : Nat)) := hbc 0 _ rfl
                have b1 : w7.cell? ⟨bg, bo + j * 7 + 1, none⟩ = some (.string (bytesV A.q.name)) := hbc 1 _ rfl
                have b2 : w7.cell? ⟨bg, bo + j * 7 + 2, none⟩ = some (.int .u16 (A.q.ty : Nat)) := hbc 2 _ rfl
                have b3 : w7.cell? ⟨bg, bo + j * 7 + 3, none⟩ = some (.int .u16 (A.q.cl : Nat)) := hbc 3 _ rfl
                have b4 : w7.cell? ⟨bg, bo + j * 7 + 4, none⟩ = some (.int .i64 A.s) := hbc 4 _ rfl
                have b5 : w7.cell? ⟨bg, bo + j * 7 + 5, none⟩ = some (.int .i64 A.x.who) := hbc 5 _ rfl
                have b6 : w7.cell? ⟨bg, bo + j * 7 + 6, none⟩ = some (.string (bytesV A.x.data)) := hbc 6 _ rfl
                have tb1 : decide (j < bet.length) = true := by simpa using hb
                have tb1I : decide ((j : Int) < (bet.length : Int)) = true := by simp; omega
                subst hba
                have hdo := does_any _ tb n m _ w7 A H7.out.ft hbok
                have hnext : ∀ w2, FNext _ w7 w2 tb n m (doF n m _ A) → (A.k = 0 ∨ A.s ≠ (r : Int)) → ∃ L2 F2, RowI w w2 tb n m r _ (W ++ [X]) L2 F2 := fun w2 k hA2 => by
                  obtain ⟨u1, u2⟩ := doF_keep H7.out.ft.ok H7.out.used hA2
                  obtain ⟨F2, h2⟩ := H7.out.after k u1 (u2.trans H7.out.ws)
                  exact ⟨_, F2, h2⟩
                have HNEXT := Lib.hid hnext
                clear hbc hbok hA hnext
                by_cases hk : A.k = 0
                · have tk : ((A.k : Int) == 0) = true := by simpa using hk
                  have hcond : A.k = 0 ∨ A.s ≠ (r : Int) := .inl hk
                  have HCOND := Lib.hid hcond
                  clear hk hcond
                  go_wp2_with fail
                  refine hdo.mono ?_
                  rintro e9 w9 ⟨rfl, hN9⟩
                  obtain ⟨L9, F9, h9⟩ := HNEXT.out w9 hN9 HCOND.out
                  have H9 := Lib.hid h9
                  clear h9 hN9 hdo b0 b1 b2 b3 b4 b5 b6
                  go_wp2
                  go_roundw
                  case rel => exact ⟨j + 1, _, _, _, by omega, by go_num, H9.out⟩
                  case measure => simp [intOf] <;> omega
                · have tk : ((A.k : Int) == 0) = false := by simp; omega
                  by_cases hs : A.s = (r : Int)
                  · have ts : (A.s != (r : Int)) = false := by simpa using hs
                    clear hk hs hdo
                    go_wp2
                    go_roundw
                    case rel => exact ⟨j + 1, _, _, _, by omega, by go_num, H7.out⟩
                    case measure => simp [intOf] <;> omega
                  · have ts : (A.s != (r : Int)) = true := by simpa using hs
                    have hcond : A.k = 0 ∨ A.s ≠ (r : Int) := .inr hs
                    have HCOND := Lib.hid hcond
                    clear hk hs hcond
                    go_wp2_with fail
                    refine hdo.mono ?_
                    rintro e9 w9 ⟨rfl, hN9⟩
                    obtain ⟨L9, F9, h9⟩ := HNEXT.out w9 hN9 HCOND.out
                    have H9 := Lib.hid h9
                    clear h9 hN9 hdo b0 b1 b2 b3 b4 b5 b6
                    go_wp2
                    go_roundw
                    case rel => exact ⟨j + 1, _, _, _, by omega, by go_num, H9.out⟩
                    case measure => simp [intOf] <;> omega
              · have tb1 : decide (j < bet.length) = false := by simpa using hb
                have tb1I : decide ((j : Int) < (bet.length : Int)) = false := by simp; omega
                go_wp2
                go_roundw
                case rel => exact ⟨j + 1, _, _, _, by omega, by go_num, H7.out⟩
                case measure => simp [intOf] <;> omega
          · have tw : decide (j < who.length) = false := by simpa using hw
            have twI : decide ((j : Int) < (who.length : Int)) = false := by simp; omega
            by_cases hend : j < bet.length
            · have HI := Lib.hid hI
              clear hI hwl2
              by_cases hb : j < bet.length
              · obtain ⟨bg, bo, hba, _, hbc, hbok⟩ := (HB.out.chg HI.out.chg).2 j hb
                obtain ⟨A, hA⟩ : ∃ A, A = bet[j] := ⟨_, rfl⟩
                rw [← hA] at hbc hbok
                have b0 : wr.cell? ⟨bg, bo + j * 7, none⟩ = some (.int .u8 (A.k : Nat)) := hbc 0 _ rfl
                have b1 : wr.cell? ⟨bg, bo + j * 7 + 1, none⟩ = some (.string (bytesV A.q.name)) := hbc 1 _ rfl
                have b2 : wr.cell? ⟨bg, bo + j * 7 + 2, none⟩ = some (.int .u16 (A.q.ty : Nat)) := hbc 2 _ rfl
                have b3 : wr.cell? ⟨bg, bo + j * 7 + 3, none⟩ = some (.int .u16 (A.q.cl : Nat)) := hbc 3 _ rfl
                have b4 : wr.cell? ⟨bg, bo + j * 7 + 4, none⟩ = some (.int .i64 A.s) := hbc 4 _ rfl
                have b5 : wr.cell? ⟨bg, bo + j * 7 + 5, none⟩ = some (.int .i64 A.x.who) := hbc 5 _ rfl
                have b6 : wr.cell? ⟨bg, bo + j * 7 + 6, none⟩ = some (.string (bytesV A.x.data)) := hbc 6 _ rfl
                have tb1 : decide (j < bet.length) = true := by simpa using hb
                have tb1I : decide ((j : Int) < (bet.length : Int)) = true := by simp; omega
                subst hba
                have hdo := does_any _ tb n m _ wr A HI.out.ft hbok
                have hnext : ∀ w2, FNext _ wr w2 tb n m (doF n m _ A) → (A.k = 0 ∨ A.s ≠ (r : Int)) → ∃ L2 F2, RowI w w2 tb n m r _ W L2 F2 := fun w2 k hA2 => by
                  obtain ⟨u1, u2⟩ := doF_keep HI.out.ft.ok HI.out.used hA2
                  obtain ⟨F2, h2⟩ := HI.out.after k u1 (u2.trans HI.out.ws)
                  exact ⟨_, F2, h2⟩
                have HNEXT := Lib.hid hnext
                clear hbc hbok hA hnext
                by_cases hk : A.k = 0
                · have tk : ((A.k : Int) == 0) = true := by simpa using hk
                  have hcond : A.k = 0 ∨ A.s ≠ (r : Int) := .inl hk
                  have HCOND := Lib.hid hcond
                  clear hk hcond
                  go_wp2_with fail
                  refine hdo.mono ?_
                  rintro e9 w9 ⟨rfl, hN9⟩
                  obtain ⟨L9, F9, h9⟩ := HNEXT.out w9 hN9 HCOND.out
                  have H9 := Lib.hid h9
                  clear h9 hN9 hdo b0 b1 b2 b3 b4 b5 b6
                  go_wp2
                  go_roundw
                  case rel => exact ⟨j + 1, _, _, _, by omega, by go_num, H9.out⟩
                  case measure => simp [intOf] <;> omega
                · have tk : ((A.k : Int) == 0) = false := by simp; omega
                  by_cases hs : A.s = (r : Int)
                  · have ts : (A.s != (r : Int)) = false := by simpa using hs
                    clear hk hs hdo
                    go_wp2
                    go_roundw
                    case rel => exact ⟨j + 1, _, _, _, by omega, by go_num, HI.out⟩
                    case measure => simp [intOf] <;> omega
                  · have ts : (A.s != (r : Int)) = true := by simpa using hs
                    have hcond : A.k = 0 ∨ A.s ≠ (r : Int) := .inr hs
                    have HCOND := Lib.hid hcond
                    clear hk hs hcond
                    go_wp2_with fail
                    refine hdo.mono ?_
                    rintro e9 w9 ⟨rfl, hN9⟩
                    obtain ⟨L9, F9, h9⟩ := HNEXT.out w9 hN9 HCOND.out
                    have H9 := Lib.hid h9
                    clear h9 hN9 hdo b0 b1 b2 b3 b4 b5 b6
                    go_wp2
                    go_roundw
                    case rel => exact ⟨j + 1, _, _, _, by omega, by go_num, H9.out⟩
                    case measure => simp [intOf] <;> omega
              · exact absurd hend hb
            · have te : decide (j < bet.length) = false := by simpa using hend
              have teI : decide ((j : Int) < (bet.length : Int)) = false := by simp; omega
              have HI := Lib.hid hI
              have HWL := Lib.hid hwl2
              clear hI hwl2 hw hend
              go_wp2_with fail
              refine (end_any FF tb n m LL wr (r : Int) 0 _ W HI.out.ft (Lib.hid (by unfold errE useF; simp [HI.out.used])) (Lib.hid rfl) (Lib.hid (by unfold goneF useF; simp [HI.out.used, HI.out.ws]))).mono ?_
              rintro e9 w9 ⟨v9, rfl, ho9, hF9, hc9⟩
              have hC9 : Chg [] w w9 := HI.out.chg.trans_new hc9 (fun y hy => .inr (HI.out.lo y hy))
              have hown9 := HI.out.own.chg hc9 HI.out.no
              have hwl16 : W.length ≤ 1000 := by rw [← HWL.out]; omega
              obtain ⟨xa, xc, rfl⟩ := ho9.len
              rw [← HWL.out]
              have HO9 := Lib.hid ho9
              have HW9 := Lib.hid hown9
              have HL16 := Lib.hid hwl16
              have hsz9 := HI.out.chg.size
              have hdisj : ∀ g, (Value.slice va wl vc).ownBlock = some g → g < wr.heap.size := fun g hg => (HI.out.own.blk g hg).2.1
              have HDJ := Lib.hid hdisj
              clear ho9 hown9 hwl16 hF9 hc9 hdisj
              go_wp2_with fail
              refine (told_any wr.heap.size (.slice xa wl xc) W w9 (by rw [HWL.out]; exact HO9.out) HL16.out).mono ?_
              rintro e8 w8 ⟨v8, rfl, ho8, hc8⟩
              have hC8 : Chg [] w w8 := hC9.trans_new hc8 (fun y hy => by have := (HO9.out.blk y (by rw [← HWL.out]; exact mem_blkL.1 hy)).1; right; omega)
              have hr8 := rdW_own ho8
              have hr8' : RdW w8 (.slice va wl vc) W := rdW_own (HW9.out.chg hc8 (fun g hg hh => by have h1 := HDJ.out g hg; have h2 := (HO9.out.blk g (by rw [← HWL.out]; exact mem_blkL.1 hh)).1; omega))
              obtain ⟨ya, yc, rfl⟩ := ho8.len
              rw [← HWL.out] at hr8 ⊢
              have HR8 := Lib.hid hr8
              have HR8' := Lib.hid hr8'
              clear hr8 hr8' ho8 hc8 HO9 HW9
              go_wp2_with fail
              refine (waiters_same _ _ W w8 HR8.out HR8'.out HI.out.ok (by have := HL16.out; omega)).mono ?_
              rintro e7 w7 ⟨rfl, hc7⟩
              go_wp2
              go_ret
              exact ⟨rfl, (hC8.trans hc7).below (Nat.le_refl _) (by simp)⟩

end Go.Proofs.Ytopkbchjlifflaa

