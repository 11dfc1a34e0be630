/- The walk of FlightOne. -/
import Derived.Test.YtopkbchjlifflaaFlPl5
import Derived.Test.YtopkbchjlifflaaFlP
import Derived.Deep.RegionHeld3
namespace Go.Proofs.Ytopkbchjlifflaa
open Go.RowKit Go.Maps

/-- All orders of a region that leaves old blocks as they were, in one. -/
def ChgEnd (A : Act) (w0 : World) : Exit → Act → World → Prop
  | .normal, a, w => a = A ∧ Chg [] w0 w
  | _, _, _ => False
theorem wp_chg {P : Program} {c : Code} {Q : Exit → Act → World → Prop} {a : Act} {w : World} (A : Act) (h : c.wp P (ChgEnd A w) a w) (k : ∀ w', Chg [] w w' → Q .normal A w') : c.wp P Q a w :=
  Code.wp_mono (fun e a w' hq => by
    cases e with
    | normal => obtain ⟨rfl, hc⟩ := hq; exact k w' hc
    | _ => exact hq.elim) h
def qC (q : Qs) : List Value := [.string (bytesV q.name), .int .u16 (q.ty : Nat), .int .u16 (q.cl : Nat)]
theorem qC_len (q : Qs) : (qC q).length = 3 := rfl
theorem elem_q : (Try.prog.info? 25).map (fun i => (i.zero.map fun z => z.cells.size, i.size, i.bytes)) = some (some 3, 3, 24) := by kernel_rfl
set_option maxRecDepth 100000 in
set_option maxHeartbeats 8000000 in
theorem flightOne_walk (x y : Int) (a : Option Addr) (cap : Nat) (acts : List ActT) (q : Qs) (w : World) (_hx : (Lit.int .i64 x).wf = true) (_hy : (Lit.int .i64 y).wf = true) (hA : IsActs w a acts) (hq : OkQ q) :
    Calls Try.prog 8 #[.int .i64 x, .int .i64 y, .slice a acts.length cap, .agg #[.string (bytesV q.name), .int .u16 (q.ty : Nat), .int .u16 (q.cl : Nat)]] w fun e w' => e = .returned (.bool true) ∧ Below w.heap.size w w' := by
  have hmax := hA.1
  unfold maxLen at hmax
  have HA := Lib.hid hA
  have HQ := Lib.hid hq
  obtain ⟨nx, hnx⟩ : ∃ nx, nx = bytesV q.name := ⟨_, rfl⟩
  rw [← hnx]
  have HNX := Lib.hid hnx
  clear hA hq hnx
  go_enter Try.func8, Try.ntmps8
  go_wp2_with fail
  obtain ⟨px, hpx⟩ : ∃ px, px = w.heap.size := ⟨_, rfl⟩
  rw [← hpx]
  refine calls_abs ?_
  intro W0 hW0
  have hc0 : Chg [] w W0 := by rw [hW0]; exact (Chg.refl _ _).alloc _
  have hb0 : W0.heap[px]? = some (.cells #[.string nx, .int .u16 (q.ty : Nat), .int .u16 (q.cl : Nat)] 25 (0, 0)) := by rw [hW0]; exact heap_new' _ _ _ hpx
  clear hW0 hpx
  refine (long_any a cap acts W0 (HA.out.chg hc0)).mono ?_
  rintro e w1 ⟨b1, rfl, dc1⟩
  have hc1 := hc0.trans dc1
  cases b1 with
  | true =>
    go_wp2_with fail
    refine (awake_any _).mono ?_
    rintro e w9 ⟨rfl, hc9⟩
    go_wp2
    go_ret
    exact ⟨rfl, (hc1.trans hc9).below (Nat.le_refl _) (by simp)⟩
  | false =>
    have hb1 := dc1.keep hb0 (by simp)
    have k0 : w1.cell? ⟨px, 0, none⟩ = some (.string nx) := cell_of hb1
    by_cases hq1 : 1000 < nx.size
    · have t1 : decide (1000 < nx.size) = true := by simpa using hq1
      have t1I : decide ((1000 : Int) < (nx.size : Int)) = true := by simp; omega
      clear hq1
      go_wp2_with fail
      refine (awake_any _).mono ?_
      rintro e w9 ⟨rfl, hc9⟩
      go_wp2
      go_ret
      exact ⟨rfl, (hc1.trans hc9).below (Nat.le_refl _) (by simp)⟩
    have t1 : decide (1000 < nx.size) = false := by simpa using hq1
    have t1I : decide ((1000 : Int) < (nx.size : Int)) = false := by simp; omega
    clear hq1
    go_wp2_with fail
    refine (awake_any _).mono ?_
    rintro e w3 ⟨rfl, dc3⟩
    have hc3 := hc1.trans dc3
    replace dc3 := dc1.trans dc3
    have hb3 := dc3.keep hb0 (by simp)
    obtain ⟨n, hn⟩ : ∃ n, n = flN x := ⟨_, rfl⟩
    obtain ⟨m, hm⟩ : ∃ m, m = wtN y := ⟨_, rfl⟩
    obtain ⟨L, hL⟩ : ∃ L, L = runF n m [] acts := ⟨_, rfl⟩
    have HN := Lib.hid hn
    have HM := Lib.hid hm
    have HL := Lib.hid hL
    have HB3 := Lib.hid hb3
    have HC3 := Lib.hid hc3
    clear hn hm hL k0 hb1 hb0 hb3 hc0 hc1 dc1 dc3 hc3
    go_wp2_with fail
    refine (made_any x y a cap acts n m L w3 (HA.out.chg HC3.out) HN HM HL).mono ?_
    rintro e w4 ⟨tb, rfl, F4, hF4, hlo4, dc4⟩
    have hb4 := dc4.keep HB3.out (by simp)
    have HC4 := Lib.hid (HC3.out.trans dc4)
    have hlow : ∀ y ∈ F4, w.heap.size ≤ y := fun y hy => Nat.le_trans HC3.out.size (hlo4 y hy)
    have HLOW := Lib.hid hlow
    have HB4 := Lib.hid hb4
    clear hlow hlo4 dc4 hb4 HB3
    go_wp2_with fail
    refine (row_any F4 tb n m L w4 hF4).mono ?_
    rintro e w5 ⟨v5, rfl, ho5, hc5⟩
    have hF5 := hF4.same hc5
    have hb5 := hc5.keep HB4.out (by simp)
    have HC5 := Lib.hid (HC4.out.trans hc5)
    have hok := hF5.ok
    have hn32 := hF5.n32
    have hm16 := hF5.m16
    obtain ⟨ra, rc, rfl⟩ := ho5.len
    obtain ⟨ln, hln⟩ : ∃ ln, ln = (slotsF L).length := ⟨_, rfl⟩
    have hlnL : ln = L.length := by rw [hln]; simp [slotsF]
    have hlnn : ln ≤ n := by rw [hlnL]; exact hok.len
    rw [← hln] at ho5 ⊢
    have hrow : ∀ i (hi : i < L.length), ∃ rb, ra = some ⟨rb, 0, none⟩ ∧ w5.cell? ⟨rb, i, none⟩ = some (.int .i64 (L[i].slot : Nat)) ∧ ∀ k (hk : k < L.length), w5.cell? ⟨rb, k, none⟩ = some (.int .i64 (L[k].slot : Nat)) := by
      intro i hi
      have h5 := ho5
      rw [hln] at h5
      obtain ⟨rb, rc', er, _, _, hcell⟩ := h5.cells sV_len (by rw [← hln]; omega)
      have e1 := (Value.slice.inj er).1
      have hall : ∀ k (hk : k < L.length), w5.cell? ⟨rb, k, none⟩ = some (.int .i64 (L[k].slot : Nat)) := by
        intro k hk
        have := hcell k (by simpa [slotsF] using hk) 0 (.int .i64 (L[k].slot : Nat)) (by simp [sV, slotsF])
        rw [Nat.mul_one, Nat.add_zero] at this
        exact this
      exact ⟨rb, e1, hall i hi, hall⟩
    have tln : decide (n < ln) = false := by simp; omega
    have tlnI : decide ((n : Int) < (ln : Int)) = false := by simp; omega
    have HROW := Lib.hid hrow
    have HOK := Lib.hid hok
    have HF5 := Lib.hid hF5
    have HB5 := Lib.hid hb5
    have HLN := Lib.hid hlnL
    have HLNN := Lib.hid hlnn
    clear hrow hok hF5 hF4 hb5 hlnL hlnn hln ho5 hc5 HB4
    go_wp2_with fail
    refine (len_any F4 tb n m L w5 ln HF5.out HLN).mono ?_
    rintro e w6 ⟨rfl, rfl⟩
    go_wp2_with fail
    go_loopw [13, 14] (fun v i wr => ∃ j : Nat, j ≤ ln ∧ i = .int .i64 (j : Nat) ∧ R.OwnR 25 3 qC w5.heap.size wr v ((L.take j).map Fl.q) ∧ Chg [] w5 wr) (fun _ i _ => ln - (intOf i).toNat)
    case atStart => exact ⟨0, Nat.zero_le _, rfl, R.OwnR.nil _ _ _ _ _, Chg.refl _ _⟩
    case round =>
      obtain ⟨j, hj, rfl, hO, hC⟩ := hrel
      have HO := Lib.hid hO
      have HC := Lib.hid hC
      clear hO hC
      by_cases hlt : j < ln
      · have hjL : j < L.length := by rw [← HLN.out]; exact hlt
        have hj32 : j ≤ 32 := by have := HLNN.out; omega
        obtain ⟨rb, hra, hk0, hkA⟩ := HROW.out j hjL
        subst hra
        have hone := HOK.out.one hjL
        obtain ⟨s, hs⟩ : ∃ s, s = L[j].slot := ⟨_, rfl⟩
        obtain ⟨f, hf⟩ : ∃ f, f = L[j].q := ⟨_, rfl⟩
        rw [← hs, ← hf] at hone
        rw [← hs] at hk0
        have c0 := HC.out.cell hk0 (by simp)
        have HKA := Lib.hid hkA
        have HONE := Lib.hid hone
        have HF := Lib.hid (HF5.out.same HC.out)
        have HFQ := Lib.hid hf
        have HS0 := Lib.hid hs
        clear hkA hone hs hf hk0
        go_wp2_with fail
        refine (quest_any F4 tb n m L wr (s : Int) f true HF.out (Lib.hid HONE.out.quest) (Lib.hid HONE.out.use.symm)).mono ?_
        rintro e w7 ⟨rfl, hc7⟩
        obtain ⟨fx, hfx⟩ : ∃ fx, fx = bytesV f.name := ⟨_, rfl⟩
        rw [← hfx]
        have HFX := Lib.hid hfx
        have HC7 := Lib.hid (HC.out.trans hc7)
        have hO7 := HO.out.same hc7
        have HO7 := Lib.hid hO7
        obtain ⟨xb, hxb⟩ : ∃ xb, xb = w7.heap.size := ⟨_, rfl⟩
        have HXB := Lib.hid hxb
        clear hfx hc7 hO7 hxb HO HC HF c0
        go_wp2_with fail
        rw [← HXB.out]
        refine calls_abs ?_
        intro W hW
        have hWb : W.heap[xb]? = some (.cells #[.string fx, .int .u16 (f.ty : Nat), .int .u16 (f.cl : Nat)] 25 (0, 0)) := by rw [hW]; exact heap_new' _ _ _ HXB.out
        have dcW : Chg [] w7 W := by rw [hW]; exact (Chg.refl _ _).alloc _
        have HCW := Lib.hid (HC7.out.trans dcW)
        have HOW := Lib.hid (HO7.out.same dcW)
        have HFW := Lib.hid (HF5.out.same HCW.out)
        have HWB := Lib.hid hWb
        clear hW hWb dcW HC7 HO7
        rw [HFX.out]
        refine (find_any F4 tb n m L W f s true HFW.out HONE.out.okq (Lib.hid HONE.out.find) (Lib.hid HONE.out.is)).mono ?_
        rw [← HFX.out]
        rintro e w8 ⟨rfl, hc8⟩
        have HC8 := Lib.hid (HCW.out.trans hc8)
        have HO8 := Lib.hid (HOW.out.same hc8)
        have HF8 := Lib.hid (HF5.out.same HC8.out)
        have hb8 := hc8.keep HWB.out (by simp)
        have f0 : w8.cell? ⟨xb, 0, none⟩ = some (.string fx) := cell_of hb8
        have r0 : w8.cell? ⟨rb, j, none⟩ = some (.int .i64 (s : Nat)) := HC8.out.cell (by have := HKA.out j hjL; rw [← HS0.out] at this; exact this) (by simp)
        have ts : decide (n ≤ s) = false := by have := HONE.out.slot; simp; omega
        have tsI : decide ((n : Int) ≤ (s : Int)) = false := by have := HONE.out.slot; simp; omega
        obtain ⟨wl, hwl⟩ : ∃ wl, wl = waitsF L (s : Int) := ⟨_, rfl⟩
        have tw : decide (m < wl) = false := by have := HONE.out.wait; rw [hwl]; simp; omega
        have twI : decide ((m : Int) < (wl : Int)) = false := by have := HONE.out.wait; rw [hwl]; simp; omega
        have HWLI := Lib.hid hwl
        have HB8 := Lib.hid hb8
        have hfold : ∀ W, Calls Try.prog 33 #[.string fx] W fun e w' => e = .returned (.string fx) ∧ Chg [] W w' := fun W => fold_any fx fx W (by rw [HFX.out]; exact HONE.out.okq.name) (Lib.hid (by rw [HFX.out, foldS_bytes, HONE.out.fold]))
        have HFOLD := Lib.hid hfold
        clear hc8 hb8 hwl hfold HCW HOW HFW HWB
        go_wp2_with fail
        have hS : w8.cell? ⟨xb, 0, none⟩ = some (.string fx) ∧ w8.cell? ⟨rb, j, none⟩ = some (.int .i64 (s : Nat)) := ⟨f0, r0⟩
        have S8 := Lib.hid hS
        clear hS f0 r0
        go_region_held3 (fun W => W.cell? ⟨xb, 0, none⟩ = some (.string fx) ∧ W.cell? ⟨rb, j, none⟩ = some (.int .i64 (s : Nat))) (first | (with_reducible exact S9.out) | exact S8.out) (first | (go_at_call 20; refine (waits_any F4 tb n m L _ (s : Int) wl ?_ HWLI).mono ?_; exact HF8.out.same ((Chg.refl [] w8).drewN _); rintro e9 w9 ⟨rfl, rfl⟩) | (go_at_call 33; refine (HFOLD.out _).mono ?_; rintro e9 w9 ⟨rfl, hc9⟩; have hc9' := hc9.undrew; have S9 := Lib.hid (And.intro (hc9'.cell S8.out.1 (by simp)) (hc9'.cell S8.out.2 (by simp)))))
        have HC9 := Lib.hid (HC8.out.trans hc9')
        have HO9 := Lib.hid (HO8.out.same hc9')
        have HB9 := Lib.hid (hc9'.keep HB8.out (by simp))
        clear hc9 hc9' S8 S9 HC8 HO8 HF8 HB8 HFOLD HWLI
        obtain ⟨va, vc, hva⟩ := HO9.out.len
        have hlj : ((L.take j).map Fl.q).length = j := by simp; omega
        rw [hlj] at hva
        subst hva
        have HLJ := Lib.hid hlj
        clear hlj
        go_wp2_with fail
        go_loopw [19] (fun i wr => ∃ k : Nat, k ≤ j ∧ i = .int .i64 (k : Nat) ∧ Chg [] w9 wr) (fun i _ => j - (intOf i).toNat)
        case atStart => exact ⟨0, Nat.zero_le _, rfl, Chg.refl _ _⟩
        case round =>
          obtain ⟨k, hk, rfl, hK⟩ := hrel
          have HK := Lib.hid hK
          clear hK
          by_cases hkj : k < j
          · have hkL : k < L.length := by omega
            obtain ⟨g, c', ev, _, _, hcl⟩ := HO9.out.cells qC_len (by rw [HLJ.out]; omega)
            have ea := (Value.slice.inj ev).1
            clear ev
            subst ea
            obtain ⟨p, hp⟩ : ∃ p, p = L[k].q := ⟨_, rfl⟩
            obtain ⟨sk, hsk⟩ : ∃ sk, sk = L[k].slot := ⟨_, rfl⟩
            have hpk : ((L.take j).map Fl.q)[k]'(by rw [HLJ.out]; exact hkj) = p := by rw [hp]; simp
            have hpc := hcl k (by rw [HLJ.out]; exact hkj)
            rw [hpk] at hpc
            have g0 : wr.cell? ⟨g, k * 3, none⟩ = some (.string (bytesV p.name)) := HK.out.cell (hpc 0 _ rfl) (by simp)
            have g1 : wr.cell? ⟨g, k * 3 + 1, none⟩ = some (.int .u16 (p.ty : Nat)) := HK.out.cell (hpc 1 _ rfl) (by simp)
            have g2 : wr.cell? ⟨g, k * 3 + 2, none⟩ = some (.int .u16 (p.cl : Nat)) := HK.out.cell (hpc 2 _ rfl) (by simp)
            have hbk := HK.out.keep HB9.out (by simp)
            have x0 : wr.cell? ⟨xb, 0, none⟩ = some (.string fx) := cell_of hbk
            have x1 : wr.cell? ⟨xb, 1, none⟩ = some (.int .u16 (f.ty : Nat)) := cell_of hbk
            have x2 : wr.cell? ⟨xb, 2, none⟩ = some (.int .u16 (f.cl : Nat)) := cell_of hbk
            have r1 : wr.cell? ⟨rb, k, none⟩ = some (.int .i64 (sk : Nat)) := HK.out.cell (HC9.out.cell (by have := HKA.out k hkL; rw [← hsk] at this; exact this) (by simp)) (by simp)
            have hok : OkQ p := by rw [hp]; exact HOK.out.okQ _ (List.getElem_mem hkL)
            have hnq : p ≠ f := by rw [hp]; exact HONE.out.nq k hkL hkj
            have hns : sk ≠ s := by rw [hsk]; exact HONE.out.ns k hkL hkj
            have heq : ∀ w, (binOp .eql 25 (.agg #[.string (bytesV p.name), .int .u16 (p.ty : Nat), .int .u16 (p.cl : Nat)]) (.agg #[.string fx, .int .u16 (f.ty : Nat), .int .u16 (f.cl : Nat)])).run Try.prog w = .ok (.bool false) w := by
              intro w
              rw [HFX.out, eqlQ w hok HONE.out.okq, decide_eq_false hnq]
            have tsk : ((sk : Int) == (s : Int)) = false := by simp; omega
            clear hpc hpk hp hsk hcl hbk hok hnq hns
            go_wp2_with fail
            go_quiet (fail)
            go_wp2
            go_roundw
            case rel => exact ⟨k + 1, by omega, by go_num, HK.out.drewN _⟩
            case measure => simp [intOf] <;> omega
          · obtain rfl : k = j := by omega
            have hbk := HK.out.keep HB9.out (by simp)
            have x0 : wr.cell? ⟨xb, 0, none⟩ = some (.string fx) := cell_of hbk
            have x1 : wr.cell? ⟨xb, 1, none⟩ = some (.int .u16 (f.ty : Nat)) := cell_of hbk
            have x2 : wr.cell? ⟨xb, 2, none⟩ = some (.int .u16 (f.cl : Nat)) := cell_of hbk
            have hOw := HO9.out.same (HK.out.trans ((Chg.refl [] wr).alloc (.cells #[.string fx, .int .u16 (f.ty : Nat), .int .u16 (f.cl : Nat)] 25)))
            have hown : (wr.alloc (.cells #[.string fx, .int .u16 (f.ty : Nat), .int .u16 (f.cl : Nat)] 25)).ownsRow w5.heap.size 25 3 (.slice va k vc) k (((L.take k).map Fl.q).flatMap qC) := by
              unfold R.OwnR at hOw
              rw [HLJ.out] at hOw
              exact hOw
            have hsz : w5.heap.size ≤ (wr.alloc (.cells #[.string fx, .int .u16 (f.ty : Nat), .int .u16 (f.cl : Nat)] 25)).heap.size := (HC9.out.trans (HK.out.trans ((Chg.refl [] wr).alloc (.cells #[.string fx, .int .u16 (f.ty : Nat), .int .u16 (f.cl : Nat)] 25)))).size
            have HOWN := Lib.hid hown
            have HSZ := Lib.hid hsz
            have HLO := Lib.hid (fun g hg => (hOw.blk g hg).1)
            obtain ⟨i0, z, hi0, hz0, hz1, hz2, hz3⟩ := info_sizes elem_q
            have htk : (L.take (k + 1)).map Fl.q = (L.take k).map Fl.q ++ [f] := by rw [List.take_succ_eq_append_getElem hjL, List.map_append, HFQ.out]; rfl
            have HTK := Lib.hid htk
            have hk32 : k ≤ 32 := by have := HLNN.out; omega
            clear hbk hOw hown hsz htk
            go_wp2_with (first
              | (at_builtin; go_must (refine wpList_append_lies _ rfl _ _ 79 rfl w5.heap.size 25 i0 z 3 24 Try.underlying79 hi0 hz0 hz1 hz2 hz3 (by omega) _ _ _ rfl HOWN.out ⟨_, 0, none⟩ 1 1 [.string fx, .int .u16 (f.ty : Nat), .int .u16 (f.cl : Nat)] rfl rfl ?_ ?_ (by omega) (by unfold maxLen; omega) (by omega) HSZ.out _ rfl ?_))
              | fail)
            · exact fun j u hu => World.news_of_block (heap_new _ _) j u (by simpa using hu)
            · intro u hu
              simp at hu
              rcases hu with rfl | rfl | rfl <;> rfl
            · intro g7 c7 w7 ho7 hg7 _ _
              have ho : R.OwnR 25 3 qC w5.heap.size w7 (.slice (some ⟨g7, 0, none⟩) (k + 1) c7) ((L.take (k + 1)).map Fl.q) := by
                rw [HTK.out]
                refine R.OwnR.snoc ?_
                rw [HLJ.out]
                have e : qC f = [.string fx, .int .u16 (f.ty : Nat), .int .u16 (f.cl : Nat)] := by rw [HFX.out]; rfl
                rw [e]
                rw [← List.map_take] at ho7
                exact ho7
              have hc : Chg [] w5 w7 := R.chg_grown (HC9.out.trans (HK.out.trans ((Chg.refl [] wr).alloc _))) hg7 HLO.out
              have HO7 := Lib.hid ho
              have HC7 := Lib.hid hc
              clear ho hc ho7 hg7 x0 x1 x2
              go_wp2
              go_roundw
              case rel => exact ⟨k + 1, by omega, by go_num, HO7.out, HC7.out⟩
              case measure => simp [intOf] <;> omega
      · obtain rfl : j = ln := by omega
        have hfin := HC.out
        have hb7 := hfin.keep HB5.out (by simp)
        have k0 : wr.cell? ⟨px, 0, none⟩ = some (.string nx) := cell_of hb7
        have k1 : wr.cell? ⟨px, 1, none⟩ = some (.int .u16 (q.ty : Nat)) := cell_of hb7
        have k2 : wr.cell? ⟨px, 2, none⟩ = some (.int .u16 (q.cl : Nat)) := cell_of hb7
        obtain ⟨va, vc, hva⟩ := HO.out.len
        have hlj : ((L.take j).map Fl.q).length = j := by have := HLN.out; simp; omega
        rw [hlj] at hva
        subst hva
        have HF := Lib.hid (HF5.out.same hfin)
        have HB7 := Lib.hid hb7
        have HCF := Lib.hid (HC5.out.trans hfin)
        obtain ⟨fa, hfa⟩ : ∃ fa, fa = findAt L q := ⟨_, rfl⟩
        obtain ⟨fi, hfi⟩ : ∃ fi, fi = findIs L q := ⟨_, rfl⟩
        have HFA := Lib.hid hfa
        have HFI := Lib.hid hfi
        have hcall : Calls Try.prog 21 #[.pointer (some ⟨tb, 0, none⟩), .agg #[.string nx, .int .u16 (q.ty : Nat), .int .u16 (q.cl : Nat)]] wr fun e w' => e = .returned (.tuple #[.int .i64 (fa : Nat), .bool fi]) ∧ Chg [] wr w' := by
          rw [HNX.out]
          exact find_any F4 tb n m L wr q fa fi HF.out HQ.out HFA HFI
        clear hlj hfin hb7 hfa hfi HO HC
        go_wp2_with fail
        refine hcall.mono ?_
        rintro e w7 ⟨rfl, hc7⟩
        have hb8 := hc7.keep HB7.out (by simp)
        have k0 : w7.cell? ⟨px, 0, none⟩ = some (.string nx) := cell_of hb8
        have k1 : w7.cell? ⟨px, 1, none⟩ = some (.int .u16 (q.ty : Nat)) := cell_of hb8
        have k2 : w7.cell? ⟨px, 2, none⟩ = some (.int .u16 (q.cl : Nat)) := cell_of hb8
        have HB8 := Lib.hid hb8
        have HC8 := Lib.hid (HCF.out.trans hc7)
        have HF8 := Lib.hid (HF.out.same hc7)
        obtain ⟨lb, hlb⟩ : ∃ lb, lb = w7.heap.size := ⟨_, rfl⟩
        have HLB := Lib.hid hlb
        have n0 : w7.heap.size ≠ px := World.new_ne w7 _ k0
        have n1 : px ≠ w7.heap.size := Ne.symm n0
        have a0 : (w7.alloc (.cells #[.string nx, .int .u16 (q.ty : Nat), .int .u16 (q.cl : Nat)] 25)).cell? ⟨px, 0, none⟩ = some (.string nx) := cell_of (heap_old HB8.out)
        obtain ⟨ny, hny⟩ : ∃ ny, ny = bytesV (foldL q.name) := ⟨_, rfl⟩
        have hfold : ∀ W, Calls Try.prog 33 #[.string nx] W fun e w' => e = .returned (.string ny) ∧ Chg [] W w' := fun W => fold_any nx ny W (by rw [HNX.out]; exact HQ.out.name) (Lib.hid (by rw [HNX.out, foldS_bytes, hny]))
        have HNY := Lib.hid hny
        clear hb8 hc7 hlb HF HB7 HCF hcall hny
        go_wp2_with fail
        rw [← HLB.out]
        refine calls_abs ?_
        intro W hW
        have hWl : W.heap[lb]? = some (.cells #[.string nx, .int .u16 (q.ty : Nat), .int .u16 (q.cl : Nat)] 25 (0, 0)) := by rw [hW]; exact heap_new' _ _ _ HLB.out
        have dcW : Chg [] w7 W := by rw [hW]; exact (Chg.refl _ _).alloc _
        have HDW := Lib.hid dcW
        have HWL := Lib.hid hWl
        clear hW hWl dcW a0 n0 n1
        refine (hfold _).mono ?_
        rintro e w8 ⟨rfl, hc8⟩
        have dc8 := HDW.out.trans hc8
        have hl8 := hc8.keep HWL.out (by simp)
        have hp8 := dc8.keep HB8.out (by simp)
        have l0 : w8.cell? ⟨lb, 0, none⟩ = some (.string nx) := cell_of hl8
        have l1 : w8.cell? ⟨lb, 1, none⟩ = some (.int .u16 (q.ty : Nat)) := cell_of hl8
        have l2 : w8.cell? ⟨lb, 2, none⟩ = some (.int .u16 (q.cl : Nat)) := cell_of hl8
        have lf : ∀ i, w8.frozen? ⟨lb, i, none⟩ = false := fun i => free_of hl8
        have hlo : w.heap.size ≤ lb := by have := HC8.out.size; have := HLB.out; omega
        have hcL : Chg [lb] w7 (w8.setCell ⟨lb, 0, none⟩ (.string ny)) := (dc8.mono (by simp)).trans (Chg.set1 _ _ _ _)
        have hcL0 : Chg [] w (w8.setCell ⟨lb, 0, none⟩ (.string ny)) := (HC8.out.trans dc8).setCell (.inr hlo) _
        have hFL : FT F4 (w8.setCell ⟨lb, 0, none⟩ (.string ny)) tb n m L := HF8.out.chg hcL (fun y hy hh => by have := HF8.out.lt y hy; have := HLB.out; simp at hh; omega)
        have hpl : lb ≠ px := by have := lt_of_block HB8.out; have := HLB.out; omega
        have hpL : (w8.setCell ⟨lb, 0, none⟩ (.string ny)).heap[px]? = some (.cells #[.string nx, .int .u16 (q.ty : Nat), .int .u16 (q.cl : Nat)] 25 (0, 0)) := hcL.keep HB8.out (by simp; omega)
        obtain ⟨fb, hfb⟩ : ∃ fb, fb = findAt L (foldQ q) := ⟨_, rfl⟩
        obtain ⟨fj, hfj⟩ : ∃ fj, fj = findIs L (foldQ q) := ⟨_, rfl⟩
        have hcall : Calls Try.prog 21 #[.pointer (some ⟨tb, 0, none⟩), .agg #[.string ny, .int .u16 (q.ty : Nat), .int .u16 (q.cl : Nat)]] (w8.setCell ⟨lb, 0, none⟩ (.string ny)) fun e w' => e = .returned (.tuple #[.int .i64 (fb : Nat), .bool fj]) ∧ Chg [] (w8.setCell ⟨lb, 0, none⟩ (.string ny)) w' := by
          rw [HNY.out] at hFL ⊢
          exact find_any F4 tb n m L _ (foldQ q) fb fj hFL (okQ_fold HQ.out) (Lib.hid hfb) (Lib.hid hfj)
        have HCL0 := Lib.hid hcL0
        have HFL := Lib.hid hFL
        have HPL := Lib.hid hpL
        have HFB := Lib.hid hfb
        have HFJ := Lib.hid hfj
        clear hc8 dc8 hl8 hp8 hlo hcL hcL0 hFL hpL hfb hfj HDW HWL HF8 HB8
        go_wp2_with fail
        refine hcall.mono ?_
        rintro e w9 ⟨rfl, hc9⟩
        have hp9 := hc9.keep HPL.out (by simp)
        have k0 : w9.cell? ⟨px, 0, none⟩ = some (.string nx) := cell_of hp9
        have k1 : w9.cell? ⟨px, 1, none⟩ = some (.int .u16 (q.ty : Nat)) := cell_of hp9
        have k2 : w9.cell? ⟨px, 2, none⟩ = some (.int .u16 (q.cl : Nat)) := cell_of hp9
        have HF9 := Lib.hid (HFL.out.same hc9)
        have HC9 := Lib.hid (HCL0.out.trans hc9)
        obtain ⟨mb, hmb⟩ : ∃ mb, mb = mayB q.name := ⟨_, rfl⟩
        have hmay := may_any nx mb w9 (by rw [HNX.out]; exact HQ.out.name) (Lib.hid (by rw [HNX.out, hmb]; rfl))
        have HMB := Lib.hid hmb
        clear hp9 hc9 hmb hcall hfold l0 l1 l2 lf HFL HCL0 HPL
        go_wp2_with fail
        refine hmay.mono ?_
        rintro e w10 ⟨rfl, rfl⟩
        cases mb with
        | false =>
          have hfi : fi = false := by rw [HFI.out]; exact find_not HMB.out.symm
          subst hfi
          have hc := HC9.out
          go_wp2
          go_ret
          exact ⟨rfl, hc.below (Nat.le_refl _) (by simp)⟩
        | true =>
          obtain ⟨q1, q2⟩ := find_low (L := L) HMB.out.symm
          have e1 : fb = fa := by rw [HFB.out, HFA.out, q1]
          have e2 : fj = fi := by rw [HFJ.out, HFI.out, q2]
          subst e1; subst e2
          obtain ⟨L', r, er, hbeg, hcase⟩ := HOK.out.codes (q := q) HMB.out.symm
          have hbg : ∀ F' tb' W, FT F' W tb' n m L → Calls Try.prog 12 #[.pointer (some ⟨tb', 0, none⟩), .agg #[.string nx, .int .u16 (q.ty : Nat), .int .u16 (q.cl : Nat)]] W fun x w' => x = .returned (.tuple #[.int .i64 (r : Nat), .int .i64 (er : Nat)]) ∧ FNext F' W w' tb' n m L' := by
            intro F' tb' W h
            rw [HNX.out]
            exact begin_any F' tb' n m L W q r er L' h HQ.out (Lib.hid hbeg)
          have S0 : Hid (w9.cell? ⟨px, 0, none⟩ = some (.string nx) ∧ w9.cell? ⟨px, 1, none⟩ = some (.int .u16 (q.ty : Nat)) ∧ w9.cell? ⟨px, 2, none⟩ = some (.int .u16 (q.cl : Nat))) := Lib.hid ⟨k0, k1, k2⟩
          have HBG := Lib.hid hbg
          have HCASE := Lib.hid hcase
          clear q1 q2 hbeg hbg hcase hmay
          go_wp2_with fail
          go_region_held3 (fun W => W.cell? ⟨px, 0, none⟩ = some (.string nx) ∧ W.cell? ⟨px, 1, none⟩ = some (.int .u16 (q.ty : Nat)) ∧ W.cell? ⟨px, 2, none⟩ = some (.int .u16 (q.cl : Nat))) (first | (with_reducible exact S12.out) | (with_reducible exact S11.out) | exact S0.out) (first | (go_at_call 23; refine (copy_any F4 tb n m L _ ?_).mono ?_; exact HF9.out.same ((Chg.refl [] w9).drewN _); rintro e9 w11 ⟨tb', F', rfl, hF', hge, hc11⟩; replace hc11 := hc11.undrew; have S11 := Lib.hid (And.intro (hc11.cell S0.out.1 (by simp)) (And.intro (hc11.cell S0.out.2.1 (by simp)) (hc11.cell S0.out.2.2 (by simp))))) | (go_at_call 12; refine (HBG.out F' tb' _ ?_).mono ?_; exact hF'; rintro e9 w12 ⟨rfl, F12, _, c12, _⟩; have hc12 : Chg [] w9 w12 := hc11.trans_new c12 (fun y hy => .inr (hge y hy)); have S12 := Lib.hid (And.intro (hc12.cell S0.out.1 (by simp)) (And.intro (hc12.cell S0.out.2.1 (by simp)) (hc12.cell S0.out.2.2 (by simp))))))
          have HFIN := Lib.hid (HC9.out.trans hc12)
          clear S0 S11 S12 hF' hge hc11 c12 hc12 k0 k1 k2
          rcases HCASE.out with ⟨rfl, e2⟩ | ⟨rfl, e2, e3⟩ | ⟨rfl, e2, e3⟩
          · have efi : fj = true := by rw [HFI.out]; exact e2
            subst efi
            clear e2
            go_wp2
            go_ret
            exact ⟨rfl, HFIN.out.below (Nat.le_refl _) (by simp)⟩
          · have efi : fj = false := by rw [HFI.out]; exact e2
            subst efi
            have tl : decide (j < n) = true := by have := HLN.out; simp; omega
            have tlI : decide ((j : Int) < (n : Int)) = true := by have := HLN.out; simp; omega
            clear e2 e3
            go_wp2
            go_ret
            exact ⟨rfl, HFIN.out.below (Nat.le_refl _) (by simp)⟩
          · have efi : fj = false := by rw [HFI.out]; exact e2
            subst efi
            have tl : decide (j < n) = false := by have := HLN.out; simp; omega
            have tlI : decide ((j : Int) < (n : Int)) = false := by have := HLN.out; simp; omega
            clear e2 e3
            go_wp2
            go_ret
            exact ⟨rfl, HFIN.out.below (Nat.le_refl _) (by simp)⟩

end Go.Proofs.Ytopkbchjlifflaa
