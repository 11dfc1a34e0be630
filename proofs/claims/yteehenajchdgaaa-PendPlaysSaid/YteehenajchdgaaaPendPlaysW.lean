/- The walk of PendPlays. -/
import Derived.Test.YteehenajchdgaaaAlike29
namespace Go.Proofs.Yteehenajchdgaaa
open Go.RowKit Go.Maps

theorem not_cons' {w : World} {tb : Nat} {ms mc : List Nat} {n : Nat} {L : List Ou} {b seed : Nat} {l : List Nat} {k : Nat} (h : PTab w tb ms n L) (ht : D.TapeAt w b seed l k) (hd : ∀ m ∈ ms, m ∉ mc) : ∀ m ∈ ms, m ∉ b :: mc := by
  intro m hm hh
  rcases List.mem_cons.1 hh with e | e
  · exact h.not_tape ht m hm e
  · exact hd m hm e

def PPlaysR (n b br seed : Nat) (l : List Nat) (m : Nat) (w : World) (t x i : Value) (wr : World) : Prop :=
  ∃ (j tb : Nat) (ms : List Nat) (q : Nat) (st : PS), j ≤ m ∧ i = .int .i64 (j : Nat) ∧ t = .pointer (some ⟨tb, 0, none⟩) ∧ x = .pointer (some ⟨q, 0, none⟩) ∧ PP w wr tb ms n b q br seed l st st ∧ st.L.length ≤ j ∧ st.k ≤ j

set_option maxRecDepth 100000 in
set_option maxHeartbeats 16000000 in
theorem pendPlays_walk (x sd : Int) (fa : Option Addr) (flen fcap : Nat) (zs : List Int) (a : Option Addr) (cap : Nat) (acts : List ActT) (w : World) (hx : (Lit.int .i64 x).wf = true) (hsd : (Lit.int .u64 sd).wf = true) (hz : IsRow .u64 w fa flen fcap zs) (hA : IsActs w a acts) :
    Calls Try.prog 7 #[.int .i64 x, .int .u64 sd, .slice fa flen fcap, .slice a acts.length cap] w fun e w' => e = .returned (.bool true) ∧ Below w.heap.size w w' := by
  have hmax := hA.1
  unfold maxLen at hmax
  have hxi := int_i64 hx
  obtain ⟨l, hll, hlb, hrd, _, hlm⟩ := D.arg_u64 hz
  unfold maxLen at hlm
  obtain ⟨seed, rfl, hseed⟩ := D.nat_of_u64 hsd
  have HA := Lib.hid hA.2
  have HRD := Lib.hid hrd
  have HLB := Lib.hid hlb
  subst hll
  clear hA hrd hlb hz hx hsd
  by_cases hb1 : 200 < acts.length
  · have hb1I : (200 : Int) < (acts.length : Int) := by omega
    go_enter Try.func7, Try.ntmps7
    go_wp2_with fail
    refine (awake_any _).mono ?_
    rintro e w1 ⟨rfl, hc1⟩
    go_wp2
    go_ret
    exact ⟨rfl, hc1.below (Nat.le_refl _) (by simp)⟩
  have hd1 : decide (200 < acts.length) = false := by simpa using hb1
  have hd1I : decide ((200 : Int) < (acts.length : Int)) = false := by simp; omega
  by_cases hb2 : 300 < l.length
  · have hb2I : (300 : Int) < (l.length : Int) := by omega
    clear hb1
    go_enter Try.func7, Try.ntmps7
    go_wp2_with fail
    refine (awake_any _).mono ?_
    rintro e w1 ⟨rfl, hc1⟩
    go_wp2
    go_ret
    exact ⟨rfl, hc1.below (Nat.le_refl _) (by simp)⟩
  have hd2 : decide (300 < l.length) = false := by simpa using hb2
  have hd2I : decide ((300 : Int) < (l.length : Int)) = false := by simp; omega
  have hal : acts.length ≤ 200 := by omega
  have hll : l.length ≤ 300 := by omega
  clear hb1 hb2
  by_cases hnr : x < 1 ∨ 9 < x
  · have HNR := Lib.hid hnr
    clear hnr
    go_enter Try.func7, Try.ntmps7
    go_wp2_with fail
    refine (new_out x _ HNR.out).mono ?_
    rintro e w1 ⟨rfl, rfl⟩
    go_wp2_with fail
    refine (rnew_out x _ HNR.out).mono ?_
    rintro e w1 ⟨rfl, rfl⟩
    go_wp2_with fail
    refine (awake_any _).mono ?_
    rintro e w1 ⟨rfl, hc1⟩
    go_wp2
    go_ret
    exact ⟨rfl, hc1.below (Nat.le_refl _) (by simp)⟩
  obtain ⟨n, rfl⟩ : ∃ n : Nat, x = n := ⟨x.toNat, by omega⟩
  have hn1 : 1 ≤ n := by omega
  have hn9 : n ≤ 9 := by omega
  clear hnr hxi
  go_enter Try.func7, Try.ntmps7
  go_wp2_with fail
  refine (new_in n w hn1 hn9).mono ?_
  rintro e w1 ⟨tb, ms, rfl, hP, htb, hms, hc1⟩
  go_wp2_with fail
  refine (rnew_in n w1 hn1 hn9).mono ?_
  rintro e w2 ⟨rfl, hX, hc2⟩
  obtain ⟨q, hq⟩ : ∃ q, q = w1.heap.size := ⟨_, rfl⟩
  have hloq : w.heap.size ≤ q := by have := hc1.size; omega
  rw [← hq] at hX ⊢
  have hC2 := hc1.trans hc2
  have hP2 := hP.same hc2
  clear hP hq hc1 hc2
  go_wp2_with fail
  refine (D.new_any seed _ l w2 (by omega) HLB.out (HRD.out.chg (S := []) hC2 (by simp))).mono ?_
  rintro e w3 ⟨b, rfl, hbl, hT, hc3⟩
  have hlob : w.heap.size ≤ b := Nat.le_trans hC2.size hbl
  have hTT : TT w3 tb ms n b seed l ⟨[], 0⟩ := ⟨hP2.same hc3, hT⟩
  have hX3 := hX.same hc3
  have hC3 := hC2.trans hc3
  clear hP2 hT hX hC2 hc3 hbl
  go_wp2_with fail
  refine (D.rnew_any seed _ l w3 hseed (by omega) HLB.out (HRD.out.chg (S := []) hC3 (by simp))).mono ?_
  rintro e w4 ⟨br, rfl, hbr, hY, hc4, _⟩
  have hPP : PP w w4 tb ms n b q br seed l ⟨[], 0⟩ ⟨[], 0⟩ := by
    refine ⟨hTT.same hc4, hX3.same hc4, hY, ?_, hloq, Nat.le_trans hC3.size hbr, hC3.trans hc4⟩
    intro y hy
    rcases List.mem_cons.1 hy with e | e
    · omega
    · exact hms y e
  have HPP := Lib.hid hPP
  clear hTT hX3 hC3 hY hc4 hbr hlob hloq hPP hms htb HRD HLB
  go_wp2_with fail
  go_loopw [9, 11, 15] (PPlaysR n b br seed l acts.length w) (fun _ _ i _ => acts.length - (intOf i).toNat)
  case atStart => exact ⟨0, tb, ms, q, ⟨[], 0⟩, Nat.zero_le _, rfl, rfl, rfl, HPP.out, Nat.le_refl _, Nat.le_refl _⟩
  case round =>
    clear HPP
    obtain ⟨j, tb, ms, q, st, hj, rfl, rfl, rfl, hR, hLj, hkj⟩ := hrel
    by_cases hlt : j < acts.length
    · obtain ⟨g, o, ha, hg, d0, d1, d2, hok⟩ := HA.out j hlt
      obtain ⟨A, hA⟩ : ∃ A, A = acts[j] := ⟨_, rfl⟩
      rw [← hA] at d0 d1 d2 hok
      obtain ⟨K, U, N⟩ := A
      obtain ⟨L, k⟩ := st
      simp only at hLj hkj
      subst ha
      have e0 : wr.cell? ⟨g, o + j * 3, none⟩ = some (.int .u8 K) := hR.chg.cell d0 (by simp)
      have e1 : wr.cell? ⟨g, o + j * 3 + 1, none⟩ = some (.int .i64 U) := hR.chg.cell d1 (by simp)
      have e2 : wr.cell? ⟨g, o + j * 3 + 2, none⟩ = some (.int .i64 N) := hR.chg.cell d2 (by simp)
      clear hA d0 d1 d2 hok
      obtain ⟨p0, hp0⟩ : ∃ p0, p0 = wr.heap.size := ⟨_, rfl⟩
      have hpF : p0 ∉ b :: ms := by
        intro hh
        rcases List.mem_cons.1 hh with e | e
        · have := hR.tt.tape.lt; omega
        · have := hR.tt.tab.mlt _ e; omega
      have hpq : p0 ∉ [br, q] := by have h1 := hR.x.lt; have h2 := hR.y.lt; simp; omega
      by_cases hK0 : K = 0
      · subst hK0
        go_wp2_with fail
        rw [← hp0]
        refine calls_abs ?_
        intro w0 hw0
        have z1 : w0.cell? ⟨p0, 1, none⟩ = some (.int .i64 U) := by rw [hw0, hp0]; exact cell_of (heap_new _ _)
        have z2 : w0.cell? ⟨p0, 2, none⟩ = some (.int .i64 N) := by rw [hw0, hp0]; exact cell_of (heap_new _ _)
        have hR0 : PP w w0 tb ms n b q br seed l ⟨L, k⟩ ⟨L, k⟩ := by rw [hw0]; exact hR.same ((Chg.refl _ _).alloc _)
        clear hw0 hp0 e0 e1 e2 hR
        obtain ⟨ee, hee⟩ : ∃ ee, ee = errP n L U N := ⟨_, rfl⟩
        obtain ⟨r, hr⟩ : ∃ r, r = idP n L U N (D.drawN seed l k) := ⟨_, rfl⟩
        obtain ⟨L', hL'⟩ : ∃ L', L' = drawL n L U N (D.drawN seed l k) := ⟨_, rfl⟩
        obtain ⟨k', hk'⟩ : ∃ k', k' = usedP n L U N k := ⟨_, rfl⟩
        have hLl : L'.length ≤ j + 1 := by have := drawL_len n L U N (D.drawN seed l k); rw [← hL'] at this; omega
        have hkl : k' ≤ j + 1 := by have := usedP_le n L U N k; rw [← hk'] at this; omega
        have H1 := Lib.hid hee
        have H2 := Lib.hid hr
        have H3 := Lib.hid hL'
        have H4 := Lib.hid hk'
        have hok0 := hR0.tt.tab.ok
        clear hee hr hL' hk'
        refine (draw_any tb ms n L w0 U N b seed l k r ee k' L' hR0.tt.tab hR0.tt.tape (by omega) H1 H2 H3 H4).mono ?_
        rintro e9 w5 ⟨rfl, k5, t5, hc5⟩
        have hR5 := hR0.tstep (st' := ⟨L', k'⟩) ⟨k5, t5⟩ hc5
        have y1 := hc5.cell (p := ⟨p0, 1, none⟩) z1 hpF
        have y2 := hc5.cell (p := ⟨p0, 2, none⟩) z2 hpF
        clear z1 z2 hR0 k5 t5 hc5
        go_wp2_with fail
        refine (rdraw_any q n L w5 U N br seed l k r ee k' L' hR5.x hok0 hR5.y (by omega) hn9 (by omega) H1 H2 H3 H4).mono ?_
        rintro e9 w6 ⟨rfl, k6, t6, hc6⟩
        have hR6 := hR5.xstep (sx' := ⟨L', k'⟩) k6 t6 hc6
        have hused := fun (m : Nat) => D.used_any b seed l k' (w6.drewN m) (tape_chg hR6.tt.tape ((Chg.refl [] _).drewN m) (odd_nil _) (by simp))
        obtain ⟨vv, hy1, _⟩ := hR6.y
        have ky : w6.cell? ⟨br, 2, none⟩ = some (.int .i64 k') := cell_of hy1
        have HR6 := Lib.hid hR6
        clear hR5 hR6 k6 t6 hc6 y1 y2 H1 H2 H3 H4 hy1 hpF hpq
        go_wp2_with fail
        go_quiet ((go_at_call 20; exact Calls.quiet_of_same ((hused _).mono fun e w' h => ⟨h.1, h.2.symm⟩)))
        go_wp2_with fail
        refine calls_abs ?_
        intro wo hwo
        have hR9 : PP w wo tb ms n b q br seed l ⟨L', k'⟩ ⟨L', k'⟩ := by rw [hwo]; exact HR6.out.same ((Chg.refl [] _).drewN _)
        clear HR6 hused ky hwo

        refine (alike_any tb ms n q _ _ hR9.tt.tab hR9.x).mono ?_
        rintro e9 w9 ⟨rfl, hc9⟩
        have hRZ := hR9.same hc9
        clear hR9 hc9
        go_wp2
        go_roundw
        case rel => exact ⟨j + 1, tb, ms, q, ⟨L', k'⟩, by omega, by go_num, rfl, rfl, hRZ, by simp only; omega, by simp only; omega⟩
        case measure => simp [intOf] <;> omega
      have u0 : ((K : Int) == 0) = false := by simp; omega
      by_cases hK1 : K = 1
      · subst hK1
        go_wp2_with fail
        rw [← hp0]
        refine wp_abs ?_
        intro w0 hw0
        have z1 : w0.cell? ⟨p0, 1, none⟩ = some (.int .i64 U) := by rw [hw0, hp0]; exact cell_of (heap_new _ _)
        have z2 : w0.cell? ⟨p0, 2, none⟩ = some (.int .i64 N) := by rw [hw0, hp0]; exact cell_of (heap_new _ _)
        have hR0 : PP w w0 tb ms n b q br seed l ⟨L, k⟩ ⟨L, k⟩ := by rw [hw0]; exact hR.same ((Chg.refl _ _).alloc _)
        clear hw0 hp0 e0 e1 e2 hR
        obtain ⟨cc, hcc⟩ : ∃ cc, cc = L.length - (freeA L N).length := ⟨_, rfl⟩
        have HCC := Lib.hid hcc
        have hlA := freeA_le L N
        obtain ⟨L', hL'⟩ : ∃ L', L' = freeA L N := ⟨_, rfl⟩
        rw [← hL'] at hlA
        have HL' := Lib.hid hL'
        have hR1 := hR0.same ((Chg.refl [] _).drew)
        have Z1 : Hid (w0.drew.cell? ⟨p0, 2, none⟩ = some (.int .i64 N)) := Lib.hid z2
        clear hcc hR0 z1 z2 hL'
        go_region_held3 (fun W => W.cell? ⟨p0, 2, none⟩ = some (.int .i64 N)) (first | (with_reducible exact Z6.out) | (with_reducible exact Z5.out) | (with_reducible exact Z1.out)) (first | (go_at_call 17; go_must (refine (free_any tb ms n L _ N cc hR1.tt.tab HCC (by omega)).mono ?_; rintro e9 w5 ⟨rfl, k5, hc5⟩; rw [← HL'.out] at k5; have t5 := hR1.tt.tab.btape hR1.tt.tape hc5; have hR5 := hR1.tstep (st' := ⟨L', k⟩) ⟨k5, t5⟩ (chg_cons hc5); have Z5 := Lib.hid ((chg_cons (b := b) hc5).cell (p := ⟨p0, 2, none⟩) Z1.out hpF))) | (go_at_call 24; go_must (refine (rFree_any q n L _ N cc hR5.x HCC).mono ?_; rintro e9 w6 ⟨rfl, k6, hc6⟩; rw [← HL'.out] at k6; have hR9 := hR5.xq k6 hc6; have Z6 := Lib.hid (hc6.cell (p := ⟨p0, 2, none⟩) Z5.out (fun hh => hpq (List.mem_cons_of_mem _ hh))))))
        clear Z1 Z5 Z6 hR1 hR5 k5 t5 hc5 k6 hc6 HCC HL' hpF hpq

        go_wp2_with fail
        refine (alike_any tb ms n q _ _ hR9.tt.tab hR9.x).mono ?_
        rintro e9 w9 ⟨rfl, hc9⟩
        have hRZ := hR9.same hc9
        clear hR9 hc9
        go_wp2
        go_roundw
        case rel => exact ⟨j + 1, tb, ms, q, ⟨L', k⟩, by omega, by go_num, rfl, rfl, hRZ, by simp only; omega, by simp only; omega⟩
        case measure => simp [intOf] <;> omega
      have u1 : ((K : Int) == 1) = false := by simp; omega
      by_cases hK2 : K = 2
      · subst hK2
        go_wp2_with fail
        rw [← hp0]
        refine wp_abs ?_
        intro w0 hw0
        have z1 : w0.cell? ⟨p0, 1, none⟩ = some (.int .i64 U) := by rw [hw0, hp0]; exact cell_of (heap_new _ _)
        have z2 : w0.cell? ⟨p0, 2, none⟩ = some (.int .i64 N) := by rw [hw0, hp0]; exact cell_of (heap_new _ _)
        have hR0 : PP w w0 tb ms n b q br seed l ⟨L, k⟩ ⟨L, k⟩ := by rw [hw0]; exact hR.same ((Chg.refl _ _).alloc _)
        clear hw0 hp0 e0 e1 e2 hR
        obtain ⟨cc, hcc⟩ : ∃ cc, cc = L.length - (freeO L N U).length := ⟨_, rfl⟩
        have HCC := Lib.hid hcc
        have hlA := freeO_le L N U
        have hok0 := hR0.tt.tab.ok
        obtain ⟨L', hL'⟩ : ∃ L', L' = freeO L N U := ⟨_, rfl⟩
        rw [← hL'] at hlA
        have HL' := Lib.hid hL'
        have hR1 := hR0.same ((Chg.refl [] _).drew)
        have Z1 : Hid (w0.drew.cell? ⟨p0, 1, none⟩ = some (.int .i64 U) ∧ w0.drew.cell? ⟨p0, 2, none⟩ = some (.int .i64 N)) := Lib.hid ⟨z1, z2⟩
        clear hcc hR0 z1 z2 hL'
        go_region_held3 (fun W => W.cell? ⟨p0, 1, none⟩ = some (.int .i64 U) ∧ W.cell? ⟨p0, 2, none⟩ = some (.int .i64 N)) (first | (with_reducible exact Z6.out) | (with_reducible exact Z5.out) | (with_reducible exact Z1.out)) (first | (go_at_call 16; go_must (refine (freeAt_any tb ms n L _ U N cc hR1.tt.tab HCC).mono ?_; rintro e9 w5 ⟨rfl, k5, hc5⟩; rw [← HL'.out] at k5; have t5 := hR1.tt.tab.btape hR1.tt.tape hc5; have hR5 := hR1.tstep (st' := ⟨L', k⟩) ⟨k5, t5⟩ (chg_cons hc5); have Z5 := Lib.hid (And.intro ((chg_cons (b := b) hc5).cell (p := ⟨p0, 1, none⟩) Z1.out.1 hpF) ((chg_cons (b := b) hc5).cell (p := ⟨p0, 2, none⟩) Z1.out.2 hpF)))) | (go_at_call 25; go_must (refine (rFreeAt_any q n L _ N U cc hR5.x hok0 HCC).mono ?_; rintro e9 w6 ⟨rfl, k6, hc6⟩; rw [← HL'.out] at k6; have hR9 := hR5.xq k6 hc6; have Z6 := Lib.hid (And.intro (hc6.cell (p := ⟨p0, 1, none⟩) Z5.out.1 (fun hh => hpq (List.mem_cons_of_mem _ hh))) (hc6.cell (p := ⟨p0, 2, none⟩) Z5.out.2 (fun hh => hpq (List.mem_cons_of_mem _ hh)))))))
        clear Z1 Z5 Z6 hR1 hR5 k5 t5 hc5 k6 hc6 HCC HL' hpF hpq hok0

        go_wp2_with fail
        refine (alike_any tb ms n q _ _ hR9.tt.tab hR9.x).mono ?_
        rintro e9 w9 ⟨rfl, hc9⟩
        have hRZ := hR9.same hc9
        clear hR9 hc9
        go_wp2
        go_roundw
        case rel => exact ⟨j + 1, tb, ms, q, ⟨L', k⟩, by omega, by go_num, rfl, rfl, hRZ, by simp only; omega, by simp only; omega⟩
        case measure => simp [intOf] <;> omega
      have u2 : ((K : Int) == 2) = false := by simp; omega
      · skip
        go_wp2_with fail
        rw [← hp0]
        refine calls_abs ?_
        intro w0 hw0
        have z1 : w0.cell? ⟨p0, 1, none⟩ = some (.int .i64 U) := by rw [hw0, hp0]; exact cell_of (heap_new _ _)
        have z2 : w0.cell? ⟨p0, 2, none⟩ = some (.int .i64 N) := by rw [hw0, hp0]; exact cell_of (heap_new _ _)
        have hR0 : PP w w0 tb ms n b q br seed l ⟨L, k⟩ ⟨L, k⟩ := by rw [hw0]; exact hR.same ((Chg.refl _ _).alloc _)
        clear hw0 hp0 e0 e1 e2 hR
        refine (copy_any tb ms n L w0 hR0.tt.tab).mono ?_
        rintro e9 w5 ⟨tbc, msc, rfl, k5, _, hmc, hc5⟩
        have hR5 := hR0.same hc5
        have y2 := hc5.cell z2 (by simp)
        have hdis := dis_new hR0.tt.tab hmc
        have hlc : ∀ y ∈ msc, w.heap.size ≤ y := fun y hy => Nat.le_trans hR0.chg.size (hmc y hy)
        have HDIS := Lib.hid hdis
        have HLC := Lib.hid hlc
        have hp5 : p0 < w5.heap.size := World.block_lt_of_cell? _ _ y2
        clear z1 z2 hc5 hR0 hdis hlc hmc
        go_wp2_with fail
        refine (D.new_any 1 _ [] w5 (by simp) (by simp) D.reads_nil).mono ?_
        rintro e9 w6 ⟨b6, rfl, hb6, t6, hc6⟩
        have hR6 := hR5.same hc6
        have k6 := k5.same hc6
        have y6 := hc6.cell y2 (by simp)
        have hb6w : w.heap.size ≤ b6 := Nat.le_trans hR5.chg.size hb6
        have hbb : b ≠ b6 := by have := hR5.tt.tape.lt; omega
        have hpb : p0 ≠ b6 := by omega
        clear hR5 k5 hc6 y2 hb6 hp5
        go_wp2_with fail
        refine (draw_any tb ms n L w6 0 1 b6 1 [] 0 _ _ _ _ hR6.tt.tab t6 (by omega) (Lib.hid rfl) (Lib.hid rfl) (Lib.hid rfl) (Lib.hid rfl)).mono ?_
        rintro e9 w7 ⟨rfl, k7, t7, hc7⟩
        have hll7 := drawL_len n L 0 1 (D.drawN 1 [] 0)
        have hodd7 : Odd (b6 :: ms) w6 := TT.odd (st := ⟨L, 0⟩) ⟨hR6.tt.tab, t6⟩
        have kc7 := k6.chg hc7 hodd7 (not_cons' k6 t6 HDIS.out.1)
        have y7 := hc7.cell (p := ⟨p0, 2, none⟩) y6 (by
          intro hh
          rcases List.mem_cons.1 hh with e | e
          · exact hpb e
          · exact hpF (List.mem_cons_of_mem _ e))
        have tb7 : D.TapeAt w7 b seed l k := tape_chg hR6.tt.tape hc7 hodd7 (by
          intro hh
          rcases List.mem_cons.1 hh with e | e
          · exact hbb e
          · exact hR6.tt.tab.not_tape hR6.tt.tape b e rfl)
        have x7 : RTab w7 q n L := hR6.x.chg hc7 hodd7 (by
          intro hh
          obtain ⟨_, v, h1, _⟩ := hR6.x
          exact cells_not (st := ⟨L, 0⟩) ⟨hR6.tt.tab, t6⟩ h1 (by decide) hh)
        have r7 : D.RTape w7 br seed l k := rtape_chg hR6.y hc7 hodd7 (by
          intro hh
          obtain ⟨v, h1, _⟩ := hR6.y
          exact cells_not (st := ⟨L, 0⟩) ⟨hR6.tt.tab, t6⟩ h1 (by decide) hh)
        have hC7 : Chg [] w w7 := hR6.chg.trans_new hc7 (by
          intro y hy
          rcases List.mem_cons.1 hy with e | e
          · right; omega
          · exact .inr (hR6.lo y (List.mem_cons_of_mem _ e)))
        have hlo := hR6.lo
        have hloq := hR6.loq
        have hlor := hR6.lor
        have HLO := Lib.hid hlo
        obtain ⟨L7, hL7⟩ : ∃ L7, L7 = drawL n L 0 1 (D.drawN 1 [] 0) := ⟨_, rfl⟩
        rw [← hL7] at k7 hll7
        clear hR6 k6 t6 hc7 y6 t7 hodd7 hL7 hlo hbb hpb
        go_wp2_with fail
        refine (free_any tb ms n L7 w7 N _ k7 (Lib.hid rfl) (by omega)).mono ?_
        rintro e9 w8 ⟨rfl, _, hc8⟩
        have kc8 := kc7.beside k7 hc8 HDIS.out.1
        have tb8 := k7.btape tb7 hc8
        have x8 := x7.chg hc8 k7.odd (by
          intro hh
          obtain ⟨_, v, h1, _⟩ := x7
          exact cells_not (st := ⟨L7, k⟩) ⟨k7, tb7⟩ h1 (by decide) (List.mem_cons_of_mem _ hh))
        have r8 := rtape_chg r7 hc8 k7.odd (by
          intro hh
          obtain ⟨v, h1, _⟩ := r7
          exact cells_not (st := ⟨L7, k⟩) ⟨k7, tb7⟩ h1 (by decide) (List.mem_cons_of_mem _ hh))
        have hC8 := hC7.trans_new hc8 (fun y hy => .inr (HLO.out y (List.mem_cons_of_mem _ hy)))
        clear kc7 k7 tb7 x7 r7 hC7 hc8 y7
        go_wp2_with fail
        refine (rcopy_any q n L w8 x8).mono ?_
        rintro e9 w9 ⟨q9, rfl, hq9, x9, hc9⟩
        have hR9 : PP w w9 tbc msc n b q9 br seed l ⟨L, k⟩ ⟨L, k⟩ := by
          refine ⟨⟨kc8.same hc9, tape_chg tb8 hc9 (odd_nil _) (by simp)⟩, x9, rtape_chg r8 hc9 (odd_nil _) (by simp), ?_, Nat.le_trans hC8.size hq9, hlor, hC8.trans hc9⟩
          intro y hy
          rcases List.mem_cons.1 hy with e | e
          · rw [e]; exact HLO.out b (by simp)
          · exact HLC.out y e
        clear kc8 tb8 x8 r8 hC8 hc9 x9 hq9 hpF hpq HLO HLC HDIS

        go_wp2_with fail
        refine (alike_any tbc msc n q9 _ _ hR9.tt.tab hR9.x).mono ?_
        rintro e9 w10 ⟨rfl, hc10⟩
        have hRZ := hR9.same hc10
        clear hR9 hc10
        go_wp2
        go_roundw
        case rel => exact ⟨j + 1, tbc, msc, q9, ⟨L, k⟩, by omega, by go_num, rfl, rfl, hRZ, by simp only; omega, by simp only; omega⟩
        case measure => simp [intOf] <;> omega
    · go_wp2_with fail
      refine (awake_any _).mono ?_
      rintro e w8 ⟨rfl, hc8⟩
      go_wp2
      go_ret
      exact ⟨rfl, (hR.chg.trans hc8).below (Nat.le_refl _) (by simp)⟩

end Go.Proofs.Yteehenajchdgaaa
