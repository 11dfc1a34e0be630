/- The walk of FlightPlays. -/
import Derived.Test.YtopkbchjlifflaaFlZ
namespace Go.Proofs.Ytopkbchjlifflaa
open Go.RowKit Go.Maps

def actC (A : ActT) (nx dx : ByteArray) (who : Int) : Array Value := #[.int .u8 (A.k : Nat), .string nx, .int .u16 (A.q.ty : Nat), .int .u16 (A.q.cl : Nat), .int .i64 A.s, .int .i64 who, .string dx]
set_option maxRecDepth 100000 in
set_option maxHeartbeats 16000000 in
theorem flightPlays_walk (a1 a2 : Int) (a : Option Addr) (cap : Nat) (acts : List ActT) (w : World) (_hx : (Lit.int .i64 a1).wf = true) (_hy : (Lit.int .i64 a2).wf = true) (hA : IsActs w a acts) :
    Calls Try.prog 7 #[.int .i64 a1, .int .i64 a2, .slice a acts.length cap] w fun e w' => e = .returned (.bool true) ∧ Below w.heap.size w w' := by
  have hmax := hA.1
  unfold maxLen at hmax
  have HA := Lib.hid hA
  clear hA
  go_enter Try.func7, Try.ntmps7
  go_wp2_with fail
  refine (long_names a cap acts w HA.out).mono ?_
  rintro e w1 ⟨b1, rfl, hnm, hc1⟩
  cases b1 with
  | true =>
    go_wp2_with fail
    refine (awake_any _).mono ?_
    rintro e w9 ⟨rfl, hc9⟩
    go_wp2
    go_ret
    exact ⟨rfl, (hc1.trans hc9).below (Nat.le_refl _) (by simp)⟩
  | false =>
    have HNM := Lib.hid (hnm rfl)
    clear hnm
    cases hok : okNew a1 a2 with
    | false =>
      go_wp2_with fail
      refine (new_out a1 a2 w1 hok).mono ?_
      rintro e w2 ⟨rfl, rfl⟩
      go_wp2_with fail
      refine (rnew_out a1 a2 w1 hok).mono ?_
      rintro e w2 ⟨rfl, rfl⟩
      go_wp2_with fail
      refine (awake_any _).mono ?_
      rintro e w9 ⟨rfl, hc9⟩
      go_wp2
      go_ret
      exact ⟨rfl, (hc1.trans hc9).below (Nat.le_refl _) (by simp)⟩
    | true =>
      have hok' : 1 ≤ a1 ∧ a1 ≤ 32 ∧ 1 ≤ a2 ∧ a2 ≤ 16 := by
        unfold okNew at hok
        simp at hok
        omega
      obtain ⟨n, rfl⟩ : ∃ n : Nat, a1 = n := ⟨a1.toNat, by omega⟩
      obtain ⟨m, rfl⟩ : ∃ m : Nat, a2 = m := ⟨a2.toNat, by omega⟩
      have hn1 : 1 ≤ n := by omega
      have hn32 : n ≤ 32 := by omega
      have hm1 : 1 ≤ m := by omega
      have hm16 : m ≤ 16 := by omega
      clear hok hok'
      go_wp2_with fail
      refine (new_in n m w1 hn1 hn32 hm1 hm16).mono ?_
      rintro e w2 ⟨t, F, rfl, hF, hlo, hc2⟩
      have HF := Lib.hid hF
      have HLO := Lib.hid hlo
      have HC2 := Lib.hid hc2
      clear hF hlo hc2
      go_wp2_with fail
      refine (rnew_in n m w2 hn1 hn32 hm1 hm16).mono ?_
      rintro e w3 ⟨rfl, hG, hc3⟩
      obtain ⟨x, hx⟩ : ∃ x, x = w2.heap.size := ⟨_, rfl⟩
      rw [← hx] at hG ⊢
      have hflt := HF.out.lt
      have hP : Pl [] w w3 t x n m [] [] := ⟨F, [x], HF.out.same hc3, hG, fun y hy => Nat.le_trans hc1.size (HLO.out y hy), fun y hy => by simp at hy; subst hy; rw [hx]; exact Nat.le_trans hc1.size HC2.out.size, fun y hy hh => by simp at hh; have := hflt y hy; omega, by simp, by simp, by simp, (hc1.trans HC2.out).trans hc3⟩
      have HP := Lib.hid hP
      clear hG hc3 hx hflt hP HF HLO HC2 hc1
      go_wp2_with fail
      go_loopw [7, 9, 11] (fun tv xv i wr => ∃ (t x j : Nat) (L : List Fl), tv = .pointer (some ⟨t, 0, none⟩) ∧ xv = .pointer (some ⟨x, 0, none⟩) ∧ j ≤ acts.length ∧ i = .int .i64 (j : Nat) ∧ OkW L ∧ Pl [] w wr t x n m L L) (fun _ _ i _ => acts.length - (intOf i).toNat)
      case atStart => exact ⟨t, x, 0, [], rfl, rfl, Nat.zero_le _, rfl, okW_nil, HP.out⟩
      case round =>
        clear HP
        obtain ⟨t, x, j, L, rfl, rfl, hj, rfl, hW, hP⟩ := hrel
        by_cases hlt : j < acts.length
        · obtain ⟨g, o, ha, _, hc, hok⟩ := (HA.out.chg hP.isChg).2 j hlt
          have hql := HNM.out j hlt
          obtain ⟨A, hA⟩ : ∃ A, A = acts[j] := ⟨_, rfl⟩
          rw [← hA] at hc hok hql
          obtain ⟨nx, hnx⟩ : ∃ nx, nx = bytesV A.q.name := ⟨_, rfl⟩
          obtain ⟨dx, hdx⟩ : ∃ dx, dx = bytesV A.x.data := ⟨_, rfl⟩
          obtain ⟨who, hwho⟩ : ∃ who, who = A.x.who := ⟨_, rfl⟩
          have e0 : wr.cell? ⟨g, o + j * 7, none⟩ = some (.int .u8 (A.k : Nat)) := hc 0 _ rfl
          have e1 : wr.cell? ⟨g, o + j * 7 + 1, none⟩ = some (.string nx) := by rw [hnx]; exact hc 1 _ rfl
          have e2 : wr.cell? ⟨g, o + j * 7 + 2, none⟩ = some (.int .u16 (A.q.ty : Nat)) := hc 2 _ rfl
          have e3 : wr.cell? ⟨g, o + j * 7 + 3, none⟩ = some (.int .u16 (A.q.cl : Nat)) := hc 3 _ rfl
          have e4 : wr.cell? ⟨g, o + j * 7 + 4, none⟩ = some (.int .i64 A.s) := hc 4 _ rfl
          have e5 : wr.cell? ⟨g, o + j * 7 + 5, none⟩ = some (.int .i64 who) := by rw [hwho]; exact hc 5 _ rfl
          have e6 : wr.cell? ⟨g, o + j * 7 + 6, none⟩ = some (.string dx) := by rw [hdx]; exact hc 6 _ rfl
          subst ha
          obtain ⟨p0, hp0⟩ : ∃ p0, p0 = wr.heap.size := ⟨_, rfl⟩
          have hb0 : (wr.alloc (.cells (actC A nx dx who) 40)).heap[p0]? = some (.cells (actC A nx dx who) 40 (0, 0)) := heap_new' _ _ _ hp0
          have hP0 := hP.add ((Chg.refl [] wr).alloc (.cells (actC A nx dx who) 40)) hb0 (by omega)
          obtain ⟨w0, hw0⟩ : ∃ w0, w0 = wr.alloc (.cells (actC A nx dx who) 40) := ⟨_, rfl⟩
          rw [← hw0] at hP0
          have HW0 := Lib.hid hw0
          have HPP := Lib.hid hp0
          have HP0 := Lib.hid hP0
          have HNX := Lib.hid hnx
          have HDX := Lib.hid hdx
          have HWHO := Lib.hid hwho
          have HOK := Lib.hid hok
          have HQL := Lib.hid hql
          have HW := Lib.hid hW
          clear hc hok hql hA hnx hdx hwho hp0 hb0 hP0 hw0 hP hW
          have HCELL : Hid (∀ W : World, W.heap[p0]? = some (.cells (actC A nx dx who) 40 (0, 0)) → (W.cell? ⟨p0, 1, none⟩ = some (.string nx) ∧ W.cell? ⟨p0, 2, none⟩ = some (.int .u16 (A.q.ty : Nat)) ∧ W.cell? ⟨p0, 3, none⟩ = some (.int .u16 (A.q.cl : Nat)) ∧ W.cell? ⟨p0, 4, none⟩ = some (.int .i64 A.s) ∧ W.cell? ⟨p0, 5, none⟩ = some (.int .i64 who) ∧ W.cell? ⟨p0, 6, none⟩ = some (.string dx))) := Lib.hid fun W h => ⟨cell_of h, cell_of h, cell_of h, cell_of h, cell_of h, cell_of h⟩
          have hend : ∀ (t' x' : Nat) (L' : List Fl) (W : World), OkW L' → Pl [(p0, .cells (actC A nx dx who) 40 (0, 0))] w W t' x' n m L' L' → Calls Try.prog 32 #[.pointer (some ⟨t', 0, none⟩), .pointer (some ⟨x', 0, none⟩), .agg #[.string nx, .int .u16 (A.q.ty : Nat), .int .u16 (A.q.cl : Nat)], .int .i64 A.s] W fun e w' => e = .returned (.bool true) ∧ Pl [] w w' t' x' n m L' L' := by
            intro t' x' L' W _ hp
            obtain ⟨F, G, h⟩ := hp
            rw [HNX.out]
            refine (alike_any F G t' x' n m L' A.q A.s W h.ft h.rt HOK.out.q (by have := HQL.out; omega)).mono ?_
            rintro e w' ⟨rfl, hc⟩
            exact ⟨rfl, (Pl.same ⟨F, G, h⟩ hc).drop⟩
          have HEND := Lib.hid hend
          clear hend
          by_cases k0 : A.k = 0
          · have t0 : ((A.k : Int) == 0) = true := by simpa using k0
            obtain ⟨L', r, er, hbeg⟩ : ∃ L' r er, beginF L n A.q = (L', r, er) := ⟨_, _, _, rfl⟩
            have hW' : OkW L' := by have := HW.out.begin n A.q; rw [hbeg] at this; exact this
            have HBEG := Lib.hid hbeg
            have HW' := Lib.hid hW'
            clear k0 hbeg hW'
            go_wp2_with fail
            rw [← HPP.out]
            refine calls_abs ?_
            intro W hW
            have hWe : W = w0 := by rw [hW, HW0.out]; rfl
            clear hW
            subst hWe
            have hcall := begin_pl HP0.out A.q r er L' HOK.out.q HBEG.out
            rw [← HNX.out] at hcall
            refine hcall.mono ?_
            rintro e w5 ⟨rfl, hP5⟩
            have HPN := Lib.hid hP5
            clear hP5 hcall e0 e1 e2 e3 e4 e5 e6 HP0
            obtain ⟨z1, z2, z3, z4, z5, z6⟩ := HCELL.out w5 (HPN.out.at' List.mem_cons_self)
            have hcall := rbegin_pl HPN.out A.q r er L' HOK.out.q (by have := HQL.out; omega) HBEG.out
            rw [← HNX.out] at hcall
            go_wp2_with fail
            refine hcall.mono ?_
            rintro e w6 ⟨rfl, hP6⟩
            clear hcall HPN z1 z2 z3 z4 z5 z6
            have HPN := Lib.hid hP6
            clear hP6
            obtain ⟨z1, z2, z3, z4, z5, z6⟩ := HCELL.out w6 (HPN.out.at' List.mem_cons_self)
            go_wp2_with fail
            refine (HEND.out t x L' w6 HW'.out HPN.out).mono ?_
            rintro e w7 ⟨rfl, hPF⟩
            have HPF := Lib.hid hPF
            clear hPF HPN z1 z2 z3 z4 z5 z6
            go_wp2
            go_roundw
            case rel => exact ⟨t, x, j + 1, L', rfl, rfl, by omega, by go_num, HW'.out, HPF.out⟩
            case measure => simp [intOf] <;> omega
          have t0 : ((A.k : Int) == 0) = false := by simp; omega
          by_cases k1 : A.k = 1
          · have t1 : ((A.k : Int) == 1) = true := by simp; omega
            obtain ⟨L', er, hjn⟩ : ∃ L' er, joinF L m A.s A.x = (L', er) := ⟨_, _, rfl⟩
            have hW' : OkW L' := by have := HW.out.join m A.s HOK.out.x; rw [hjn] at this; exact this
            have HJN := Lib.hid hjn
            have HW' := Lib.hid hW'
            clear k0 k1 hjn hW'
            go_wp2_with fail
            rw [← HPP.out]
            refine wp_abs ?_
            intro W hW
            have hWe : W = w0 := by rw [hW, HW0.out]; rfl
            clear hW
            subst hWe
            have S0 := Lib.hid (HCELL.out W (HP0.out.at' List.mem_cons_self))
            clear e0 e1 e2 e3 e4 e5 e6
            go_region_held3 (fun W => W.cell? ⟨p0, 1, none⟩ = some (.string nx) ∧ W.cell? ⟨p0, 2, none⟩ = some (.int .u16 (A.q.ty : Nat)) ∧ W.cell? ⟨p0, 3, none⟩ = some (.int .u16 (A.q.cl : Nat)) ∧ W.cell? ⟨p0, 4, none⟩ = some (.int .i64 A.s) ∧ W.cell? ⟨p0, 5, none⟩ = some (.int .i64 who) ∧ W.cell? ⟨p0, 6, none⟩ = some (.string dx)) (first | (with_reducible exact S6.out) | (with_reducible exact S5.out) | exact S0.out) (first | (go_at_call 13; (have hcall := join_pl (HP0.out.same ((Chg.refl [] W).drewN 1)) A.s A.x er L' HJN.out); rw [← HWHO.out, ← HDX.out] at hcall; refine hcall.mono ?_; rintro e9 w5 ⟨rfl, hP5⟩; have S5 := Lib.hid (HCELL.out w5 (hP5.at' List.mem_cons_self))) | (go_at_call 29; (have hcall2 := rjoin_pl hP5 A.s A.x er L' HJN.out); rw [← HWHO.out, ← HDX.out] at hcall2; refine hcall2.mono ?_; rintro e9 w6 ⟨rfl, hP6⟩; have S6 := Lib.hid (HCELL.out w6 (hP6.at' List.mem_cons_self))))
            have HPN := Lib.hid hP6
            clear hP5 hP6 hcall hcall2 HP0 S0 S5 S6
            obtain ⟨z1, z2, z3, z4, z5, z6⟩ := HCELL.out w6 (HPN.out.at' List.mem_cons_self)
            go_wp2_with fail
            refine (HEND.out t x L' w6 HW'.out HPN.out).mono ?_
            rintro e w7 ⟨rfl, hPF⟩
            have HPF := Lib.hid hPF
            clear hPF HPN z1 z2 z3 z4 z5 z6
            go_wp2
            go_roundw
            case rel => exact ⟨t, x, j + 1, L', rfl, rfl, by omega, by go_num, HW'.out, HPF.out⟩
            case measure => simp [intOf] <;> omega
          have t1 : ((A.k : Int) == 1) = false := by simp; omega
          by_cases k2 : A.k = 2
          · have t2 : ((A.k : Int) == 2) = true := by simp; omega
            obtain ⟨L', hL'⟩ : ∃ L', L' = endA L A.s := ⟨_, rfl⟩
            obtain ⟨er, her⟩ : ∃ er, er = errE L A.s := ⟨_, rfl⟩
            obtain ⟨ws, hws⟩ : ∃ ws, ws = goneF L A.s := ⟨_, rfl⟩
            have hW' : OkW L' := by rw [hL']; exact HW.out.endA A.s
            have hwok : ∀ y ∈ ws, OkX y := by rw [hws]; exact HW.out.gone A.s
            obtain ⟨F, G, hS⟩ := HP0.out
            have hwl : ws.length ≤ 1000 := by have := gone_le hS.ft.ok A.s; have := hS.ft.m16; rw [hws]; omega
            have HL' := Lib.hid hL'
            have HER := Lib.hid her
            have HWS := Lib.hid hws
            have HW' := Lib.hid hW'
            have HWOK := Lib.hid hwok
            have HWL := Lib.hid hwl
            have HS := Lib.hid hS
            clear k0 k1 k2 hL' her hws hW' hwok hwl hS HP0
            go_wp2_with fail
            rw [← HPP.out]
            refine calls_abs ?_
            intro W hW
            have hWe : W = w0 := by rw [hW, HW0.out]; rfl
            clear hW
            subst hWe
            refine (end_any F t n m L W A.s er L' ws HS.out.ft HER HL' HWS).mono ?_
            rintro e w5 ⟨v5, rfl, ho5, hF5, hc5⟩
            obtain ⟨va, vc, rfl⟩ := ho5.len
            obtain ⟨wl, hwl⟩ : ∃ wl, wl = ws.length := ⟨_, rfl⟩
            rw [← hwl] at ho5 ⊢
            have hb5 := hc5.keep (HS.out.pl _ List.mem_cons_self) (HS.out.pf _ List.mem_cons_self)
            have hG5 := HS.out.rt.chg hc5 (fun y hy hh => HS.out.dj y hh hy)
            have hblt : p0 < W.heap.size := lt_of_block (HS.out.pl _ List.mem_cons_self)
            obtain ⟨z1, z2, z3, z4, z5, z6⟩ := HCELL.out w5 hb5
            have HWLE := Lib.hid hwl
            have HO5 := Lib.hid ho5
            have HF5 := Lib.hid hF5
            have HC5 := Lib.hid hc5
            have HB5 := Lib.hid hb5
            have HG5 := Lib.hid hG5
            clear hwl ho5 hF5 hc5 hb5 hG5 e0 e1 e2 e3 e4 e5 e6
            go_wp2_with fail
            refine (rend_any G x n m L w5 A.s er L' ws HG5.out HER HL' HWS).mono ?_
            rintro e w6 ⟨na, nc, rfl, hrd, hblk, G6, hG6, hc6, hs6⟩
            rw [← HWLE.out] at hrd hblk ⊢
            have hglt := HS.out.rt.lt
            have hflt := HS.out.ft.lt
            have hF6 := HF5.out.chg hc6 HS.out.dj
            have hb6 := hc6.keep HB5.out (HS.out.pg _ List.mem_cons_self)
            have ho6 : R.OwnR 38 2 wV W.heap.size w6 (.slice va wl vc) ws := HO5.out.chg hc6 (fun g hg hh => by have := (HO5.out.blk g hg).1; have := hglt g hh; omega)
            have hbk : ∀ g, (Value.slice va wl vc).ownBlock = some g → W.heap.size ≤ g ∧ g < w5.heap.size := fun g hg => ⟨(HO5.out.blk g hg).1, (HO5.out.blk g hg).2.1⟩
            have HRD := Lib.hid hrd
            have HBLK := Lib.hid hblk
            have HG6 := Lib.hid hG6
            have HC6 := Lib.hid hc6
            have HS6 := Lib.hid hs6
            have HF6 := Lib.hid hF6
            have HB6 := Lib.hid hb6
            have HO6 := Lib.hid ho6
            have HBK := Lib.hid hbk
            have HGL := Lib.hid hglt
            have HFL := Lib.hid hflt
            clear hrd hblk hG6 hc6 hs6 hF6 hb6 ho6 hbk hglt hflt z1 z2 z3 z4 z5 z6 HB5 HG5 HF5
            go_wp2_with fail
            refine (told_any W.heap.size (.slice va wl vc) ws w6 HO6.out HWL.out).mono ?_
            rintro e w7 ⟨v7, rfl, ho7, hc7⟩
            obtain ⟨ta, tc, rfl⟩ := ho7.len
            rw [← HWLE.out] at ho7 ⊢
            have hrd7 : RdW w7 (.slice na wl nc) ws := HRD.out.chgS hc7 (fun g hg hh => by have := HGL.out g (HBLK.out g hg); have := (HBK.out g (mem_blkL.1 hh)).1; omega)
            have hr7 := rdW_own ho7
            have HRD7 := Lib.hid hrd7
            have HR7 := Lib.hid hr7
            have HC7 := Lib.hid hc7
            clear ho7 hrd7 hr7 hc7 HRD HO6
            go_wp2_with fail
            refine (waiters_same _ _ ws w7 HR7.out HRD7.out HWOK.out (by have := HWL.out; omega)).mono ?_
            rintro e w8 ⟨rfl, hc8⟩
            have hPN : Pl [(p0, .cells (actC A nx dx who) 40 (0, 0))] w w8 t x n m L' L' := by
              have hsz := HS.out.chg.size
              have hs5 := HC5.out.size
              refine ⟨F, G6, (HF6.out.chg HC7.out (fun y hy hh => ?_)).same hc8, (HG6.out.chg HC7.out (fun y hy hh => ?_)).same hc8, HS.out.lf, fun y hy => ?_, fun y hy hh => ?_, fun p hp => ?_, HS.out.pf, fun p hp hh => ?_, ?_⟩
              · have := HFL.out y hy; have := (HBK.out y (mem_blkL.1 hh)).1; omega
              · have h2 := HBK.out y (mem_blkL.1 hh)
                rcases HS6.out y hy with e | e
                · have := HGL.out y e; omega
                · omega
              · rcases HS6.out y hy with e | e
                · exact HS.out.lg y e
                · omega
              · have := HFL.out y hy
                rcases HS6.out y hh with e | e
                · exact HS.out.dj y hy e
                · omega
              · simp at hp
                subst hp
                exact hc8.keep (HC7.out.keep HB6.out (fun hh => by have := (HBK.out _ (mem_blkL.1 hh)).1; simp only at this; omega)) (by simp)
              · simp at hp
                subst hp
                rcases HS6.out _ hh with e | e
                · exact HS.out.pg _ List.mem_cons_self e
                · simp only at e; omega
              · exact (((HS.out.chg.trans_new HC5.out (fun y hy => .inr (HS.out.lf y hy))).trans_new HC6.out (fun y hy => .inr (HS.out.lg y hy))).trans_new HC7.out (fun y hy => by have := (HBK.out y (mem_blkL.1 hy)).1; right; omega)).trans hc8
            have HPN := Lib.hid hPN
            clear hPN hc8 HC7 HR7 HRD7 HB6 HF6 HG6 HC6 HS HO5
            obtain ⟨z1, z2, z3, z4, z5, z6⟩ := HCELL.out w8 (HPN.out.at' List.mem_cons_self)
            go_wp2_with fail
            refine (HEND.out t x L' w8 HW'.out HPN.out).mono ?_
            rintro e w9 ⟨rfl, hPF⟩
            have HPF := Lib.hid hPF
            clear hPF HPN z1 z2 z3 z4 z5 z6
            go_wp2
            go_roundw
            case rel => exact ⟨t, x, j + 1, L', rfl, rfl, by omega, by go_num, HW'.out, HPF.out⟩
            case measure => simp [intOf] <;> omega
          · have t2 : ((A.k : Int) == 2) = false := by simp; omega
            obtain ⟨F, G, hS⟩ := HP0.out
            obtain ⟨L1, r1, er1, hbeg⟩ : ∃ L' r er, beginF L n A.q = (L', r, er) := ⟨_, _, _, rfl⟩
            obtain ⟨L2, er2, hjn⟩ : ∃ L' er, joinF L1 m 0 ⟨9, []⟩ = (L', er) := ⟨_, _, rfl⟩
            have HS := Lib.hid hS
            have HBEG := Lib.hid hbeg
            have HJN := Lib.hid hjn
            clear k0 k1 k2 hS hbeg hjn HP0
            go_wp2_with fail
            rw [← HPP.out]
            refine calls_abs ?_
            intro W hW
            have hWe : W = w0 := by rw [hW, HW0.out]; rfl
            clear hW
            subst hWe
            refine (copy_any F t n m L W HS.out.ft).mono ?_
            rintro e w5 ⟨c, F', rfl, hF', hge, hc5⟩
            have hb5 := hc5.keep (HS.out.pl _ List.mem_cons_self) (by simp)
            obtain ⟨z1, z2, z3, z4, z5, z6⟩ := HCELL.out w5 hb5
            have HF' := Lib.hid hF'
            have HGE := Lib.hid hge
            have HC5 := Lib.hid hc5
            have hcall := begin_any F t n m L w5 A.q r1 er1 L1 (HS.out.ft.same hc5) HOK.out.q HBEG
            rw [← HNX.out] at hcall
            clear hF' hge hc5 hb5 e0 e1 e2 e3 e4 e5 e6
            go_wp2_with fail
            refine hcall.mono ?_
            rintro e w6 ⟨rfl, F1, hF1, hc6, hs6⟩
            have HF1 := Lib.hid hF1
            have HC6 := Lib.hid hc6
            have HS6 := Lib.hid hs6
            clear hF1 hc6 hs6 hcall z1 z2 z3 z4 z5 z6
            go_wp2_with fail
            refine (join_any F1 t n m L1 w6 0 ⟨9, []⟩ er2 L2 HF1.out HJN).mono ?_
            rintro e w7 ⟨rfl, hN7⟩
            have hN7' := FNext.next HC6.out HS6.out hN7
            obtain ⟨F2, hF2, hc7, hs7⟩ := hN7'
            have HF2 := Lib.hid hF2
            have HC7 := Lib.hid hc7
            have HS7 := Lib.hid hs7
            clear hN7 hF2 hc7 hs7 HF1 HC6 HS6
            go_wp2_with fail
            refine (end_any F2 t n m L2 w7 1 _ _ _ HF2.out (Lib.hid rfl) (Lib.hid rfl) (Lib.hid rfl)).mono ?_
            rintro e w8 ⟨v8, rfl, _, hF8, hc8⟩
            have hall : Chg F w5 w8 := HC7.out.trans_new hc8 HS7.out
            have hPN : Pl [(p0, .cells (actC A nx dx who) 40 (0, 0))] w w8 c x n m L L := by
              have hflt := HS.out.ft.lt
              have hglt := HS.out.rt.lt
              have hsz := HS.out.chg.size
              have hblt : p0 < W.heap.size := lt_of_block (HS.out.pl _ List.mem_cons_self)
              refine ⟨F', G, HF'.out.chg hall (fun y hy hh => ?_), (HS.out.rt.same HC5.out).chg hall (fun y hy hh => HS.out.dj y hh hy), fun y hy => ?_, HS.out.lg, fun y hy hh => ?_, fun p hp => ?_, fun p hp hh => ?_, HS.out.pg, ?_⟩
              · have := HGE.out y hy; have := hflt y hh; omega
              · have := HGE.out y hy; omega
              · have := HGE.out y hy; have := hglt y hh; omega
              · exact hall.keep (HC5.out.keep (HS.out.pl p hp) (by simp)) (HS.out.pf p hp)
              · simp at hp
                subst hp
                have := HGE.out _ hh
                simp only at this
                omega
              · exact (HS.out.chg.trans HC5.out).trans_new hall (fun y hy => .inr (HS.out.lf y hy))
            have HPN := Lib.hid hPN
            clear hPN hall hF8 hc8 HF2 HC7 HS7 HF' HGE HC5 HS
            go_wp2_with fail
            refine (rcopy_pl HPN.out).mono ?_
            rintro e w9 ⟨x', rfl, hP9⟩
            clear HPN
            have HPN := Lib.hid hP9
            clear hP9
            obtain ⟨z1, z2, z3, z4, z5, z6⟩ := HCELL.out w9 (HPN.out.at' List.mem_cons_self)
            go_wp2_with fail
            refine (HEND.out c x' L w9 HW.out HPN.out).mono ?_
            rintro e w10 ⟨rfl, hPF⟩
            have HPF := Lib.hid hPF
            clear hPF HPN z1 z2 z3 z4 z5 z6
            go_wp2
            go_roundw
            case rel => exact ⟨c, x', j + 1, L, rfl, rfl, by omega, by go_num, HW.out, HPF.out⟩
            case measure => simp [intOf] <;> omega
        · obtain rfl : j = acts.length := by omega
          have hc := hP.isChg
          clear hP hW
          go_wp2_with fail
          refine (awake_any _).mono ?_
          rintro e w9 ⟨rfl, hc9⟩
          go_wp2
          go_ret
          exact ⟨rfl, (hc.trans hc9).below (Nat.le_refl _) (by simp)⟩

end Go.Proofs.Ytopkbchjlifflaa
