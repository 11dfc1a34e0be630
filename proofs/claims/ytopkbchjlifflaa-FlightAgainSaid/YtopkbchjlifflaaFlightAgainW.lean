/- The walk of FlightAgain. -/
import Derived.Test.YtopkbchjlifflaaFlO
import Derived.Test.YtopkbchjlifflaaAppOwn
import Derived.Deep.RegionLaw
namespace Go.Proofs.Ytopkbchjlifflaa
open Go.RowKit Go.Maps

theorem k_eq (z : Int) (ln : Nat) (h0 : ln ≠ 0) (hl : ln ≤ 32) : wrap64 ((IntKind.u64.wrap z).tmod (ln : Int)) = (((z % 18446744073709551616).toNat % ln : Nat) : Int) := by
  have e : IntKind.u64.wrap z = z % 18446744073709551616 := by rw [IntKind.wrap_u64]
  have h0' : 0 ≤ z % 18446744073709551616 := Int.emod_nonneg _ (by omega)
  rw [e, Int.tmod_eq_emod_of_nonneg h0']
  have h1 : 0 ≤ z % 18446744073709551616 % (ln : Int) := Int.emod_nonneg _ (by omega)
  have h2 : z % 18446744073709551616 % (ln : Int) < ln := Int.emod_lt_of_pos _ (by omega)
  rw [IntWalk.wrap64_in _ (by omega), Int.natCast_emod, Int.toNat_of_nonneg h0']
theorem Try.elemI27 : (Try.prog.info? 3).map (fun i => (i.zero.map fun z => z.cells.size, i.size, i.bytes)) = some (some 1, 1, 8) := by kernel_rfl
theorem one_s (l : List Nat) : ∀ u ∈ l.flatMap sV, u.oneCell' = true := by
  intro u hu
  obtain ⟨x, _, hx⟩ := List.mem_flatMap.1 hu
  simp [sV] at hx
  subst hx
  rfl
theorem news_s {w : World} {rb o : Nat} {l : List Nat} (h : ∀ i (hi : i < l.length), w.cell? ⟨rb, o + i, none⟩ = some (.int .i64 (l[i] : Nat))) : ∀ j u, (l.flatMap sV)[j]? = some u → w.cell? ((⟨rb, o, none⟩ : Addr).add j) = some u := by
  intro j u hu
  have hj : j < l.length := by
    rcases Nat.lt_or_ge j l.length with hh | hh
    · exact hh
    · rw [List.getElem?_eq_none (by rw [R.flat_len sV 1 sV_len]; omega)] at hu; cases hu
  have e := R.flat_get sV 1 sV_len l j hj 0 (by omega)
  rw [Nat.mul_one, Nat.add_zero, hu] at e
  injection e with e
  rw [add_at, e]
  exact h j hj
theorem ownR_cap {α : Type} {t : TypeId} {sz : Nat} {f : α → List Value} {base : Nat} {w : World} {a : Option Addr} {n c : Nat} {l : List α} (h : R.OwnR t sz f base w (.slice a n c) l) : l.length ≤ c := by
  obtain ⟨_, h⟩ := h
  rcases h with ⟨hv, h0⟩ | ⟨g, cap, cur, hv, _, _, hle, _⟩
  · omega
  · injection hv with _ _ e
    omega
theorem own_base {base : Nat} {w : World} {t : TypeId} {sz : Nat} {v : Value} {n : Nat} {xs : List Value} (h : w.ownsRow base t sz v n xs) (g : Nat) (hg : v.ownBlock = some g) : base ≤ g := by
  rcases h.2 with ⟨rfl, _⟩ | ⟨g', cap, cur, rfl, hb, _⟩
  · simp [Value.ownBlock] at hg
  · simp [Value.ownBlock] at hg
    subst hg
    exact hb
/-- A row of the call's own beside a table: it is kept from now on. -/
theorem FInP.own {P : List (Nat × Obj)} {w wr w2 : World} {tb n m : Nat} {L : List Fl} (h : FInP P w wr tb n m L) (hc : Chg [] wr w2) {α : Type} {t : TypeId} {sz : Nat} {f : α → List Value} {v : Value} {l : List α} (ho : R.OwnR t sz f wr.heap.size w2 v l) :
    ∃ o : List (Nat × Obj), FInP (o ++ P) w w2 tb n m L ∧ ∀ (w3 : World), (∀ p ∈ o, w3.heap[p.1]? = some p.2) → R.OwnR t sz f wr.heap.size w3 v l := by
  cases hv : v.ownBlock with
  | none => exact ⟨[], h.same hc, fun w3 _ => ho.keep fun g hg => by rw [hv] at hg; cases hg⟩
  | some g =>
    obtain ⟨h1, _, c, h2⟩ := ho.blk g hv
    refine ⟨[(g, .cells c t (0, 0))], h.add hc h2 h1, fun w3 h3 => ho.keep fun g' hg => ?_⟩
    rw [hv] at hg
    cases hg
    rw [h2]
    exact h3 (g, .cells c t (0, 0)) (by simp)
set_option maxRecDepth 100000 in
set_option maxHeartbeats 8000000 in
theorem flightAgain_walk (x y : Int) (a : Option Addr) (cap : Nat) (acts : List ActT) (z : Int) (w : World) (_hx : (Lit.int .i64 x).wf = true) (_hy : (Lit.int .i64 y).wf = true) (hA : IsActs w a acts) (_hz : (Lit.int .i64 z).wf = true) :
    Calls Try.prog 4 #[.int .i64 x, .int .i64 y, .slice a acts.length cap, .int .i64 z] w fun e w' => e = .returned (.bool true) ∧ Below w.heap.size w w' := by
  have hmax := hA.1
  unfold maxLen at hmax
  have HA := Lib.hid hA
  clear hA
  go_enter Try.func4, Try.ntmps4
  go_wp2_with fail
  refine (long_any a cap acts w HA.out).mono ?_
  rintro e w1 ⟨b1, rfl, hc1⟩
  cases b1 with
  | true =>
    go_wp2_with fail
    refine (awake_any _).mono ?_
    rintro e w9 ⟨rfl, hc9⟩
    go_wp2
    go_ret
    exact ⟨rfl, (hc1.trans hc9).below (Nat.le_refl _) (by simp)⟩
  | false =>
    go_wp2_with fail
    refine (awake_any _).mono ?_
    rintro e w3 ⟨rfl, dc3⟩
    have hc3 := hc1.trans dc3
    obtain ⟨n, hn⟩ : ∃ n, n = flN x := ⟨_, rfl⟩
    obtain ⟨m, hm⟩ : ∃ m, m = wtN y := ⟨_, rfl⟩
    obtain ⟨L, hL⟩ : ∃ L, L = runF n m [] acts := ⟨_, rfl⟩
    have HN := Lib.hid hn
    have HM := Lib.hid hm
    have HL := Lib.hid hL
    clear hn hm hL hc1 dc3
    go_wp2_with fail
    refine (made_any x y a cap acts n m L w3 (HA.out.chg hc3) HN HM HL).mono ?_
    rintro e w4 ⟨tb, rfl, F4, hF4, hlo4, dc4⟩
    have hc4 := hc3.trans dc4
    have hlow : ∀ y ∈ F4, w.heap.size ≤ y := fun y hy => Nat.le_trans hc3.size (hlo4 y hy)
    have HLOW := Lib.hid hlow
    clear hlo4 hlow dc4 hc3
    go_wp2_with fail
    refine (row_any F4 tb n m L w4 hF4).mono ?_
    rintro e w5 ⟨v5, rfl, ho5, hc5⟩
    have hF5 := hF4.same hc5
    have hc5' := hc4.trans hc5
    have hlt4 := hF4.lt
    have hok := hF5.ok
    obtain ⟨ra, rc, rfl⟩ := ho5.len
    obtain ⟨ln, hln⟩ : ∃ ln, ln = (slotsF L).length := ⟨_, rfl⟩
    have hl32 : ln ≤ 32 := by have := hok.len; have := hF5.n32; rw [hln]; simp [slotsF]; omega
    rw [← hln] at ho5 ⊢
    have HO5 := Lib.hid ho5
    have HF5 := Lib.hid hF5
    have HLN := Lib.hid hln
    have HLT4 := Lib.hid hlt4
    have HOK := Lib.hid hok
    clear ho5 hF5 hc5 hF4 hok hln hc4 hlt4
    by_cases h0 : ln = 0
    · subst h0
      go_wp2
      go_ret
      exact ⟨rfl, hc5'.below (Nat.le_refl _) (by simp)⟩
    · have t0 : ((ln : Int) == 0) = false := by simp; omega
      have ho5 := HO5.out
      rw [HLN.out] at ho5
      obtain ⟨rb, rc', er, hrb, hrb2, hcell⟩ := ho5.cells sV_len (by rw [← HLN.out]; omega)
      have e1 := (Value.slice.inj er).1
      subst e1
      obtain ⟨_, _, c5, hb5⟩ := ho5.blk rb rfl
      have hrcl : ln ≤ rc := by have := ownR_cap HO5.out; rw [HLN.out]; exact this
      have hcc : ∀ i (hi : i < (slotsF L).length), c5[i]? = some (.int .i64 ((slotsF L)[i] : Nat)) := by
        intro i hi
        have := hcell i hi 0 (.int .i64 ((slotsF L)[i] : Nat)) rfl
        rw [Nat.mul_one, Nat.add_zero, cell_of hb5] at this
        exact this
      have HCC := Lib.hid hcc
      clear hcc
      have hI : FInP [(rb, .cells c5 3 (0, 0))] w w5 tb n m L := ⟨F4, HF5.out, fun y hy => ⟨HLOW.out y hy, fun p hp => by simp at hp; subst hp; have := HLT4.out y hy; show y ≠ rb; omega⟩, fun p hp => by simp at hp; subst hp; exact hb5, hc5'⟩
      obtain ⟨k, hk⟩ : ∃ k, k = (z % 18446744073709551616).toNat % ln := ⟨_, rfl⟩
      have hkl : k < ln := by rw [hk]; exact Nat.mod_lt _ (by omega)
      have ek := k_eq z ln h0 hl32
      rw [← hk] at ek
      have hks : k < (slotsF L).length := by rw [← HLN.out]; exact hkl
      obtain ⟨f, a', hAg⟩ := HOK.out.again hks
      obtain ⟨s, hs⟩ : ∃ s, s = (slotsF L)[k] := ⟨_, rfl⟩
      rw [← hs] at hAg
      have ck : w5.cell? ⟨rb, k, none⟩ = some (.int .i64 (s : Nat)) := by
        have := hcell k hks 0 (.int .i64 ((slotsF L)[k] : Nat)) rfl
        rw [Nat.mul_one, Nat.add_zero, ← hs] at this
        exact this
      have HI := Lib.hid hI
      have HAG := Lib.hid hAg
      have HS := Lib.hid hs
      have HOC := Lib.hid hcell
      have HC5 := Lib.hid hc5'
      clear hI hAg hs hcell hb5 ho5 er hk hc5' HO5 HF5
      go_wp2_with fail
      refine (quest_p HI.out s f.q true HAG.out.quest HAG.out.use.symm).mono ?_
      rintro e w6 ⟨rfl, hc6⟩
      have HI6 := Lib.hid (HI.out.same hc6)
      have HQ := Lib.hid (HOK.out.okQ f HAG.out.mem)
      clear hc6 ck HI
      go_wp2_with fail
      obtain ⟨qb, hqb⟩ : ∃ qb, qb = w6.heap.size := ⟨_, rfl⟩
      rw [← hqb]
      refine calls_abs ?_
      intro W hW
      have hWb : W.heap[qb]? = some (.cells #[.string (bytesV f.q.name), .int .u16 (f.q.ty : Nat), .int .u16 (f.q.cl : Nat)] 25 (0, 0)) := by rw [hW]; exact heap_new' _ _ _ hqb
      have HI7 := Lib.hid (HI6.out.add (w2 := W) (by rw [hW]; exact (Chg.refl _ _).alloc _) hWb (by omega))
      clear hW hWb hqb HI6
      refine (waits_p HI7.out s f.ws.length HAG.out.wait).mono ?_
      rintro e w8 ⟨rfl, rfl⟩
      go_wp2_with fail
      refine (end_p _ w W tb n m L s 0 _ _ HI7.out HAG.out.err HAG.out.ended HAG.out.told).mono ?_
      rintro e w9 ⟨ea, ec, rfl, hI9⟩
      have q9 : w9.heap[qb]? = some (.cells #[.string (bytesV f.q.name), .int .u16 (f.q.ty : Nat), .int .u16 (f.q.cl : Nat)] 25 (0, 0)) := hI9.at' List.mem_cons_self
      have k0 : w9.cell? ⟨qb, 0, none⟩ = some (.string (bytesV f.q.name)) := cell_of q9
      have k1 : w9.cell? ⟨qb, 1, none⟩ = some (.int .u16 (f.q.ty : Nat)) := cell_of q9
      have k2 : w9.cell? ⟨qb, 2, none⟩ = some (.int .u16 (f.q.cl : Nat)) := cell_of q9
      have HI9 := Lib.hid hI9
      clear hI9 q9 HI7
      go_wp2_with fail
      refine (find_p HI9.out f.q 0 false HQ.out HAG.out.unfoundAt HAG.out.unfound).mono ?_
      rintro e w10 ⟨rfl, hc10⟩
      have HI10 := Lib.hid (HI9.out.same hc10)
      clear hc10 HI9 k0 k1 k2
      go_wp2_with fail
      refine (end_p _ w w10 tb n m _ s 6 _ _ HI10.out HAG.out.err2 HAG.out.ended2 HAG.out.told2).mono ?_
      rintro e w11 ⟨fa, fc, rfl, hI11⟩
      have HI11 := Lib.hid hI11
      clear hI11 HI10
      go_wp2_with fail
      have q11 : w11.heap[rb]? = some (.cells c5 3 (0, 0)) := HI11.out.at' (p := (rb, .cells c5 3 (0, 0))) (by simp)
      have HSRC1 : Hid (∀ W : World, Chg [] w11 W → ∀ j u, (((slotsF L).take k).flatMap sV)[j]? = some u → W.cell? ((⟨rb, 0, none⟩ : Addr).add j) = some u) := Lib.hid (fun W hW => news_s fun i hi => by
        have hi2 : i < k ∧ i < (slotsF L).length := by simp at hi; omega
        rw [cell_of (hW.keep q11 (by simp)), Nat.zero_add, HCC.out i hi2.2, List.getElem_take])
      have hlnl := HLN.out
      obtain ⟨pS, eS, hpS⟩ : ∃ pS : Addr, (if rc = k + 1 then some (⟨rb, 0, none⟩ : Addr) else some ⟨rb, k + 1, none⟩) = some pS ∧ (rc = k + 1 ∨ pS = ⟨rb, k + 1, none⟩) := by
        by_cases h : rc = k + 1
        · exact ⟨⟨rb, 0, none⟩, if_pos h, .inl h⟩
        · exact ⟨⟨rb, k + 1, none⟩, if_neg h, .inr rfl⟩
      have HSRC2 : Hid (∀ W : World, Chg [] w11 W → ∀ j u, (((slotsF L).drop (k + 1)).flatMap sV)[j]? = some u → W.cell? (pS.add j) = some u) := Lib.hid (fun W hW j u hu => by
        rcases hpS with h | h
        · rw [List.drop_of_length_le (by omega)] at hu
          simp at hu
        · rw [h]
          refine news_s (fun i hi => ?_) j u hu
          have hi2 : k + 1 + i < (slotsF L).length := by simp at hi; omega
          rw [cell_of (hW.keep q11 (by simp)), HCC.out (k + 1 + i) hi2, List.getElem_drop])
      have HL1 : Hid ((((slotsF L).take k).flatMap sV).length = k * 1) := Lib.hid (by rw [R.flat_len sV 1 sV_len, List.length_take]; omega)
      have HL2 : Hid ((((slotsF L).drop (k + 1)).flatMap sV).length = (ln - (k + 1)) * 1) := Lib.hid (by rw [R.flat_len sV 1 sV_len, List.length_drop, HLN.out])
      have HNEW := Lib.hid (owns_none w11 3)
      obtain ⟨j0, z0, hj0, hy0, hy1, hy2, hy3⟩ := info_sizes Try.elemI27
      have e1 : IntKind.i64.wrap ((k : Int) + 1) = (k : Int) + 1 := IntWalk.i64_in _ (by omega)
      have e2 : ((k : Int) + 1).toNat = k + 1 := by omega
      have i3 : (0 : Int) ≤ (k : Int) + 1 := by omega
      have i4 : (k : Int) + 1 ≤ (ln : Int) := by omega
      have i5 : (k : Int) ≤ (rc : Int) := by omega
      have i6 : (ln : Int) ≤ (rc : Int) := by omega
      have i7 : (0 : Int) ≤ (k : Int) := by omega
      have HLE : Hid (ln ≤ 32 ∧ k < ln ∧ ln ≤ rc) := Lib.hid ⟨hl32, hkl, hrcl⟩
      have ES := Lib.hid eS
      clear q11 hpS eS
      clear hrcl hlnl
      go_region_law (first | (refine step_append_own' _ rfl (.tmp 84) (.tmp 87) 48 rfl w11.heap.size 3 j0 z0 1 8 Try.underlying48 hj0 hy0 hy1 hy2 hy3 (by decide) (.slice (some ⟨w11.heap.size, 0, none⟩) 0 0) 0 [] rfl HNEW.out ⟨rb, 0, none⟩ k rc (((slotsF L).take k).flatMap sV) rfl HL1.out (HSRC1.out _ (((Chg.refl [] w11).alloc (.cells #[] 3)).drew)) (one_s _) k (Nat.zero_add k) _ (List.nil_append _) (by have := HLE.out; unfold maxLen; omega) (by have := HLE.out; omega) (by simp) ?_; intro b6 c6 w12 own6 hg6 _; have hc6 : Chg [] w11 w12 := (((Chg.refl [] w11).alloc (.cells #[] 3)).drew).grown hg6 (fun k hk => (by injection hk with hk; subst hk; exact .inr (Nat.le_refl _)))) | (refine step_append_own' _ rfl (.tmp 88) (.tmp 92) 48 rfl w11.heap.size 3 j0 z0 1 8 Try.underlying48 hj0 hy0 hy1 hy2 hy3 (by decide) (.slice b6 k c6) k _ rfl own6 pS (ln - (k + 1)) (rc - (k + 1)) (((slotsF L).drop (k + 1)).flatMap sV) (congrArg (fun z => Value.slice z (ln - (k + 1)) (rc - (k + 1))) ES.out) HL2.out (HSRC2.out _ hc6) (one_s _) (ln - 1) (by have := HLE.out; omega) _ rfl (by have := HLE.out; unfold maxLen; omega) (by have := HLE.out; omega) hc6.size ?_; intro b7 c7 w13 own7 hg7 _; have hc7 : Chg [] w11 w13 := hc6.grown hg7 (fun g hg => .inr (own_base own6 g hg))))
      obtain ⟨RL, hRL⟩ : ∃ RL, RL = (slotsF L).take k ++ (slotsF L).drop (k + 1) := ⟨_, rfl⟩
      obtain ⟨rl, hrl⟩ : ∃ rl, rl = ln - 1 := ⟨_, rfl⟩
      rw [ES.out]
      rw [← hrl] at own7 ⊢
      have hRl : RL.length = rl := by
        have := HLN.out
        rw [hRL, hrl, List.length_append, List.length_take, List.length_drop]
        omega
      have ho13 : R.OwnR 3 1 sV w11.heap.size w13 (.slice b7 rl c7) RL := by
        unfold R.OwnR
        rw [hRl, hRL, List.flatMap_append]
        exact own7
      obtain ⟨po, hI13, hkp⟩ := HI11.out.own hc7 ho13
      have HS11 := Lib.hid HI11.out.chg.size
      have HI13 := Lib.hid hI13
      have HKP := Lib.hid hkp
      have HRL := Lib.hid hRL
      have HRl := Lib.hid hRl
      have hrl100 : rl ≤ 100 := by have := HLE.out; omega
      clear own7 hg7 hc7 own6 hg6 hc6 ho13 hI13 hkp hRL hRl hrl HSRC1 HSRC2 HL1 HL2 ES HI11 HNEW e1 e2 i3 i4 i5 i6 i7 HOC
      go_wp2_with fail
      refine (join_p _ w w13 tb n m _ s ⟨0, []⟩ 6 _ HI13.out HAG.out.joined).mono ?_
      rintro e w14 ⟨rfl, hI14⟩
      have HI14 := Lib.hid hI14
      clear hI14
      go_wp2_with fail
      refine (row_p HI14.out RL (by rw [HAG.out.rest, HRL.out])).mono ?_
      rintro e w15 ⟨ta, tc, rfl, ho15, hc15⟩
      rw [HRl.out]
      have hI15 := HI14.out.same hc15
      have HO15 := Lib.hid ho15
      have HI15 := Lib.hid hI15
      clear ho15 hc15 hI15
      go_wp2_with fail
      refine (ints_same _ _ RL w15 ?_ ?_ (by rw [HRl.out]; omega)).mono ?_
      · have := row_own HO15.out
        rw [HRl.out] at this
        exact this
      · exact row_own (HKP.out w15 fun p hp => HI15.out.at' (List.mem_append_left _ hp))
      rintro e w16 ⟨rfl, hc16⟩
      have hI16 := HI15.out.same hc16
      have q16 : w16.heap[qb]? = some (.cells #[.string (bytesV f.q.name), .int .u16 (f.q.ty : Nat), .int .u16 (f.q.cl : Nat)] 25 (0, 0)) := hI16.at' (p := (qb, .cells #[.string (bytesV f.q.name), .int .u16 (f.q.ty : Nat), .int .u16 (f.q.cl : Nat)] 25 (0, 0))) (by simp)
      have k0 : w16.cell? ⟨qb, 0, none⟩ = some (.string (bytesV f.q.name)) := cell_of q16
      have k1 : w16.cell? ⟨qb, 1, none⟩ = some (.int .u16 (f.q.ty : Nat)) := cell_of q16
      have k2 : w16.cell? ⟨qb, 2, none⟩ = some (.int .u16 (f.q.cl : Nat)) := cell_of q16
      have HI16 := Lib.hid hI16
      clear hI16 hc16 q16
      go_wp2_with fail
      refine (begin_p _ w w16 tb n m _ f.q a' 0 _ HI16.out HQ.out HAG.out.begun).mono ?_
      rintro e w17 ⟨rfl, hI17⟩
      have HI17 := Lib.hid hI17
      clear hI17 k0 k1 k2
      go_wp2_with fail
      refine (waits_p HI17.out a' 0 HAG.out.none2).mono ?_
      rintro e w18 ⟨rfl, rfl⟩
      go_wp2_with fail
      refine (row_p HI17.out (RL ++ [a']) (by rw [HAG.out.rest2, HRL.out])).mono ?_
      rintro e w19 ⟨ua, uc, rfl, ho19, hc19⟩
      have hul : (RL ++ [a']).length = rl + 1 := by rw [List.length_append, HRl.out]; rfl
      rw [hul] at ho19 ⊢
      have hI19 := HI17.out.same hc19
      have hr17 := HKP.out w17 fun p hp => HI17.out.at' (List.mem_append_left _ hp)
      have hr19 := (HKP.out w19 fun p hp => hI19.at' (List.mem_append_left _ hp)).low (Nat.zero_le _)
      have hne : ∀ g, (Value.slice b7 rl c7).ownBlock = some g → w.heap.size ≤ g ∧ g < w17.heap.size := fun g hg => ⟨Nat.le_trans HS11.out (hr17.blk g hg).1, (hr17.blk g hg).2.1⟩
      have hown : (w19.alloc (.cells #[.int .i64 (a' : Nat)] 3)).ownsRow 0 3 1 (.slice b7 rl c7) rl (RL.flatMap sV) := by
        have := hr19.same ((Chg.refl [] _).alloc (.cells #[.int .i64 (a' : Nat)] 3))
        unfold R.OwnR at this
        rw [HRl.out] at this
        exact this
      have tle : decide (a' ≤ s) = true := by simpa using HAG.out.le
      have tleI : decide ((a' : Int) ≤ (s : Int)) = true := by have := HAG.out.le; simp; omega
      have HOWN := Lib.hid hown
      have HNE := Lib.hid hne
      have HO19 := Lib.hid ho19
      have HC19 := Lib.hid (hI19.chg)
      have HUL := Lib.hid hul
      clear ho19 hc19 hI19 hr17 hr19 hne hown hul
      go_wp2_with (first | (at_builtin; go_must (refine wpList_append_want rfl (.tmp 144) (.tmp 146) 48 rfl 0 3 j0 z0 1 8 Try.underlying48 hj0 hy0 hy1 hy2 hy3 (by decide) (.slice b7 rl c7) rl _ rfl HOWN.out (some ⟨w19.heap.size, 0, none⟩) 1 1 [.int .i64 (a' : Nat)] rfl (by simp) (by simp) rfl ?_ (by intro u hu; simp at hu; subst hu; rfl) (by unfold maxLen; omega) (by omega) (by simp) ?_)) | fail)
      · intro p hp j u hu
        cases hp
        exact World.news_of_block (heap_new _ _) j u (by simpa using hu)
      · intro v20 w20 hown20 hg20 _
        have ho20 : R.OwnR 3 1 sV 0 w20 v20 (RL ++ [a']) := by
          refine R.OwnR.snoc ?_
          rw [HRl.out]
          exact hown20
        have hk20 : R.OwnR 3 1 sV w17.heap.size w20 (.slice ua (rl + 1) uc) (RL ++ [a']) := by
          refine HO19.out.keep fun g hg => ?_
          have hg1 := HO19.out.blk g hg
          rw [hg20.block g (by simp; omega) (fun e => by have := HNE.out g e.symm; omega), Below.heap_alloc _ _ _ hg1.2.1]
        obtain ⟨va, vc, rfl⟩ := ho20.len
        rw [HUL.out] at ho20 ⊢
        have hc20 : Chg [] w w20 := (HC19.out.alloc _).grown hg20 (fun g hg => .inr (HNE.out g hg).1)
        have HO20 := Lib.hid ho20
        have HK20 := Lib.hid hk20
        clear ho20 hk20 hown20 hg20
        go_wp2_with fail
        refine (ints_same _ _ (RL ++ [a']) w20 (row_own HK20.out) (row_own HO20.out) (by rw [HUL.out]; omega)).mono ?_
        rintro e w21 ⟨rfl, hc21⟩
        go_wp2
        go_ret
        exact ⟨rfl, (hc20.trans hc21).below (Nat.le_refl _) (by simp)⟩

end Go.Proofs.Ytopkbchjlifflaa
